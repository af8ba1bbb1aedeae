import Derived.Test.YthgcooppjhcgcaaDoorK3c2846c3c
import Derived.Test.YthgcooppjhcgcaaDoorRows
import Derived.Test.YthgcooppjhcgcaaDoorCards
import Derived.Test.YthgcooppjhcgcaaDoorTie
import Derived.Test.YthgcooppjhcgcaaDoorK2023f9a05
import Derived.ProofKit
import Derived.LaidMore
import Derived.OpenShut
import Derived.Stop.Joined
import Derived.SevenTiedAt
import Derived.MakeChecks
section
set_option linter.unusedSimpArgs false
set_option linter.unusedVariables false
/- Codec: contracts: the list that stands ahead. -/
namespace Go.Proofs.YthgcooppjhcgcaaDoor
namespace Am
attribute [local irreducible] ACallsTo ACallsP
def hsAt (r : List UInt8) (i : Nat) : Hash := toH ((r.drop (32 * i)).take 32)
def hsOf (r : List UInt8) (n : Nat) : List Hash := (List.range n).map (hsAt r)
theorem hsOf_len (r : List UInt8) (n : Nat) : (hsOf r n).length = n := by simp [hsOf]
theorem hsOf_succ (r : List UInt8) (n : Nat) : hsOf r (n + 1) = hsOf r n ++ [hsAt r n] := by simp [hsOf, List.range_succ]
def unsS (s : List UInt8) : Option (List Hash × List UInt8) := (readS s).bind fun x => if x.1 ≤ 64 ∧ 32 * x.1 ≤ x.2.length then some (hsOf x.2 x.1, x.2.drop (32 * x.1)) else none
def unsV : Option (List Hash × List UInt8) → AV
  | none => .tup [.nilsl, .str [], .bool false]
  | some (l, r) => .tup [slVal 32 (hr l), .str r, .bool true]
theorem rl_nst {k : Nat} {r : List UInt8} {b : Bool} : RL k (.tup [.nilsl, .str r, .bool b]) := by simp only [RL, RLs]; exact ⟨trivial, trivial, trivial, trivial⟩
theorem un_at {r : List UInt8} {i : Nat} (h : 32 * i + 32 ≤ r.length) : unS (r.drop (32 * i)) = some (hsAt r i, r.drop (32 * (i + 1))) := by
  rw [unS_some (by rw [List.length_drop]; omega), List.drop_drop]; rfl
set_option maxHeartbeats 8000000 in
theorem codec_Unhashes_to (σ : Store) (s : List UInt8) (hs : s.length < 1000000000) : ACallsTo TC 105 [.str s] σ (unsV (unsS s)) σ := by
  refine ACallsTo.of_body codec_Unhashes_ok (by simp) fun hw _ => ?_
  have hR := fun σ => codec_Read_to σ s hs
  unfold unsS
  cases hrd : readS s with
  | none =>
    rw [hrd] at hR
    unfold rdV at hR
    simp only [Option.bind_none, unsV]
    repeat' (first | refine SWp.seq ?_ | refine SWp.block ?_ | refine SWp.scope ?_ | refine SWp.condT rfl ?_ | refine SWp.condF rfl ?_ | (refine SWp.condD rfl (fun ht => ?_) (fun ht => ?_) <;> try (exfalso; omega)) | ((first | refine SWp.reg ?_ | refine SWp.skip ?_ | refine SWp.exit ?_ | refine SWp.ret ?_ | (apply callW.mk_pu; (first | exact (fun _ => hR _))) | (apply callW.any; (first | exact (hR _))) | ((first | apply splitG | apply splitGB | apply splitR | apply splitRB | apply splitE | apply splitEB | apply splitC | apply splitCB) <;> intro ht)); all_goals try simp (disch := first | omega | (simp only [lens, hc_len, hr_len, List.length_reverse, byteEs_len, byteEsC_len, List.length_drop]; first | done | omega)) only [go_sem, Nat.reduceEqDiff, Nat.reduceBEq, Nat.reduceAdd, Nat.reduceMul, Nat.reduceSub, Nat.reduceLeDiff, Int.reduceToNat, Int.reducePow]))
    exact DownV.same hw rl_nst
  | some x =>
    obtain ⟨n, r⟩ := x
    obtain ⟨h1, h2⟩ := readS_lt hrd
    rw [hrd] at hR
    unfold rdV at hR
    simp only [Option.bind_some]
    by_cases hn : n ≤ 64
    · repeat' (first | refine SWp.seq ?_ | refine SWp.block ?_ | refine SWp.scope ?_ | refine SWp.condT rfl ?_ | refine SWp.condF rfl ?_ | (refine SWp.condD rfl (fun ht => ?_) (fun ht => ?_) <;> try (exfalso; omega)) | ((first | refine SWp.reg ?_ | refine SWp.skip ?_ | refine SWp.exit ?_ | refine SWp.ret ?_ | (apply callW.mk_pu; (first | exact (fun _ => hR _))) | (apply callW.any; (first | exact (hR _))) | ((first | apply splitG | apply splitGB | apply splitR | apply splitRB | apply splitE | apply splitEB | apply splitC | apply splitCB) <;> intro ht)); all_goals try simp (disch := first | omega | (simp only [lens, hc_len, hr_len, List.length_reverse, byteEs_len, byteEsC_len, List.length_drop]; first | done | omega)) only [go_sem, Nat.reduceEqDiff, Nat.reduceBEq, Nat.reduceAdd, Nat.reduceMul, Nat.reduceSub, Nat.reduceLeDiff, Int.reduceToNat, Int.reducePow]))
      refine SWp.loop (fun m ρ σ' => ∃ (i : Nat) (v : AV), m + i = n ∧ 32 * i ≤ r.length ∧ OwnR 32 σ.length σ' v (hr (hsOf r i)) ∧ Ext σ σ' ∧ ρ 2 = v ∧ ρ 3 = .str (r.drop (32 * i)) ∧ ρ 5 = .int .u64 m) n ?_ ?_
      · exact ⟨0, .nilsl, by omega, by omega, OwnR.nil, Ext.refl _, by simp (disch := first | omega | (simp only [lens, hc_len, hr_len, List.length_reverse, byteEs_len, byteEsC_len, List.length_drop]; first | done | omega)) only [go_sem, Nat.reduceEqDiff, Nat.reduceBEq, Nat.reduceAdd, Nat.reduceMul, Nat.reduceSub, Nat.reduceLeDiff, Int.reduceToNat, Int.reducePow], by simp (disch := first | omega | (simp only [lens, hc_len, hr_len, List.length_reverse, byteEs_len, byteEsC_len, List.length_drop]; first | done | omega)) only [go_sem, Nat.reduceEqDiff, Nat.reduceBEq, Nat.reduceAdd, Nat.reduceMul, Nat.reduceSub, Nat.reduceLeDiff, Int.reduceToNat, Int.reducePow], by simp (disch := first | omega | (simp only [lens, hc_len, hr_len, List.length_reverse, byteEs_len, byteEsC_len, List.length_drop]; first | done | omega)) only [go_sem, Nat.reduceEqDiff, Nat.reduceBEq, Nat.reduceAdd, Nat.reduceMul, Nat.reduceSub, Nat.reduceLeDiff, Int.reduceToNat, Int.reducePow]⟩
      · rintro m ρ σ' ⟨i, v, hm, hir, hO, he, q2, q3, q5⟩
        have hle := he.le
        by_cases hi : i < n
        · by_cases hlen : 32 * i + 32 ≤ r.length
          · have hU := fun σ => codec_Unhash_to σ (r.drop (32 * i)) (by rw [List.length_drop]; omega)
            rw [un_at hlen, unV_some] at hU
            have hss := hsOf_succ r i
            generalize hsAt r i = h at *
            obtain ⟨v', σ2, ha, hO2, hk2, hE2, hl2⟩ := (hO.more (y := [some [hc h]])).app (ys := [hc h]) (by simp; omega) (by simp) (by rw [hr_len, hsOf_len]; simp; omega)
            have hcat : hr (hsOf r i) ++ [hc h] = hr (hsOf r (i + 1)) := by rw [hss, hr_app]; rfl
            rw [hcat] at hO2
            have hm1 : (m : Int) - 1 = ((m - 1 : Nat) : Int) := by omega
            repeat' (first | refine SWp.seq ?_ | refine SWp.block ?_ | refine SWp.scope ?_ | refine SWp.condT rfl ?_ | refine SWp.condF rfl ?_ | (refine SWp.condD rfl (fun ht => ?_) (fun ht => ?_) <;> try (exfalso; omega)) | ((first | refine SWp.reg ?_ | refine SWp.skip ?_ | refine SWp.exit ?_ | refine SWp.ret ?_ | (apply callW.mk_pu; (first | exact (fun _ => hU _))) | (apply callW.any; (first | exact (hU _))) | ((first | apply splitG | apply splitGB | apply splitR | apply splitRB | apply splitE | apply splitEB | apply splitC | apply splitCB) <;> intro ht)); all_goals try simp (disch := first | omega | (simp only [lens, hc_len, hr_len, List.length_reverse, byteEs_len, byteEsC_len, List.length_drop]; first | done | omega)) only [go_sem, Nat.reduceEqDiff, Nat.reduceBEq, Nat.reduceAdd, Nat.reduceMul, Nat.reduceSub, Nat.reduceLeDiff, Int.reduceToNat, Int.reducePow, q2, q3, q5, ha, hm1]))
            exact ⟨m - 1, by omega, i + 1, v', by omega, by omega, hO2, hE2 σ (Nat.le_refl _) he.app, by simp⟩
          · have hU := fun σ => codec_Unhash_to σ (r.drop (32 * i)) (by rw [List.length_drop]; omega)
            rw [unS_none (by rw [List.length_drop]; omega), unV_none] at hU
            rw [if_neg (by omega)]
            simp only [unsV]
            have hzl := z32_len
            generalize z32 = z at *
            repeat' (first | refine SWp.seq ?_ | refine SWp.block ?_ | refine SWp.scope ?_ | refine SWp.condT rfl ?_ | refine SWp.condF rfl ?_ | (refine SWp.condD rfl (fun ht => ?_) (fun ht => ?_) <;> try (exfalso; omega)) | ((first | refine SWp.reg ?_ | refine SWp.skip ?_ | refine SWp.exit ?_ | refine SWp.ret ?_ | (apply callW.mk_pu; (first | exact (fun _ => hU _))) | (apply callW.any; (first | exact (hU _))) | ((first | apply splitG | apply splitGB | apply splitR | apply splitRB | apply splitE | apply splitEB | apply splitC | apply splitCB) <;> intro ht)); all_goals try simp (disch := first | omega | (simp only [lens, hc_len, hr_len, List.length_reverse, byteEs_len, byteEsC_len, List.length_drop]; first | done | omega)) only [go_sem, Nat.reduceEqDiff, Nat.reduceBEq, Nat.reduceAdd, Nat.reduceMul, Nat.reduceSub, Nat.reduceLeDiff, Int.reduceToNat, Int.reducePow, q2, q3, q5, hzl]))
            exact Ext.pure hw he.app rl_nst
        · obtain rfl : i = n := by omega
          obtain rfl : m = 0 := by omega
          rw [if_pos ⟨hn, hir⟩]
          simp only [unsV]
          repeat' (first | refine SWp.seq ?_ | refine SWp.block ?_ | refine SWp.scope ?_ | refine SWp.condT rfl ?_ | refine SWp.condF rfl ?_ | (refine SWp.condD rfl (fun ht => ?_) (fun ht => ?_) <;> try (exfalso; omega)) | ((first | refine SWp.reg ?_ | refine SWp.skip ?_ | refine SWp.exit ?_ | refine SWp.ret ?_ | ((first | apply splitG | apply splitGB | apply splitR | apply splitRB | apply splitE | apply splitEB | apply splitC | apply splitCB) <;> intro ht)); all_goals try simp (disch := first | omega | (simp only [lens, hc_len, hr_len, List.length_reverse, byteEs_len, byteEsC_len, List.length_drop]; first | done | omega)) only [go_sem, Nat.reduceEqDiff, Nat.reduceBEq, Nat.reduceAdd, Nat.reduceMul, Nat.reduceSub, Nat.reduceLeDiff, Int.reduceToNat, Int.reducePow, q2, q3, q5]))
          exact Ext.all hw he fun news e => drT (drsc (hO.fr e (Nat.le_refl _) (rlss_hr _)) (drsc (FrzD.same rl_str) (drs1 (FrzD.same rl_bool))))
    · rw [if_neg (by omega)]
      simp only [unsV]
      repeat' (first | refine SWp.seq ?_ | refine SWp.block ?_ | refine SWp.scope ?_ | refine SWp.condT rfl ?_ | refine SWp.condF rfl ?_ | (refine SWp.condD rfl (fun ht => ?_) (fun ht => ?_) <;> try (exfalso; omega)) | ((first | refine SWp.reg ?_ | refine SWp.skip ?_ | refine SWp.exit ?_ | refine SWp.ret ?_ | (apply callW.mk_pu; (first | exact (fun _ => hR _))) | (apply callW.any; (first | exact (hR _))) | ((first | apply splitG | apply splitGB | apply splitR | apply splitRB | apply splitE | apply splitEB | apply splitC | apply splitCB) <;> intro ht)); all_goals try simp (disch := first | omega | (simp only [lens, hc_len, hr_len, List.length_reverse, byteEs_len, byteEsC_len, List.length_drop]; first | done | omega)) only [go_sem, Nat.reduceEqDiff, Nat.reduceBEq, Nat.reduceAdd, Nat.reduceMul, Nat.reduceSub, Nat.reduceLeDiff, Int.reduceToNat, Int.reducePow]))
      exact DownV.same hw rl_nst
set_option maxHeartbeats 8000000 in
theorem ref_Unhashes_to (σ : Store) (s : List UInt8) (hs : s.length < 1000000000) : ACallsTo TC 110 [.str s] σ (unsV (unsS s)) σ := by
  refine ACallsTo.of_body speculumref03_Unhashes_ok (by simp) fun hw _ => ?_
  have hR := fun σ => ref_Read_to σ s hs
  unfold unsS
  cases hrd : readS s with
  | none =>
    rw [hrd] at hR
    unfold rdV at hR
    simp only [Option.bind_none, unsV]
    repeat' (first | refine SWp.seq ?_ | refine SWp.block ?_ | refine SWp.scope ?_ | refine SWp.condT rfl ?_ | refine SWp.condF rfl ?_ | (refine SWp.condD rfl (fun ht => ?_) (fun ht => ?_) <;> try (exfalso; omega)) | ((first | refine SWp.reg ?_ | refine SWp.skip ?_ | refine SWp.exit ?_ | refine SWp.ret ?_ | (apply callW.mk_pu; (first | exact (fun _ => hR _))) | (apply callW.any; (first | exact (hR _))) | ((first | apply splitG | apply splitGB | apply splitR | apply splitRB | apply splitE | apply splitEB | apply splitC | apply splitCB) <;> intro ht)); all_goals try simp (disch := first | omega | (simp only [lens, hc_len, hr_len, List.length_reverse, byteEs_len, byteEsC_len, List.length_drop]; first | done | omega)) only [go_sem, Nat.reduceEqDiff, Nat.reduceBEq, Nat.reduceAdd, Nat.reduceMul, Nat.reduceSub, Nat.reduceLeDiff, Int.reduceToNat, Int.reducePow]))
    exact DownV.same hw rl_nst
  | some x =>
    obtain ⟨n, r⟩ := x
    obtain ⟨h1, h2⟩ := readS_lt hrd
    rw [hrd] at hR
    unfold rdV at hR
    simp only [Option.bind_some]
    by_cases hn : n ≤ 64 ∧ 32 * n ≤ r.length
    · obtain ⟨hn1, hn2⟩ := hn
      rw [if_pos ⟨hn1, hn2⟩]
      simp only [unsV]
      repeat' (first | refine SWp.seq ?_ | refine SWp.block ?_ | refine SWp.scope ?_ | refine SWp.condT rfl ?_ | refine SWp.condF rfl ?_ | (refine SWp.condD rfl (fun ht => ?_) (fun ht => ?_) <;> try (exfalso; omega)) | ((first | refine SWp.reg ?_ | refine SWp.skip ?_ | refine SWp.exit ?_ | refine SWp.ret ?_ | (apply callW.mk_pu; (first | exact (fun _ => hR _))) | (apply callW.any; (first | exact (hR _))) | ((first | apply splitG | apply splitGB | apply splitR | apply splitRB | apply splitE | apply splitEB | apply splitC | apply splitCB) <;> intro ht)); all_goals try simp (disch := first | omega | (simp only [lens, hc_len, hr_len, List.length_reverse, byteEs_len, byteEsC_len, List.length_drop]; first | done | omega)) only [go_sem, Nat.reduceEqDiff, Nat.reduceBEq, Nat.reduceAdd, Nat.reduceMul, Nat.reduceSub, Nat.reduceLeDiff, Int.reduceToNat, Int.reducePow]))
      refine SWp.loop (fun m ρ σ' => ∃ (i : Nat) (v : AV), m + i = n ∧ OwnR 32 σ.length σ' v (hr (hsOf r i)) ∧ Ext σ σ' ∧ ρ 5 = .int .u64 n ∧ ρ 6 = .str (r.drop (32 * i)) ∧ ρ 8 = v ∧ ρ 9 = .int .i64 i) n ?_ ?_
      · exact ⟨0, .nilsl, by omega, OwnR.nil, Ext.refl _, by simp (disch := first | omega | (simp only [lens, hc_len, hr_len, List.length_reverse, byteEs_len, byteEsC_len, List.length_drop]; first | done | omega)) only [go_sem, Nat.reduceEqDiff, Nat.reduceBEq, Nat.reduceAdd, Nat.reduceMul, Nat.reduceSub, Nat.reduceLeDiff, Int.reduceToNat, Int.reducePow], by simp (disch := first | omega | (simp only [lens, hc_len, hr_len, List.length_reverse, byteEs_len, byteEsC_len, List.length_drop]; first | done | omega)) only [go_sem, Nat.reduceEqDiff, Nat.reduceBEq, Nat.reduceAdd, Nat.reduceMul, Nat.reduceSub, Nat.reduceLeDiff, Int.reduceToNat, Int.reducePow], by simp (disch := first | omega | (simp only [lens, hc_len, hr_len, List.length_reverse, byteEs_len, byteEsC_len, List.length_drop]; first | done | omega)) only [go_sem, Nat.reduceEqDiff, Nat.reduceBEq, Nat.reduceAdd, Nat.reduceMul, Nat.reduceSub, Nat.reduceLeDiff, Int.reduceToNat, Int.reducePow], by simp (disch := first | omega | (simp only [lens, hc_len, hr_len, List.length_reverse, byteEs_len, byteEsC_len, List.length_drop]; first | done | omega)) only [go_sem, Nat.reduceEqDiff, Nat.reduceBEq, Nat.reduceAdd, Nat.reduceMul, Nat.reduceSub, Nat.reduceLeDiff, Int.reduceToNat, Int.reducePow]; rfl⟩
      · rintro m ρ σ' ⟨i, v, hm, hO, he, q5, q6, q8, q9⟩
        have hle := he.le
        by_cases hi : i < n
        · have hU := fun σ => ref_Unhash_to σ (r.drop (32 * i)) (by rw [List.length_drop]; omega)
          rw [un_at (by omega), unV_some] at hU
          have hss := hsOf_succ r i
          generalize hsAt r i = h at *
          obtain ⟨v', σ2, ha, hO2, hk2, hE2, hl2⟩ := (hO.more (y := [some [hc h]])).app (ys := [hc h]) (by simp; omega) (by simp) (by rw [hr_len, hsOf_len]; simp; omega)
          have hcat : hr (hsOf r i) ++ [hc h] = hr (hsOf r (i + 1)) := by rw [hss, hr_app]; rfl
          rw [hcat] at hO2
          repeat' (first | refine SWp.seq ?_ | refine SWp.block ?_ | refine SWp.scope ?_ | refine SWp.condT rfl ?_ | refine SWp.condF rfl ?_ | (refine SWp.condD rfl (fun ht => ?_) (fun ht => ?_) <;> try (exfalso; omega)) | ((first | refine SWp.reg ?_ | refine SWp.skip ?_ | refine SWp.exit ?_ | refine SWp.ret ?_ | (apply callW.mk_pu; (first | exact (fun _ => hU _))) | (apply callW.any; (first | exact (hU _))) | ((first | apply splitG | apply splitGB | apply splitR | apply splitRB | apply splitE | apply splitEB | apply splitC | apply splitCB) <;> intro ht)); all_goals try simp (disch := first | omega | (simp only [lens, hc_len, hr_len, List.length_reverse, byteEs_len, byteEsC_len, List.length_drop]; first | done | omega)) only [go_sem, Nat.reduceEqDiff, Nat.reduceBEq, Nat.reduceAdd, Nat.reduceMul, Nat.reduceSub, Nat.reduceLeDiff, Int.reduceToNat, Int.reducePow, q5, q6, q8, q9, ha]))
          exact ⟨m - 1, by omega, i + 1, v', by omega, hO2, hE2 σ (Nat.le_refl _) he.app, by simp⟩
        · obtain rfl : i = n := by omega
          repeat' (first | refine SWp.seq ?_ | refine SWp.block ?_ | refine SWp.scope ?_ | refine SWp.condT rfl ?_ | refine SWp.condF rfl ?_ | (refine SWp.condD rfl (fun ht => ?_) (fun ht => ?_) <;> try (exfalso; omega)) | ((first | refine SWp.reg ?_ | refine SWp.skip ?_ | refine SWp.exit ?_ | refine SWp.ret ?_ | ((first | apply splitG | apply splitGB | apply splitR | apply splitRB | apply splitE | apply splitEB | apply splitC | apply splitCB) <;> intro ht)); all_goals try simp (disch := first | omega | (simp only [lens, hc_len, hr_len, List.length_reverse, byteEs_len, byteEsC_len, List.length_drop]; first | done | omega)) only [go_sem, Nat.reduceEqDiff, Nat.reduceBEq, Nat.reduceAdd, Nat.reduceMul, Nat.reduceSub, Nat.reduceLeDiff, Int.reduceToNat, Int.reducePow, q5, q6, q8, q9]))
          exact Ext.all hw he fun news e => drT (drsc (hO.fr e (Nat.le_refl _) (rlss_hr _)) (drsc (FrzD.same rl_str) (drs1 (FrzD.same rl_bool))))
    · rw [if_neg hn]
      simp only [unsV]
      by_cases hn1 : n ≤ 64
      · repeat' (first | refine SWp.seq ?_ | refine SWp.block ?_ | refine SWp.scope ?_ | refine SWp.condT rfl ?_ | refine SWp.condF rfl ?_ | (refine SWp.condD rfl (fun ht => ?_) (fun ht => ?_) <;> try (exfalso; omega)) | ((first | refine SWp.reg ?_ | refine SWp.skip ?_ | refine SWp.exit ?_ | refine SWp.ret ?_ | (apply callW.mk_pu; (first | exact (fun _ => hR _))) | (apply callW.any; (first | exact (hR _))) | ((first | apply splitG | apply splitGB | apply splitR | apply splitRB | apply splitE | apply splitEB | apply splitC | apply splitCB) <;> intro ht)); all_goals try simp (disch := first | omega | (simp only [lens, hc_len, hr_len, List.length_reverse, byteEs_len, byteEsC_len, List.length_drop]; first | done | omega)) only [go_sem, Nat.reduceEqDiff, Nat.reduceBEq, Nat.reduceAdd, Nat.reduceMul, Nat.reduceSub, Nat.reduceLeDiff, Int.reduceToNat, Int.reducePow]))
        exact DownV.same hw rl_nst
      · repeat' (first | refine SWp.seq ?_ | refine SWp.block ?_ | refine SWp.scope ?_ | refine SWp.condT rfl ?_ | refine SWp.condF rfl ?_ | (refine SWp.condD rfl (fun ht => ?_) (fun ht => ?_) <;> try (exfalso; omega)) | ((first | refine SWp.reg ?_ | refine SWp.skip ?_ | refine SWp.exit ?_ | refine SWp.ret ?_ | (apply callW.mk_pu; (first | exact (fun _ => hR _))) | (apply callW.any; (first | exact (hR _))) | ((first | apply splitG | apply splitGB | apply splitR | apply splitRB | apply splitE | apply splitEB | apply splitC | apply splitCB) <;> intro ht)); all_goals try simp (disch := first | omega | (simp only [lens, hc_len, hr_len, List.length_reverse, byteEs_len, byteEsC_len, List.length_drop]; first | done | omega)) only [go_sem, Nat.reduceEqDiff, Nat.reduceBEq, Nat.reduceAdd, Nat.reduceMul, Nat.reduceSub, Nat.reduceLeDiff, Int.reduceToNat, Int.reducePow]))
        exact DownV.same hw rl_nst
end Am
end Go.Proofs.YthgcooppjhcgcaaDoor
end
section
set_option linter.unusedSimpArgs false
set_option linter.unusedVariables false
/- Codec: contracts: the reference's list. -/
namespace Go.Proofs.YthgcooppjhcgcaaDoor
namespace Am
attribute [local irreducible] ACallsTo ACallsP
def catS (l : List Hash) : List UInt8 := (l.map (·.1)).flatten
def hashesS (l : List Hash) : List UInt8 := if 64 < l.length then [] else numS l.length ++ catS l
theorem catS_len : ∀ (l : List Hash), (catS l).length = 32 * l.length
  | [] => rfl
  | h :: l => by
    have := catS_len l
    simp only [catS, List.map_cons, List.flatten_cons, List.length_append, List.length_cons, h.2] at this ⊢
    omega
theorem catS_step {l : List Hash} {i : Nat} (h : i < l.length) : catS (l.take (i + 1)) = catS (l.take i) ++ (hd l i).1 := by
  rw [take_hd h]; simp [catS]
set_option maxHeartbeats 4000000 in
theorem refHashes_v (σ : Store) (l : List Hash) (x : AV) (hx : SlV 32 (hr l) x) (hl : l.length < 1000000) : ACallsTo TC 101 [x] σ (.str (hashesS l)) σ := by
  refine ACallsTo.of_body speculumref03_Hashes_ok (by simp) fun hw _ => ?_
  have r1 := hx.len
  rw [hr_len] at r1
  unfold rLenSl at r1
  unfold hashesS
  by_cases h64 : 64 < l.length
  · rw [if_pos h64]
    repeat' (first | refine SWp.seq ?_ | refine SWp.block ?_ | refine SWp.scope ?_ | refine SWp.condT rfl ?_ | refine SWp.condF rfl ?_ | (refine SWp.condD rfl (fun ht => ?_) (fun ht => ?_) <;> try (exfalso; omega)) | ((first | refine SWp.reg ?_ | refine SWp.skip ?_ | refine SWp.exit ?_ | refine SWp.ret ?_ | ((first | apply splitG | apply splitGB | apply splitR | apply splitRB | apply splitE | apply splitEB | apply splitC | apply splitCB) <;> intro ht)); all_goals try simp (disch := first | omega | (simp only [lens, hc_len, hr_len, List.length_reverse, byteEs_len, byteEsC_len, List.length_drop]; first | done | omega)) only [go_sem, Nat.reduceEqDiff, Nat.reduceBEq, Nat.reduceAdd, Nat.reduceMul, Nat.reduceSub, Nat.reduceLeDiff, Int.reduceToNat, Int.reducePow, r1]))
    exact DownV.same hw rl_str
  · rw [if_neg h64]
    have hN := fun σ => ref_Num_to σ l.length (by omega)
    have hNl := numS_le l.length
    generalize numS l.length = N at *
    repeat' (first | refine SWp.seq ?_ | refine SWp.block ?_ | refine SWp.scope ?_ | refine SWp.condT rfl ?_ | refine SWp.condF rfl ?_ | (refine SWp.condD rfl (fun ht => ?_) (fun ht => ?_) <;> try (exfalso; omega)) | ((first | refine SWp.reg ?_ | refine SWp.skip ?_ | refine SWp.exit ?_ | refine SWp.ret ?_ | (apply callW.mk_pu; (first | exact (fun _ => hN _))) | (apply callW.any; (first | exact (hN _))) | ((first | apply splitG | apply splitGB | apply splitR | apply splitRB | apply splitE | apply splitEB | apply splitC | apply splitCB) <;> intro ht)); all_goals try simp (disch := first | omega | (simp only [lens, hc_len, hr_len, List.length_reverse, byteEs_len, byteEsC_len, List.length_drop]; first | done | omega)) only [go_sem, Nat.reduceEqDiff, Nat.reduceBEq, Nat.reduceAdd, Nat.reduceMul, Nat.reduceSub, Nat.reduceLeDiff, Int.reduceToNat, Int.reducePow, r1]))
    refine SWp.loop (fun m ρ σ' => ∃ i : Nat, m + i = l.length ∧ σ' = σ ∧ ρ 0 = x ∧ ρ 3 = .str (N ++ catS (l.take i)) ∧ ρ 4 = .int .i64 i) l.length ?_ ?_
    · exact ⟨0, by omega, rfl, by simp (disch := first | omega | (simp only [lens, hc_len, hr_len, List.length_reverse, byteEs_len, byteEsC_len, List.length_drop]; first | done | omega)) only [go_sem, Nat.reduceEqDiff, Nat.reduceBEq, Nat.reduceAdd, Nat.reduceMul, Nat.reduceSub, Nat.reduceLeDiff, Int.reduceToNat, Int.reducePow], by simp (disch := first | omega | (simp only [lens, hc_len, hr_len, List.length_reverse, byteEs_len, byteEsC_len, List.length_drop]; first | done | omega)) only [go_sem, Nat.reduceEqDiff, Nat.reduceBEq, Nat.reduceAdd, Nat.reduceMul, Nat.reduceSub, Nat.reduceLeDiff, Int.reduceToNat, Int.reducePow]; simp [catS], by simp (disch := first | omega | (simp only [lens, hc_len, hr_len, List.length_reverse, byteEs_len, byteEsC_len, List.length_drop]; first | done | omega)) only [go_sem, Nat.reduceEqDiff, Nat.reduceBEq, Nat.reduceAdd, Nat.reduceMul, Nat.reduceSub, Nat.reduceLeDiff, Int.reduceToNat, Int.reducePow]; rfl⟩
    · rintro m ρ σ' ⟨i, hm, rfl, q0, q3, q4⟩
      by_cases hi : i < l.length
      · obtain ⟨e1, rfl⟩ := hx.vsl (by rw [hr_len]; omega)
        have hH := fun σ => ref_Hash_to σ (hd l i).1 (hd l i).2
        have hst := catS_step hi
        have hcl := catS_len (l.take i)
        rw [List.length_take] at hcl
        have hcl2 := (hd l i).2
        have hmin : min i l.length = i := by omega
        rw [hmin] at hcl
        unfold hc at *
        generalize hC : catS (l.take i) = C at *
        repeat' (first | refine SWp.seq ?_ | refine SWp.block ?_ | refine SWp.scope ?_ | refine SWp.condT rfl ?_ | refine SWp.condF rfl ?_ | (refine SWp.condD rfl (fun ht => ?_) (fun ht => ?_) <;> try (exfalso; omega)) | ((first | refine SWp.reg ?_ | refine SWp.skip ?_ | refine SWp.exit ?_ | refine SWp.ret ?_ | (apply callW.mk_pu; (first | exact (fun _ => hH _))) | (apply callW.any; (first | exact (hH _))) | ((first | apply splitG | apply splitGB | apply splitR | apply splitRB | apply splitE | apply splitEB | apply splitC | apply splitCB) <;> intro ht)); all_goals try simp (disch := first | omega | (simp only [lens, hc_len, hr_len, List.length_reverse, byteEs_len, byteEsC_len, List.length_drop]; first | done | omega)) only [go_sem, Nat.reduceEqDiff, Nat.reduceBEq, Nat.reduceAdd, Nat.reduceMul, Nat.reduceSub, Nat.reduceLeDiff, Int.reduceToNat, Int.reducePow, q0, q3, q4, hc]))
        exact ⟨m - 1, by omega, i + 1, by omega, by rw [hst], by simp⟩
      · have e : l.take i = l := List.take_of_length_le (by omega)
        rw [e] at q3
        repeat' (first | refine SWp.seq ?_ | refine SWp.block ?_ | refine SWp.scope ?_ | refine SWp.condT rfl ?_ | refine SWp.condF rfl ?_ | (refine SWp.condD rfl (fun ht => ?_) (fun ht => ?_) <;> try (exfalso; omega)) | ((first | refine SWp.reg ?_ | refine SWp.skip ?_ | refine SWp.exit ?_ | refine SWp.ret ?_ | ((first | apply splitG | apply splitGB | apply splitR | apply splitRB | apply splitE | apply splitEB | apply splitC | apply splitCB) <;> intro ht)); all_goals try simp (disch := first | omega | (simp only [lens, hc_len, hr_len, List.length_reverse, byteEs_len, byteEsC_len, List.length_drop]; first | done | omega)) only [go_sem, Nat.reduceEqDiff, Nat.reduceBEq, Nat.reduceAdd, Nat.reduceMul, Nat.reduceSub, Nat.reduceLeDiff, Int.reduceToNat, Int.reducePow, q0, q3, q4, r1]))
        exact DownV.same hw rl_str
theorem refHashes_to (σ : Store) (l : List Hash) (x : AV) (hx : RdSl σ 32 (hr l) x) (hl : l.length < 1000000) : ACallsTo TC 101 [x] σ (.str (hashesS l)) σ := by
  obtain ⟨x0, h0, hd⟩ := hx.lend (rlss_hr l)
  have := ACallsTo.lend glok (refHashes_v [] l x0 h0 hl) (drs1 hd)
  rwa [show sh σ.length (.str (hashesS l)) = .str (hashesS l) from rfl, shS_nil, List.append_nil] at this
end Am
end Go.Proofs.YthgcooppjhcgcaaDoor
end
section
set_option linter.unusedSimpArgs false
set_option linter.unusedVariables false
/- Abstract code. (Printed by wip/gen.) -/
set_option maxRecDepth 10000
namespace Go.Proofs.YthgcooppjhcgcaaDoor
namespace Am



end Am
end Go.Proofs.YthgcooppjhcgcaaDoor
end
section
set_option linter.unusedSimpArgs false
set_option linter.unusedVariables false
/- Abstract code. (Printed by wip/gen.) -/
set_option maxRecDepth 10000
namespace Go.Proofs.YthgcooppjhcgcaaDoor
namespace Am



@[go_sem] def __strings_Builder__WriteString_r0 : List AIns := [
  ⟨some 4, none, .no, .mv (.v (.int .i64 (0)))⟩,
  ⟨some 5, none, .no, .mv (.v .any)⟩]
@[go_sem] def __strings_Builder__WriteString_r1 : List AIns := [
  ⟨some 6, none, .no, .mv (.t 0)⟩,
  ⟨some 7, none, .no, .call (.v (.fn 172 [])) [(.t 6)]⟩]
@[go_sem] def __strings_Builder__WriteString_r2 : List AIns := [
  ⟨some 8, none, .no, .mv (.t 0)⟩,
  ⟨some 9, none, .no, .mv (.t 0)⟩,
  ⟨some 10, none, .no, .nilc (.t 9)⟩,
  ⟨some 11, none, .no, .fa 1 (.t 10)⟩,
  ⟨some 12, none, .no, .load false 1 (.t 11)⟩,
  ⟨some 13, none, .no, .mv (.t 1)⟩,
  ⟨some 14, none, .no, .appB (.t 12) (.t 13)⟩,
  ⟨some 15, none, .no, .nilc (.t 8)⟩,
  ⟨some 16, none, .no, .fa 1 (.t 15)⟩,
  ⟨none, none, .no, .store 1 (.t 16) (.t 14)⟩]
@[go_sem] def __strings_Builder__WriteString_r3 : List AIns := [
  ⟨some 17, none, .no, .mv (.t 1)⟩,
  ⟨some 18, none, .no, .lenStr (.t 17)⟩,
  ⟨some 4, none, .no, .mv (.t 18)⟩,
  ⟨some 5, none, .no, .mv (.v .any)⟩]
def __strings_Builder__WriteString_c4 : ACode := .seq (.reg __strings_Builder__WriteString_r3) .ret
def __strings_Builder__WriteString_c5 : ACode := .seq (.reg __strings_Builder__WriteString_r2) __strings_Builder__WriteString_c4
def __strings_Builder__WriteString_c6 : ACode := .seq (.reg __strings_Builder__WriteString_r1) __strings_Builder__WriteString_c5
def __strings_Builder__WriteString_c7 : ACode := .seq (.reg __strings_Builder__WriteString_r0) __strings_Builder__WriteString_c6
theorem __strings_Builder__WriteString_ok : cFn TC 152 = some (19, [.t 4, .t 5], __strings_Builder__WriteString_c7) := by kernel_rfl

@[go_sem] def __strings_Builder__WriteByte_r0 : List AIns := [
  ⟨some 4, none, .no, .mv (.v .any)⟩]
@[go_sem] def __strings_Builder__WriteByte_r1 : List AIns := [
  ⟨some 5, none, .no, .mv (.t 0)⟩,
  ⟨some 6, none, .no, .call (.v (.fn 172 [])) [(.t 5)]⟩]
@[go_sem] def __strings_Builder__WriteByte_r2 : List AIns := [
  ⟨some 7, none, .no, .mv (.t 0)⟩,
  ⟨some 8, none, .no, .mv (.t 0)⟩,
  ⟨some 9, none, .no, .nilc (.t 8)⟩,
  ⟨some 10, none, .no, .fa 1 (.t 9)⟩,
  ⟨some 11, none, .no, .load false 1 (.t 10)⟩,
  ⟨some 12, none, .no, .mv (.t 1)⟩,
  ⟨some 13, none, .no, .lit 1 [(.t 12)]⟩,
  ⟨some 14, none, .no, .appB (.t 11) (.t 13)⟩,
  ⟨some 15, none, .no, .nilc (.t 7)⟩,
  ⟨some 16, none, .no, .fa 1 (.t 15)⟩,
  ⟨none, none, .no, .store 1 (.t 16) (.t 14)⟩]
@[go_sem] def __strings_Builder__WriteByte_r3 : List AIns := [
  ⟨some 4, none, .no, .mv (.v .any)⟩]
def __strings_Builder__WriteByte_c4 : ACode := .seq (.reg __strings_Builder__WriteByte_r3) .ret
def __strings_Builder__WriteByte_c5 : ACode := .seq (.reg __strings_Builder__WriteByte_r2) __strings_Builder__WriteByte_c4
def __strings_Builder__WriteByte_c6 : ACode := .seq (.reg __strings_Builder__WriteByte_r1) __strings_Builder__WriteByte_c5
def __strings_Builder__WriteByte_c7 : ACode := .seq (.reg __strings_Builder__WriteByte_r0) __strings_Builder__WriteByte_c6
theorem __strings_Builder__WriteByte_ok : cFn TC 154 = some (17, [.t 4], __strings_Builder__WriteByte_c7) := by kernel_rfl

end Am
end Go.Proofs.YthgcooppjhcgcaaDoor
end
section
set_option linter.unusedSimpArgs false
set_option linter.unusedVariables false
/- Abstract code. (Printed by wip/gen.) -/
set_option maxRecDepth 10000
namespace Go.Proofs.YthgcooppjhcgcaaDoor
namespace Am



@[go_sem] def speculumlaw09_Same_r0 : List AIns := [
  ⟨some 2, none, .no, .box (.t 0)⟩,
  ⟨some 3, none, .no, .box (.t 1)⟩,
  ⟨some 4, none, .no, .mv (.v (.bool false))⟩]
@[go_sem] def speculumlaw09_Same_r1 : List AIns := [
  ⟨some 5, none, .no, .fa 0 (.t 2)⟩,
  ⟨some 6, none, .no, .load false 1 (.t 5)⟩,
  ⟨some 7, none, .no, .fa 0 (.t 3)⟩,
  ⟨some 8, none, .no, .load false 1 (.t 7)⟩,
  ⟨some 9, none, .no, .bin .eql .none (.t 6) (.t 8)⟩,
  ⟨some 10, none, .no, .mv (.t 9)⟩,
  ⟨some 11, some (10, true), .no, .fa 1 (.t 2)⟩,
  ⟨some 12, some (10, true), .no, .load false 1 (.t 11)⟩,
  ⟨some 13, some (10, true), .no, .fa 1 (.t 3)⟩,
  ⟨some 14, some (10, true), .no, .load false 1 (.t 13)⟩,
  ⟨some 15, some (10, true), .no, .bin .eql .none (.t 12) (.t 14)⟩,
  ⟨some 16, none, .no, .pick (.t 10) (.t 15) (.v (.bool false))⟩,
  ⟨some 17, none, .no, .mv (.t 16)⟩,
  ⟨some 18, some (17, true), .no, .fa 2 (.t 2)⟩,
  ⟨some 19, some (17, true), .no, .load false 1 (.t 18)⟩,
  ⟨some 20, some (17, true), .no, .fa 2 (.t 3)⟩,
  ⟨some 21, some (17, true), .no, .load false 1 (.t 20)⟩,
  ⟨some 22, some (17, true), .no, .call (.v (.fn 80 [])) [(.t 19), (.t 21)]⟩,
  ⟨some 23, none, .no, .pick (.t 17) (.t 22) (.v (.bool false))⟩,
  ⟨some 4, none, .no, .mv (.t 23)⟩]
def speculumlaw09_Same_c2 : ACode := .seq (.reg speculumlaw09_Same_r1) .ret
def speculumlaw09_Same_c3 : ACode := .seq (.reg speculumlaw09_Same_r0) speculumlaw09_Same_c2
theorem speculumlaw09_Same_ok : cFn TC 46 = some (24, [.t 4], speculumlaw09_Same_c3) := by kernel_rfl

end Am
end Go.Proofs.YthgcooppjhcgcaaDoor
end
section
set_option linter.unusedSimpArgs false
set_option linter.unusedVariables false
/- strings.Builder: the contracts of WriteString and WriteByte; a builder of one's own. -/
namespace Go.Proofs.YthgcooppjhcgcaaDoor
namespace Am
attribute [local irreducible] ACallsTo ACallsP
theorem WriteString_nil (σ : Store) (r : Nat) (t : List UInt8) (hr : σ[r]? = some (some [[.bld r, .bnil]])) (h0 : t ≠ []) (hl : t.length ≤ 1073741824) :
    ACallsTo TC 152 [.ptr r 0 0, .str t] σ (.tup [.int .i64 t.length, .any]) (σ.set r (some [[.bld r, .bsl σ.length t.length]]) ++ [some (byteEs t)]) := by
  have hz : t.length ≠ 0 := by simpa using h0
  have hs := slen hr
  have hc := copyCheck_to σ r _ hr
  refine ACallsTo.of_body_keep __strings_Builder__WriteString_ok (by simp) ?_
  repeat' (first | refine SWp.seq ?_ | refine SWp.block ?_ | refine SWp.scope ?_ | refine SWp.condT rfl ?_ | refine SWp.condF rfl ?_ | (refine SWp.condD rfl (fun ht => ?_) (fun ht => ?_) <;> try (exfalso; omega)) | ((first | refine SWp.reg ?_ | refine SWp.skip ?_ | refine SWp.exit ?_ | refine SWp.ret ?_ | (apply callW.mk_pu; (first | exact (fun _ => hc))) | (apply callW.any; (first | exact (hc))) | ((first | apply splitG | apply splitGB | apply splitR | apply splitRB | apply splitE | apply splitEB | apply splitC | apply splitCB) <;> intro ht)); all_goals try simp (disch := first | omega | (simp only [lens, byteEs_len, byteEsC_len, List.length_drop]; first | done | omega)) only [go_sem, Nat.reduceEqDiff, Nat.reduceBEq, Nat.reduceAdd, Nat.reduceMul, Nat.reduceSub, Nat.reduceLeDiff, Int.reduceToNat, Int.reducePow, hr, hz, hs, keepQ]))
theorem WriteString_one (σ : Store) (r rb : Nat) (s t : List UInt8) (hr : σ[r]? = some (some [[.bld r, .bsl rb s.length]])) (hb : σ[rb]? = some (some (byteEs s))) (hne : rb ≠ r) (h0 : t ≠ []) (hl : s.length + t.length ≤ 1073741824) :
    ACallsTo TC 152 [.ptr r 0 0, .str t] σ (.tup [.int .i64 t.length, .any]) ((σ.set rb none).set r (some [[.bld r, .bsl σ.length (s.length + t.length)]]) ++ [some (byteEs (s ++ t))]) := by
  have hz : t.length ≠ 0 := by simpa using h0
  have hs := slen hr
  have hc := copyCheck_to σ r _ hr
  refine ACallsTo.of_body_keep __strings_Builder__WriteString_ok (by simp) ?_
  repeat' (first | refine SWp.seq ?_ | refine SWp.block ?_ | refine SWp.scope ?_ | refine SWp.condT rfl ?_ | refine SWp.condF rfl ?_ | (refine SWp.condD rfl (fun ht => ?_) (fun ht => ?_) <;> try (exfalso; omega)) | ((first | refine SWp.reg ?_ | refine SWp.skip ?_ | refine SWp.exit ?_ | refine SWp.ret ?_ | (apply callW.mk_pu; (first | exact (fun _ => hc))) | (apply callW.any; (first | exact (hc))) | ((first | apply splitG | apply splitGB | apply splitR | apply splitRB | apply splitE | apply splitEB | apply splitC | apply splitCB) <;> intro ht)); all_goals try simp (disch := first | omega | (simp only [lens, byteEs_len, byteEsC_len, List.length_drop]; first | done | omega)) only [go_sem, Nat.reduceEqDiff, Nat.reduceBEq, Nat.reduceAdd, Nat.reduceMul, Nat.reduceSub, Nat.reduceLeDiff, Int.reduceToNat, Int.reducePow, hr, hb, hz, hs, hne, keepQ]))
theorem WriteByte_nil (σ : Store) (r : Nat) (b : UInt8) (hr : σ[r]? = some (some [[.bld r, .bnil]])) :
    ACallsTo TC 154 [.ptr r 0 0, .int .u8 b.toNat] σ .any (σ.set r (some [[.bld r, .bsl σ.length 1]]) ++ [some (byteEs [b])]) := by
  have hs := slen hr
  have hc := copyCheck_to σ r _ hr
  have hb : byteEs [b] = [[.int .u8 b.toNat]] := rfl
  rw [hb]
  refine ACallsTo.of_body_keep __strings_Builder__WriteByte_ok (by simp) ?_
  repeat' (first | refine SWp.seq ?_ | refine SWp.block ?_ | refine SWp.scope ?_ | refine SWp.condT rfl ?_ | refine SWp.condF rfl ?_ | (refine SWp.condD rfl (fun ht => ?_) (fun ht => ?_) <;> try (exfalso; omega)) | ((first | refine SWp.reg ?_ | refine SWp.skip ?_ | refine SWp.exit ?_ | refine SWp.ret ?_ | (apply callW.mk_pu; (first | exact (fun _ => hc))) | (apply callW.any; (first | exact (hc))) | ((first | apply splitG | apply splitGB | apply splitR | apply splitRB | apply splitE | apply splitEB | apply splitC | apply splitCB) <;> intro ht)); all_goals try simp (disch := first | omega | (simp only [lens, byteEs_len, byteEsC_len, List.length_drop]; first | done | omega)) only [go_sem, Nat.reduceEqDiff, Nat.reduceBEq, Nat.reduceAdd, Nat.reduceMul, Nat.reduceSub, Nat.reduceLeDiff, Int.reduceToNat, Int.reducePow, hr, hs, keepQ]))
/-- A builder of one's own, with its bytes. -/
def BldN (τ σ' : Store) (r : Nat) (s : List UInt8) : Prop :=
  τ.length ≤ r ∧ (∃ news, σ' = τ ++ news) ∧ ((s = [] ∧ σ'[r]? = some (some [[.bld r, .bnil]])) ∨
    (s ≠ [] ∧ ∃ rb, τ.length ≤ rb ∧ rb ≠ r ∧ σ'[r]? = some (some [[.bld r, .bsl rb s.length]]) ∧ σ'[rb]? = some (some (byteEs s))))
theorem BldN.new {τ news : Store} {r : Nat} (hr : τ.length ≤ r) (h : (τ ++ news)[r]? = some (some [[.bld r, .bnil]])) : BldN τ (τ ++ news) r [] := ⟨hr, ⟨news, rfl⟩, .inl ⟨rfl, h⟩⟩
theorem BldN.ext {τ σ' : Store} {r : Nat} {s : List UInt8} (h : BldN τ σ' r s) : ∃ news, σ' = τ ++ news := h.2.1
theorem BldN.more {τ σ' : Store} {r : Nat} {s : List UInt8} (h : BldN τ σ' r s) (y : Store) : BldN τ (σ' ++ y) r s := by
  obtain ⟨h1, ⟨news, rfl⟩, h2⟩ := h
  refine ⟨h1, ⟨news ++ y, by rw [List.append_assoc]⟩, ?_⟩
  rcases h2 with ⟨e, h2⟩ | ⟨e, rb, h3, h4, h5, h6⟩
  · exact .inl ⟨e, by rw [List.getElem?_append_left (slen h2)]; exact h2⟩
  · exact .inr ⟨e, rb, h3, h4, by rw [List.getElem?_append_left (slen h5)]; exact h5, by rw [List.getElem?_append_left (slen h6)]; exact h6⟩
theorem set_own {τ news : Store} {r : Nat} (x : Option AObj) (h : τ.length ≤ r) : (τ ++ news).set r x = τ ++ news.set (r - τ.length) x := by rw [List.set_append_right _ _ h]
theorem BldN.write {τ σ' : Store} {r : Nat} {s t : List UInt8} (h : BldN τ σ' r s) (h0 : t ≠ []) (hl : s.length + t.length ≤ 1073741824) :
    ∃ σ2, ACallsTo TC 152 [.ptr r 0 0, .str t] σ' (.tup [.int .i64 t.length, .any]) σ2 ∧ BldN τ σ2 r (s ++ t) := by
  obtain ⟨h1, ⟨news, rfl⟩, ⟨rfl, h2⟩ | ⟨e, rb, h3, h4, h5, h6⟩⟩ := h
  · refine ⟨_, WriteString_nil _ r t h2 h0 (by simpa using hl), h1, ⟨_, by rw [set_own _ h1, List.append_assoc]⟩, .inr ⟨by simpa using h0, (τ ++ news).length, by simp, ?_, ?_, ?_⟩⟩
    · have := slen h2; omega
    · rw [List.getElem?_append_left (by rw [List.length_set]; exact slen h2), List.getElem?_set_self (slen h2)]; rfl
    · rw [List.getElem?_append_right (by rw [List.length_set]; exact Nat.le_refl _), List.length_set, Nat.sub_self]; rfl
  · refine ⟨_, WriteString_one _ r rb s t h5 h6 h4 h0 hl, h1, ⟨_, by rw [set_own _ h3, set_own _ h1, List.append_assoc]⟩, .inr ⟨by simp [e], (τ ++ news).length, by simp, ?_, ?_, ?_⟩⟩
    · have := slen h5; omega
    · rw [List.getElem?_append_left (by rw [List.length_set, List.length_set]; exact slen h5), List.getElem?_set_self (by rw [List.length_set]; exact slen h5)]; simp
    · rw [List.getElem?_append_right (by rw [List.length_set, List.length_set]; exact Nat.le_refl _), List.length_set, List.length_set, Nat.sub_self]; rfl
theorem BldN.byte {τ σ' : Store} {r : Nat} (b : UInt8) (h : BldN τ σ' r []) : ∃ σ2, ACallsTo TC 154 [.ptr r 0 0, .int .u8 b.toNat] σ' .any σ2 ∧ BldN τ σ2 r [b] := by
  obtain ⟨h1, ⟨news, rfl⟩, ⟨_, h2⟩ | ⟨e, _⟩⟩ := h
  · refine ⟨_, WriteByte_nil _ r b h2, h1, ⟨_, by rw [set_own _ h1, List.append_assoc]⟩, .inr ⟨by simp, (τ ++ news).length, by simp, ?_, ?_, ?_⟩⟩
    · have := slen h2; omega
    · rw [List.getElem?_append_left (by rw [List.length_set]; exact slen h2), List.getElem?_set_self (slen h2)]; rfl
    · rw [List.getElem?_append_right (by rw [List.length_set]; exact Nat.le_refl _), List.length_set, Nat.sub_self]; rfl
  · exact absurd rfl e
theorem BldN.string {τ σ' : Store} {r : Nat} {s : List UInt8} (h : BldN τ σ' r s) (h0 : s ≠ []) (hl : s.length ≤ 1073741824) :
    ∃ news, ACallsTo TC 153 [.ptr r 0 0] σ' (.str s) (τ ++ news) := by
  obtain ⟨h1, ⟨news, rfl⟩, ⟨rfl, h2⟩ | ⟨e, rb, h3, h4, h5, h6⟩⟩ := h
  · exact absurd rfl h0
  · have := builder_String_to _ r rb s h0 hl h5 h6
    rw [set_own _ h3] at this
    exact ⟨_, this⟩
end Am
end Go.Proofs.YthgcooppjhcgcaaDoor
end
section
set_option linter.unusedSimpArgs false
set_option linter.unusedVariables false
/- Codec: contracts: the program's list. -/
namespace Go.Proofs.YthgcooppjhcgcaaDoor
namespace Am
attribute [local irreducible] ACallsTo ACallsP
theorem codec_Hash_h (σ : Store) (h : Hash) : ACallsTo TC 112 [.agg (hc h)] σ (.str h.1) σ := codec_Hash_to σ h.1 h.2
theorem numS_ne (n : Nat) : numS n ≠ [] := by
  unfold numS
  split <;> simp
set_option maxHeartbeats 4000000 in
theorem codec_Hashes_v (σ : Store) (l : List Hash) (x : AV) (hx : SlV 32 (hr l) x) (hl : l.length < 1000000) : ACallsTo TC 114 [x] σ (.str (hashesS l)) σ := by
  refine ACallsTo.of_body codec_Hashes_ok (by simp) fun hw _ => ?_
  have r1 := hx.len
  rw [hr_len] at r1
  unfold rLenSl at r1
  unfold hashesS
  by_cases h64 : 64 < l.length
  · rw [if_pos h64]
    repeat' (first | refine SWp.seq ?_ | refine SWp.block ?_ | refine SWp.scope ?_ | refine SWp.condT rfl ?_ | refine SWp.condF rfl ?_ | (refine SWp.condD rfl (fun ht => ?_) (fun ht => ?_) <;> try (exfalso; omega)) | ((first | refine SWp.reg ?_ | refine SWp.skip ?_ | refine SWp.exit ?_ | refine SWp.ret ?_ | ((first | apply splitG | apply splitGB | apply splitR | apply splitRB | apply splitE | apply splitEB | apply splitC | apply splitCB) <;> intro ht)); all_goals try simp (disch := first | omega | (simp only [lens, hc_len, hr_len, List.length_reverse, byteEs_len, byteEsC_len, List.length_drop]; first | done | omega)) only [go_sem, Nat.reduceEqDiff, Nat.reduceBEq, Nat.reduceAdd, Nat.reduceMul, Nat.reduceSub, Nat.reduceLeDiff, Int.reduceToNat, Int.reducePow, r1]))
    exact DownV.same hw rl_str
  · rw [if_neg h64]
    have hN := fun σ => codec_Num_to σ l.length (by omega)
    have hNl := numS_le l.length
    have hNn := numS_ne l.length
    generalize numS l.length = N at *
    have b0 : BldN σ (σ ++ [some [[.bld σ.length, .bnil]]]) σ.length [] := BldN.new (Nat.le_refl _) (by simp)
    obtain ⟨σ1, w1, b1⟩ := b0.write hNn (by simp; omega)
    rw [List.nil_append] at b1
    repeat' (first | refine SWp.seq ?_ | refine SWp.block ?_ | refine SWp.scope ?_ | refine SWp.condT rfl ?_ | refine SWp.condF rfl ?_ | (refine SWp.condD rfl (fun ht => ?_) (fun ht => ?_) <;> try (exfalso; omega)) | ((first | refine SWp.reg ?_ | refine SWp.skip ?_ | refine SWp.exit ?_ | refine SWp.ret ?_ | (apply callW.mk_pu; (first | exact (fun _ => hN _) | exact (fun _ => w1))) | (apply callW.any; (first | exact (hN _) | exact (w1))) | ((first | apply splitG | apply splitGB | apply splitR | apply splitRB | apply splitE | apply splitEB | apply splitC | apply splitCB) <;> intro ht)); all_goals try simp (disch := first | omega | (simp only [lens, hc_len, hr_len, List.length_reverse, byteEs_len, byteEsC_len, List.length_drop]; first | done | omega)) only [go_sem, Nat.reduceEqDiff, Nat.reduceBEq, Nat.reduceAdd, Nat.reduceMul, Nat.reduceSub, Nat.reduceLeDiff, Int.reduceToNat, Int.reducePow, r1]))
    refine SWp.loop (fun m ρ σ' => ∃ i : Nat, m + i = l.length ∧ BldN σ σ' σ.length (N ++ catS (l.take i)) ∧ ρ 3 = .ptr σ.length 0 0 ∧ ρ 14 = x ∧ ρ 15 = .int .i64 l.length ∧ ρ 16 = .int .i64 i) l.length ?_ ?_
    · exact ⟨0, by omega, by simpa [catS] using b1, by simp (disch := first | omega | (simp only [lens, hc_len, hr_len, List.length_reverse, byteEs_len, byteEsC_len, List.length_drop]; first | done | omega)) only [go_sem, Nat.reduceEqDiff, Nat.reduceBEq, Nat.reduceAdd, Nat.reduceMul, Nat.reduceSub, Nat.reduceLeDiff, Int.reduceToNat, Int.reducePow], by simp (disch := first | omega | (simp only [lens, hc_len, hr_len, List.length_reverse, byteEs_len, byteEsC_len, List.length_drop]; first | done | omega)) only [go_sem, Nat.reduceEqDiff, Nat.reduceBEq, Nat.reduceAdd, Nat.reduceMul, Nat.reduceSub, Nat.reduceLeDiff, Int.reduceToNat, Int.reducePow], by simp (disch := first | omega | (simp only [lens, hc_len, hr_len, List.length_reverse, byteEs_len, byteEsC_len, List.length_drop]; first | done | omega)) only [go_sem, Nat.reduceEqDiff, Nat.reduceBEq, Nat.reduceAdd, Nat.reduceMul, Nat.reduceSub, Nat.reduceLeDiff, Int.reduceToNat, Int.reducePow, r1], by simp (disch := first | omega | (simp only [lens, hc_len, hr_len, List.length_reverse, byteEs_len, byteEsC_len, List.length_drop]; first | done | omega)) only [go_sem, Nat.reduceEqDiff, Nat.reduceBEq, Nat.reduceAdd, Nat.reduceMul, Nat.reduceSub, Nat.reduceLeDiff, Int.reduceToNat, Int.reducePow]; rfl⟩
    · clear w1 b1 b0
      rintro m ρ σ' ⟨i, hm, hB, q3, q14, q15, q16⟩
      have hcl := catS_len (l.take i)
      rw [List.length_take] at hcl
      by_cases hi : i < l.length
      · obtain ⟨e1, rfl⟩ := hx.vsl (by rw [hr_len]; omega)
        have hH := fun σ => codec_Hash_h σ (hd l i)
        have hst := catS_step hi
        have h32 := (hd l i).2
        obtain ⟨σ2, w2, b2⟩ := (hB.more [some [hc (hd l i)]]).write (t := (hd l i).1) (by intro e; rw [e] at h32; simp at h32) (by simp; omega)
        repeat' (first | refine SWp.seq ?_ | refine SWp.block ?_ | refine SWp.scope ?_ | refine SWp.condT rfl ?_ | refine SWp.condF rfl ?_ | (refine SWp.condD rfl (fun ht => ?_) (fun ht => ?_) <;> try (exfalso; omega)) | ((first | refine SWp.reg ?_ | refine SWp.skip ?_ | refine SWp.exit ?_ | refine SWp.ret ?_ | (apply callW.mk_pu; (first | exact (fun _ => hH _) | exact (fun _ => w2))) | (apply callW.any; (first | exact (hH _) | exact (w2))) | ((first | apply splitG | apply splitGB | apply splitR | apply splitRB | apply splitE | apply splitEB | apply splitC | apply splitCB) <;> intro ht)); all_goals try simp (disch := first | omega | (simp only [lens, hc_len, hr_len, List.length_reverse, byteEs_len, byteEsC_len, List.length_drop]; first | done | omega)) only [go_sem, Nat.reduceEqDiff, Nat.reduceBEq, Nat.reduceAdd, Nat.reduceMul, Nat.reduceSub, Nat.reduceLeDiff, Int.reduceToNat, Int.reducePow, q3, q14, q15, q16]))
        refine ⟨m - 1, by omega, i + 1, by omega, ?_, by simp⟩
        rw [hst, ← List.append_assoc]; exact b2
      · have e : l.take i = l := List.take_of_length_le (by omega)
        rw [e] at hB
        have hcl2 := catS_len l
        obtain ⟨news, w3⟩ := hB.string (by simp [hNn]) (by simp; omega)
        repeat' (first | refine SWp.seq ?_ | refine SWp.block ?_ | refine SWp.scope ?_ | refine SWp.condT rfl ?_ | refine SWp.condF rfl ?_ | (refine SWp.condD rfl (fun ht => ?_) (fun ht => ?_) <;> try (exfalso; omega)) | ((first | refine SWp.reg ?_ | refine SWp.skip ?_ | refine SWp.exit ?_ | refine SWp.ret ?_ | (apply callW.mk_pu; (first | exact (fun _ => w3))) | (apply callW.any; (first | exact (w3))) | ((first | apply splitG | apply splitGB | apply splitR | apply splitRB | apply splitE | apply splitEB | apply splitC | apply splitCB) <;> intro ht)); all_goals try simp (disch := first | omega | (simp only [lens, hc_len, hr_len, List.length_reverse, byteEs_len, byteEsC_len, List.length_drop]; first | done | omega)) only [go_sem, Nat.reduceEqDiff, Nat.reduceBEq, Nat.reduceAdd, Nat.reduceMul, Nat.reduceSub, Nat.reduceLeDiff, Int.reduceToNat, Int.reducePow, q3, q14, q15, q16]))
        exact DownV.pure hw rl_str
theorem codec_Hashes_to (σ : Store) (l : List Hash) (x : AV) (hx : RdSl σ 32 (hr l) x) (hl : l.length < 1000000) : ACallsTo TC 114 [x] σ (.str (hashesS l)) σ := by
  obtain ⟨x0, h0, hd⟩ := hx.lend (rlss_hr l)
  have := ACallsTo.lend glok (codec_Hashes_v [] l x0 h0 hl) (drs1 hd)
  rwa [show sh σ.length (.str (hashesS l)) = .str (hashesS l) from rfl, shS_nil, List.append_nil] at this
end Am
end Go.Proofs.YthgcooppjhcgcaaDoor
end
section
set_option linter.unusedSimpArgs false
set_option linter.unusedVariables false
/- Abstract code. (Printed by wip/gen.) -/
set_option maxRecDepth 10000
namespace Go.Proofs.YthgcooppjhcgcaaDoor
namespace Am



@[go_sem] def speculumlaw10_HeadsGet_r0 : List AIns := [
  ⟨some 4, none, .no, .box (.t 1)⟩,
  ⟨some 5, none, .no, .box (.t 2)⟩,
  ⟨some 6, none, .no, .mv (.v (.bool false))⟩]
@[go_sem] def speculumlaw10_HeadsGet_r1 : List AIns := [
  ⟨some 17, none, .no, .mv (.t 0)⟩,
  ⟨some 18, none, .no, .lenStr (.t 17)⟩,
  ⟨some 19, none, .no, .bin .gtr .none (.t 18) (.v (.int .i64 (1000)))⟩,
  ⟨some 20, none, .no, .mv (.t 19)⟩,
  ⟨some 21, some (20, false), .no, .load true 37 (.t 4)⟩,
  ⟨some 22, some (20, false), .no, .call (.v (.fn 30 [])) [(.t 21)]⟩,
  ⟨some 23, none, .no, .pick (.t 20) (.v (.bool true)) (.t 22)⟩]
@[go_sem] def speculumlaw10_HeadsGet_r2 : List AIns := [
  ⟨some 24, none, .no, .call (.v (.fn 31 [])) []⟩,
  ⟨some 6, none, .no, .mv (.t 24)⟩]
def speculumlaw10_HeadsGet_c3 : ACode := .seq (.reg speculumlaw10_HeadsGet_r2) .ret
def speculumlaw10_HeadsGet_c4 : ACode := .cond (.t 23) speculumlaw10_HeadsGet_c3 .skip
def speculumlaw10_HeadsGet_c5 : ACode := .seq (.reg speculumlaw10_HeadsGet_r1) speculumlaw10_HeadsGet_c4
@[go_sem] def speculumlaw10_HeadsGet_r6 : List AIns := [
  ⟨some 26, none, .no, .load true 37 (.t 4)⟩,
  ⟨some 27, none, .no, .call (.v (.fn 33 [])) [(.t 26)]⟩,
  ⟨some 28, none, .no, .call (.v (.fn 32 [])) [(.t 27)]⟩,
  ⟨some 25, none, .no, .mv (.t 28)⟩,
  ⟨some 29, none, .no, .ext 0 (.t 25)⟩,
  ⟨some 30, none, .no, .ext 1 (.t 25)⟩,
  ⟨some 7, none, .no, .mv (.t 29)⟩,
  ⟨some 8, none, .no, .mv (.t 30)⟩]
@[go_sem] def speculumlaw10_HeadsGet_r7 : List AIns := [
  ⟨some 31, none, .no, .mv (.t 0)⟩,
  ⟨some 32, none, .no, .mv (.t 7)⟩,
  ⟨some 33, none, .no, .mv (.t 7)⟩,
  ⟨some 34, none, .no, .mv (.t 0)⟩,
  ⟨some 35, none, .no, .bin .add .none (.t 33) (.t 34)⟩,
  ⟨some 36, none, .no, .mv (.t 7)⟩,
  ⟨some 37, none, .no, .iaArr 3 1 (.t 5) (.v (.int .i64 (0)))⟩,
  ⟨some 38, none, .no, .load false 1 (.t 37)⟩,
  ⟨some 39, none, .no, .conv (.int .i64) (.t 38)⟩,
  ⟨some 40, none, .no, .mv (.t 7)⟩,
  ⟨some 41, none, .no, .lenStr (.t 40)⟩,
  ⟨some 42, none, .no, .bin .add .none (.t 41) (.v (.int .i64 (1)))⟩,
  ⟨some 43, none, .no, .bin .rem .none (.t 39) (.t 42)⟩,
  ⟨some 44, none, .no, .slice .str (.t 36) none (some (.t 43)) none⟩,
  ⟨some 45, none, .no, .lit 1 [(.t 31), (.t 32), (.t 35), (.t 44)]⟩,
  ⟨some 9, none, .no, .mv (.t 45)⟩]
@[go_sem] def speculumlaw10_HeadsGet_r8 : List AIns := [
  ⟨some 46, none, .no, .mv (.t 7)⟩,
  ⟨some 47, none, .no, .lenStr (.t 46)⟩,
  ⟨some 48, none, .no, .bin .gtr .none (.t 47) (.v (.int .i64 (0)))⟩]
@[go_sem] def speculumlaw10_HeadsGet_r9 : List AIns := [
  ⟨some 49, none, .no, .mv (.t 7)⟩,
  ⟨some 50, none, .no, .conv .bytes (.t 49)⟩,
  ⟨some 10, none, .no, .mv (.t 50)⟩]
@[go_sem] def speculumlaw10_HeadsGet_r10 : List AIns := [
  ⟨some 51, none, .no, .iaArr 3 1 (.t 5) (.v (.int .i64 (0)))⟩,
  ⟨some 52, none, .no, .load false 1 (.t 51)⟩,
  ⟨some 53, none, .no, .conv (.int .i64) (.t 52)⟩,
  ⟨some 54, none, .no, .mv (.t 10)⟩,
  ⟨some 55, none, .no, .lenSl (.t 54)⟩,
  ⟨some 56, none, .no, .bin .rem .none (.t 53) (.t 55)⟩,
  ⟨some 11, none, .no, .mv (.t 56)⟩]
@[go_sem] def speculumlaw10_HeadsGet_r11 : List AIns := [
  ⟨some 57, none, .no, .iaArr 3 1 (.t 5) (.v (.int .i64 (2)))⟩,
  ⟨some 58, none, .no, .load false 1 (.t 57)⟩,
  ⟨some 59, none, .no, .bin .rem .none (.t 58) (.v (.int .u16 (2)))⟩,
  ⟨some 60, none, .no, .bin .eql .none (.t 59) (.v (.int .u16 (0)))⟩]
@[go_sem] def speculumlaw10_HeadsGet_r12 : List AIns := [
  ⟨some 61, none, .no, .mv (.t 11)⟩,
  ⟨some 62, none, .no, .bin .rem .none (.t 61) (.v (.int .i64 (60)))⟩,
  ⟨some 11, none, .no, .mv (.t 62)⟩]
def speculumlaw10_HeadsGet_c13 : ACode := .cond (.t 60) (.reg speculumlaw10_HeadsGet_r12) .skip
def speculumlaw10_HeadsGet_c14 : ACode := .seq (.reg speculumlaw10_HeadsGet_r11) speculumlaw10_HeadsGet_c13
@[go_sem] def speculumlaw10_HeadsGet_r15 : List AIns := [
  ⟨some 63, none, .no, .mv (.t 10)⟩,
  ⟨some 64, none, .no, .mv (.t 11)⟩,
  ⟨some 65, none, .no, .iaArr 3 1 (.t 5) (.v (.int .i64 (1)))⟩,
  ⟨some 66, none, .no, .load false 1 (.t 65)⟩,
  ⟨some 67, none, .no, .conv (.int .u8) (.t 66)⟩,
  ⟨some 68, none, .no, .iaSl 1 (.t 63) (.t 64)⟩,
  ⟨none, none, .no, .store 1 (.t 68) (.t 67)⟩]
@[go_sem] def speculumlaw10_HeadsGet_r16 : List AIns := [
  ⟨some 69, none, .no, .mv (.t 9)⟩,
  ⟨some 70, none, .no, .mv (.t 10)⟩,
  ⟨some 71, none, .no, .conv .str (.t 70)⟩,
  ⟨some 72, none, .no, .lit 1 [(.t 71)]⟩,
  ⟨some 73, none, .no, .app 1 (.t 69) (.t 72)⟩,
  ⟨some 9, none, .no, .mv (.t 73)⟩]
def speculumlaw10_HeadsGet_c17 : ACode := .seq (.reg speculumlaw10_HeadsGet_r15) (.reg speculumlaw10_HeadsGet_r16)
def speculumlaw10_HeadsGet_c18 : ACode := .seq speculumlaw10_HeadsGet_c14 speculumlaw10_HeadsGet_c17
def speculumlaw10_HeadsGet_c19 : ACode := .seq (.reg speculumlaw10_HeadsGet_r10) speculumlaw10_HeadsGet_c18
def speculumlaw10_HeadsGet_c20 : ACode := .seq (.reg speculumlaw10_HeadsGet_r9) speculumlaw10_HeadsGet_c19
def speculumlaw10_HeadsGet_c21 : ACode := .cond (.t 48) speculumlaw10_HeadsGet_c20 .skip
def speculumlaw10_HeadsGet_c22 : ACode := .seq (.reg speculumlaw10_HeadsGet_r8) speculumlaw10_HeadsGet_c21
@[go_sem] def speculumlaw10_HeadsGet_r23 : List AIns := [
  ⟨some 12, none, .no, .mv (.v (.int .i64 (0)))⟩]
@[go_sem] def speculumlaw10_HeadsGet_r24 : List AIns := [
  ⟨some 74, none, .no, .mv (.t 12)⟩,
  ⟨some 75, none, .no, .mv (.t 9)⟩,
  ⟨some 76, none, .no, .lenSl (.t 75)⟩,
  ⟨some 77, none, .no, .bin .lss .none (.t 74) (.t 76)⟩]
def speculumlaw10_HeadsGet_c25 : ACode := .cond (.t 77) .skip (.exit 0)
def speculumlaw10_HeadsGet_c26 : ACode := .seq (.reg speculumlaw10_HeadsGet_r24) speculumlaw10_HeadsGet_c25
@[go_sem] def speculumlaw10_HeadsGet_r27 : List AIns := [
  ⟨some 81, none, .no, .mv (.t 9)⟩,
  ⟨some 82, none, .no, .mv (.t 12)⟩,
  ⟨some 83, none, .no, .iaSl 1 (.t 81) (.t 82)⟩,
  ⟨some 84, none, .no, .load false 1 (.t 83)⟩,
  ⟨some 85, none, .no, .call (.v (.fn 34 [])) [(.t 84)]⟩,
  ⟨some 80, none, .no, .mv (.t 85)⟩,
  ⟨some 86, none, .no, .ext 0 (.t 80)⟩,
  ⟨some 87, none, .no, .ext 1 (.t 80)⟩,
  ⟨some 13, none, .no, .alloc [(.int .i64 (0)), (.int .u8 (0)), (.int .u8 (0)), (.int .u8 (0)), (.int .u8 (0)), (.int .u8 (0)), (.int .u8 (0)), (.int .u8 (0)), (.int .u8 (0)), (.int .u8 (0)), (.int .u8 (0)), (.int .u8 (0)), (.int .u8 (0)), (.int .u8 (0)), (.int .u8 (0)), (.int .u8 (0)), (.int .u8 (0)), (.int .u8 (0)), (.int .u8 (0)), (.int .u8 (0)), (.int .u8 (0)), (.int .u8 (0)), (.int .u8 (0)), (.int .u8 (0)), (.int .u8 (0)), (.int .u8 (0)), (.int .u8 (0)), (.int .u8 (0)), (.int .u8 (0)), (.int .u8 (0)), (.int .u8 (0)), (.int .u8 (0)), (.int .u8 (0)), (.int .i64 (0)), (.str []), .nilsl]⟩,
  ⟨none, none, .no, .store 36 (.t 13) (.t 86)⟩,
  ⟨some 14, none, .no, .mv (.t 87)⟩]
@[go_sem] def speculumlaw10_HeadsGet_r28 : List AIns := [
  ⟨some 89, none, .no, .mv (.t 9)⟩,
  ⟨some 90, none, .no, .mv (.t 12)⟩,
  ⟨some 91, none, .no, .iaSl 1 (.t 89) (.t 90)⟩,
  ⟨some 92, none, .no, .load false 1 (.t 91)⟩,
  ⟨some 93, none, .no, .call (.v (.fn 35 [])) [(.t 92)]⟩,
  ⟨some 88, none, .no, .mv (.t 93)⟩,
  ⟨some 94, none, .no, .ext 0 (.t 88)⟩,
  ⟨some 95, none, .no, .ext 1 (.t 88)⟩,
  ⟨some 15, none, .no, .alloc [(.int .i64 (0)), (.int .u8 (0)), (.int .u8 (0)), (.int .u8 (0)), (.int .u8 (0)), (.int .u8 (0)), (.int .u8 (0)), (.int .u8 (0)), (.int .u8 (0)), (.int .u8 (0)), (.int .u8 (0)), (.int .u8 (0)), (.int .u8 (0)), (.int .u8 (0)), (.int .u8 (0)), (.int .u8 (0)), (.int .u8 (0)), (.int .u8 (0)), (.int .u8 (0)), (.int .u8 (0)), (.int .u8 (0)), (.int .u8 (0)), (.int .u8 (0)), (.int .u8 (0)), (.int .u8 (0)), (.int .u8 (0)), (.int .u8 (0)), (.int .u8 (0)), (.int .u8 (0)), (.int .u8 (0)), (.int .u8 (0)), (.int .u8 (0)), (.int .u8 (0)), (.int .i64 (0)), (.str []), .nilsl]⟩,
  ⟨none, none, .no, .store 36 (.t 15) (.t 94)⟩,
  ⟨some 16, none, .no, .mv (.t 95)⟩]
@[go_sem] def speculumlaw10_HeadsGet_r29 : List AIns := [
  ⟨some 96, none, .no, .load true 36 (.t 13)⟩,
  ⟨some 97, none, .no, .load true 36 (.t 15)⟩,
  ⟨some 98, none, .no, .call (.v (.fn 36 [])) [(.t 96), (.t 97)]⟩,
  ⟨some 99, none, .no, .un .not (.t 98)⟩,
  ⟨some 100, none, .no, .mv (.t 99)⟩,
  ⟨some 101, some (100, false), .no, .mv (.t 14)⟩,
  ⟨some 102, some (100, false), .no, .mv (.t 16)⟩,
  ⟨some 103, some (100, false), .no, .bin .neq .none (.t 101) (.t 102)⟩,
  ⟨some 104, none, .no, .pick (.t 100) (.v (.bool true)) (.t 103)⟩]
@[go_sem] def speculumlaw10_HeadsGet_r30 : List AIns := [
  ⟨some 6, none, .no, .mv (.v (.bool false))⟩]
def speculumlaw10_HeadsGet_c31 : ACode := .seq (.reg speculumlaw10_HeadsGet_r30) .ret
def speculumlaw10_HeadsGet_c32 : ACode := .cond (.t 104) speculumlaw10_HeadsGet_c31 .skip
def speculumlaw10_HeadsGet_c33 : ACode := .seq (.reg speculumlaw10_HeadsGet_r29) speculumlaw10_HeadsGet_c32
def speculumlaw10_HeadsGet_c34 : ACode := .seq (.reg speculumlaw10_HeadsGet_r28) speculumlaw10_HeadsGet_c33
def speculumlaw10_HeadsGet_c35 : ACode := .seq (.reg speculumlaw10_HeadsGet_r27) speculumlaw10_HeadsGet_c34
@[go_sem] def speculumlaw10_HeadsGet_r36 : List AIns := [
  ⟨some 78, none, .no, .mv (.t 12)⟩,
  ⟨some 79, none, .no, .bin .add .none (.t 78) (.v (.int .i64 (1)))⟩,
  ⟨some 12, none, .no, .mv (.t 79)⟩]
def speculumlaw10_HeadsGet_c37 : ACode := .seq (.block 1 speculumlaw10_HeadsGet_c35) (.reg speculumlaw10_HeadsGet_r36)
def speculumlaw10_HeadsGet_c38 : ACode := .seq speculumlaw10_HeadsGet_c26 speculumlaw10_HeadsGet_c37
def speculumlaw10_HeadsGet_c39 : ACode := .loop speculumlaw10_HeadsGet_c38
def speculumlaw10_HeadsGet_c40 : ACode := .block 0 speculumlaw10_HeadsGet_c39
def speculumlaw10_HeadsGet_c41 : ACode := .seq (.reg speculumlaw10_HeadsGet_r23) speculumlaw10_HeadsGet_c40
@[go_sem] def speculumlaw10_HeadsGet_r42 : List AIns := [
  ⟨some 105, none, .no, .call (.v (.fn 31 [])) []⟩,
  ⟨some 6, none, .no, .mv (.t 105)⟩]
def speculumlaw10_HeadsGet_c43 : ACode := .seq (.reg speculumlaw10_HeadsGet_r42) .ret
def speculumlaw10_HeadsGet_c44 : ACode := .seq speculumlaw10_HeadsGet_c41 speculumlaw10_HeadsGet_c43
def speculumlaw10_HeadsGet_c45 : ACode := .seq speculumlaw10_HeadsGet_c22 speculumlaw10_HeadsGet_c44
def speculumlaw10_HeadsGet_c46 : ACode := .seq (.reg speculumlaw10_HeadsGet_r7) speculumlaw10_HeadsGet_c45
def speculumlaw10_HeadsGet_c47 : ACode := .seq (.reg speculumlaw10_HeadsGet_r6) speculumlaw10_HeadsGet_c46
def speculumlaw10_HeadsGet_c48 : ACode := .seq speculumlaw10_HeadsGet_c5 speculumlaw10_HeadsGet_c47
def speculumlaw10_HeadsGet_c49 : ACode := .seq (.reg speculumlaw10_HeadsGet_r0) speculumlaw10_HeadsGet_c48
theorem speculumlaw10_HeadsGet_ok : cFn TC 5 = some (106, [.t 6], speculumlaw10_HeadsGet_c49) := by kernel_rfl

@[go_sem] def speculumlaw10_HeadsBack_r0 : List AIns := [
  ⟨some 3, none, .no, .box (.t 0)⟩,
  ⟨some 6, none, .no, .mv (.v (.bool false))⟩]
@[go_sem] def speculumlaw10_HeadsBack_r1 : List AIns := [
  ⟨some 16, none, .no, .load true 37 (.t 3)⟩,
  ⟨some 17, none, .no, .call (.v (.fn 30 [])) [(.t 16)]⟩,
  ⟨some 18, none, .no, .mv (.t 17)⟩,
  ⟨some 19, some (18, false), .no, .mv (.t 1)⟩,
  ⟨some 20, some (18, false), .no, .lenStr (.t 19)⟩,
  ⟨some 21, some (18, false), .no, .bin .gtr .none (.t 20) (.v (.int .i64 (50)))⟩,
  ⟨some 22, none, .no, .pick (.t 18) (.v (.bool true)) (.t 21)⟩]
@[go_sem] def speculumlaw10_HeadsBack_r2 : List AIns := [
  ⟨some 23, none, .no, .call (.v (.fn 31 [])) []⟩,
  ⟨some 6, none, .no, .mv (.t 23)⟩]
def speculumlaw10_HeadsBack_c3 : ACode := .seq (.reg speculumlaw10_HeadsBack_r2) .ret
def speculumlaw10_HeadsBack_c4 : ACode := .cond (.t 22) speculumlaw10_HeadsBack_c3 .skip
def speculumlaw10_HeadsBack_c5 : ACode := .seq (.reg speculumlaw10_HeadsBack_r1) speculumlaw10_HeadsBack_c4
@[go_sem] def speculumlaw10_HeadsBack_r6 : List AIns := [
  ⟨some 24, none, .no, .load true 37 (.t 3)⟩,
  ⟨some 25, none, .no, .call (.v (.fn 33 [])) [(.t 24)]⟩,
  ⟨some 7, none, .no, .alloc [(.int .i64 (0)), (.int .u8 (0)), (.int .u8 (0)), (.int .u8 (0)), (.int .u8 (0)), (.int .u8 (0)), (.int .u8 (0)), (.int .u8 (0)), (.int .u8 (0)), (.int .u8 (0)), (.int .u8 (0)), (.int .u8 (0)), (.int .u8 (0)), (.int .u8 (0)), (.int .u8 (0)), (.int .u8 (0)), (.int .u8 (0)), (.int .u8 (0)), (.int .u8 (0)), (.int .u8 (0)), (.int .u8 (0)), (.int .u8 (0)), (.int .u8 (0)), (.int .u8 (0)), (.int .u8 (0)), (.int .u8 (0)), (.int .u8 (0)), (.int .u8 (0)), (.int .u8 (0)), (.int .u8 (0)), (.int .u8 (0)), (.int .u8 (0)), (.int .u8 (0)), (.int .i64 (0)), (.str []), .nilsl]⟩,
  ⟨none, none, .no, .store 36 (.t 7) (.t 25)⟩]
@[go_sem] def speculumlaw10_HeadsBack_r7 : List AIns := [
  ⟨some 27, none, .no, .load true 36 (.t 7)⟩,
  ⟨some 28, none, .no, .call (.v (.fn 37 [])) [(.t 27)]⟩,
  ⟨some 26, none, .no, .mv (.t 28)⟩,
  ⟨some 29, none, .no, .ext 0 (.t 26)⟩,
  ⟨some 30, none, .no, .ext 1 (.t 26)⟩,
  ⟨some 8, none, .no, .mv (.t 29)⟩,
  ⟨some 9, none, .no, .mv (.t 30)⟩]
@[go_sem] def speculumlaw10_HeadsBack_r8 : List AIns := [
  ⟨some 31, none, .no, .load true 36 (.t 7)⟩,
  ⟨some 32, none, .no, .call (.v (.fn 38 [])) [(.t 31)]⟩,
  ⟨some 33, none, .no, .un .not (.t 32)⟩]
@[go_sem] def speculumlaw10_HeadsBack_r9 : List AIns := [
  ⟨some 34, none, .no, .mv (.t 8)⟩,
  ⟨some 35, none, .no, .bin .eql .none (.t 34) (.v (.str []))⟩,
  ⟨some 36, none, .no, .mv (.t 35)⟩,
  ⟨some 37, some (36, true), .no, .mv (.t 9)⟩,
  ⟨some 38, some (36, true), .no, .bin .eql .none (.t 37) (.v (.int .i64 (2)))⟩,
  ⟨some 39, none, .no, .pick (.t 36) (.t 38) (.v (.bool false))⟩,
  ⟨some 40, none, .no, .mv (.t 39)⟩,
  ⟨some 41, some (40, true), .no, .call (.v (.fn 31 [])) []⟩,
  ⟨some 42, none, .no, .pick (.t 40) (.t 41) (.v (.bool false))⟩,
  ⟨some 6, none, .no, .mv (.t 42)⟩]
def speculumlaw10_HeadsBack_c10 : ACode := .seq (.reg speculumlaw10_HeadsBack_r9) .ret
def speculumlaw10_HeadsBack_c11 : ACode := .cond (.t 33) speculumlaw10_HeadsBack_c10 .skip
def speculumlaw10_HeadsBack_c12 : ACode := .seq (.reg speculumlaw10_HeadsBack_r8) speculumlaw10_HeadsBack_c11
@[go_sem] def speculumlaw10_HeadsBack_r13 : List AIns := [
  ⟨some 44, none, .no, .mv (.t 8)⟩,
  ⟨some 45, none, .no, .call (.v (.fn 34 [])) [(.t 44)]⟩,
  ⟨some 43, none, .no, .mv (.t 45)⟩,
  ⟨some 46, none, .no, .ext 0 (.t 43)⟩,
  ⟨some 47, none, .no, .ext 1 (.t 43)⟩,
  ⟨some 10, none, .no, .alloc [(.int .i64 (0)), (.int .u8 (0)), (.int .u8 (0)), (.int .u8 (0)), (.int .u8 (0)), (.int .u8 (0)), (.int .u8 (0)), (.int .u8 (0)), (.int .u8 (0)), (.int .u8 (0)), (.int .u8 (0)), (.int .u8 (0)), (.int .u8 (0)), (.int .u8 (0)), (.int .u8 (0)), (.int .u8 (0)), (.int .u8 (0)), (.int .u8 (0)), (.int .u8 (0)), (.int .u8 (0)), (.int .u8 (0)), (.int .u8 (0)), (.int .u8 (0)), (.int .u8 (0)), (.int .u8 (0)), (.int .u8 (0)), (.int .u8 (0)), (.int .u8 (0)), (.int .u8 (0)), (.int .u8 (0)), (.int .u8 (0)), (.int .u8 (0)), (.int .u8 (0)), (.int .i64 (0)), (.str []), .nilsl]⟩,
  ⟨none, none, .no, .store 36 (.t 10) (.t 46)⟩,
  ⟨some 11, none, .no, .mv (.t 47)⟩]
@[go_sem] def speculumlaw10_HeadsBack_r14 : List AIns := [
  ⟨some 48, none, .no, .mv (.t 9)⟩,
  ⟨some 49, none, .no, .bin .neq .none (.t 48) (.v (.int .i64 (0)))⟩,
  ⟨some 50, none, .no, .mv (.t 49)⟩,
  ⟨some 51, some (50, false), .no, .mv (.t 8)⟩,
  ⟨some 52, some (50, false), .no, .lenStr (.t 51)⟩,
  ⟨some 53, some (50, false), .no, .bin .leq .none (.t 52) (.v (.int .i64 (16384)))⟩,
  ⟨some 54, none, .no, .pick (.t 50) (.v (.bool true)) (.t 53)⟩,
  ⟨some 55, none, .no, .mv (.t 54)⟩,
  ⟨some 56, some (55, false), .no, .mv (.t 11)⟩,
  ⟨some 57, some (55, false), .no, .bin .neq .none (.t 56) (.v (.int .i64 (0)))⟩,
  ⟨some 58, none, .no, .pick (.t 55) (.v (.bool true)) (.t 57)⟩,
  ⟨some 59, none, .no, .mv (.t 58)⟩,
  ⟨some 60, some (59, false), .no, .load true 36 (.t 10)⟩,
  ⟨some 61, some (59, false), .no, .load true 36 (.t 7)⟩,
  ⟨some 62, some (59, false), .no, .call (.v (.fn 36 [])) [(.t 60), (.t 61)]⟩,
  ⟨some 63, some (59, false), .no, .un .not (.t 62)⟩,
  ⟨some 64, none, .no, .pick (.t 59) (.v (.bool true)) (.t 63)⟩]
@[go_sem] def speculumlaw10_HeadsBack_r15 : List AIns := [
  ⟨some 6, none, .no, .mv (.v (.bool false))⟩]
def speculumlaw10_HeadsBack_c16 : ACode := .seq (.reg speculumlaw10_HeadsBack_r15) .ret
def speculumlaw10_HeadsBack_c17 : ACode := .cond (.t 64) speculumlaw10_HeadsBack_c16 .skip
def speculumlaw10_HeadsBack_c18 : ACode := .seq (.reg speculumlaw10_HeadsBack_r14) speculumlaw10_HeadsBack_c17
@[go_sem] def speculumlaw10_HeadsBack_r19 : List AIns := [
  ⟨some 66, none, .no, .mv (.t 8)⟩,
  ⟨some 67, none, .no, .mv (.t 2)⟩,
  ⟨some 68, none, .no, .conv (.int .i64) (.t 67)⟩,
  ⟨some 69, none, .no, .mv (.t 8)⟩,
  ⟨some 70, none, .no, .lenStr (.t 69)⟩,
  ⟨some 71, none, .no, .bin .rem .none (.t 68) (.t 70)⟩,
  ⟨some 72, none, .no, .slice .str (.t 66) none (some (.t 71)) none⟩,
  ⟨some 73, none, .no, .call (.v (.fn 34 [])) [(.t 72)]⟩,
  ⟨some 65, none, .no, .mv (.t 73)⟩,
  ⟨some 74, none, .no, .ext 0 (.t 65)⟩,
  ⟨some 75, none, .no, .ext 1 (.t 65)⟩,
  ⟨some 12, none, .no, .alloc [(.int .i64 (0)), (.int .u8 (0)), (.int .u8 (0)), (.int .u8 (0)), (.int .u8 (0)), (.int .u8 (0)), (.int .u8 (0)), (.int .u8 (0)), (.int .u8 (0)), (.int .u8 (0)), (.int .u8 (0)), (.int .u8 (0)), (.int .u8 (0)), (.int .u8 (0)), (.int .u8 (0)), (.int .u8 (0)), (.int .u8 (0)), (.int .u8 (0)), (.int .u8 (0)), (.int .u8 (0)), (.int .u8 (0)), (.int .u8 (0)), (.int .u8 (0)), (.int .u8 (0)), (.int .u8 (0)), (.int .u8 (0)), (.int .u8 (0)), (.int .u8 (0)), (.int .u8 (0)), (.int .u8 (0)), (.int .u8 (0)), (.int .u8 (0)), (.int .u8 (0)), (.int .i64 (0)), (.str []), .nilsl]⟩,
  ⟨none, none, .no, .store 36 (.t 12) (.t 74)⟩,
  ⟨some 13, none, .no, .mv (.t 75)⟩]
@[go_sem] def speculumlaw10_HeadsBack_r20 : List AIns := [
  ⟨some 77, none, .no, .mv (.t 8)⟩,
  ⟨some 78, none, .no, .mv (.t 1)⟩,
  ⟨some 79, none, .no, .bin .add .none (.t 77) (.t 78)⟩,
  ⟨some 80, none, .no, .call (.v (.fn 34 [])) [(.t 79)]⟩,
  ⟨some 76, none, .no, .mv (.t 80)⟩,
  ⟨some 81, none, .no, .ext 0 (.t 76)⟩,
  ⟨some 82, none, .no, .ext 1 (.t 76)⟩,
  ⟨some 14, none, .no, .alloc [(.int .i64 (0)), (.int .u8 (0)), (.int .u8 (0)), (.int .u8 (0)), (.int .u8 (0)), (.int .u8 (0)), (.int .u8 (0)), (.int .u8 (0)), (.int .u8 (0)), (.int .u8 (0)), (.int .u8 (0)), (.int .u8 (0)), (.int .u8 (0)), (.int .u8 (0)), (.int .u8 (0)), (.int .u8 (0)), (.int .u8 (0)), (.int .u8 (0)), (.int .u8 (0)), (.int .u8 (0)), (.int .u8 (0)), (.int .u8 (0)), (.int .u8 (0)), (.int .u8 (0)), (.int .u8 (0)), (.int .u8 (0)), (.int .u8 (0)), (.int .u8 (0)), (.int .u8 (0)), (.int .u8 (0)), (.int .u8 (0)), (.int .u8 (0)), (.int .u8 (0)), (.int .i64 (0)), (.str []), .nilsl]⟩,
  ⟨none, none, .no, .store 36 (.t 14) (.t 81)⟩,
  ⟨some 15, none, .no, .mv (.t 82)⟩]
@[go_sem] def speculumlaw10_HeadsBack_r21 : List AIns := [
  ⟨some 83, none, .no, .mv (.t 13)⟩,
  ⟨some 84, none, .no, .bin .eql .none (.t 83) (.v (.int .i64 (10)))⟩,
  ⟨some 85, none, .no, .mv (.t 84)⟩,
  ⟨some 86, some (85, true), .no, .load true 36 (.t 12)⟩,
  ⟨some 87, some (85, true), .no, .build [(.int .i64 (0)), (.int .u8 (0)), (.int .u8 (0)), (.int .u8 (0)), (.int .u8 (0)), (.int .u8 (0)), (.int .u8 (0)), (.int .u8 (0)), (.int .u8 (0)), (.int .u8 (0)), (.int .u8 (0)), (.int .u8 (0)), (.int .u8 (0)), (.int .u8 (0)), (.int .u8 (0)), (.int .u8 (0)), (.int .u8 (0)), (.int .u8 (0)), (.int .u8 (0)), (.int .u8 (0)), (.int .u8 (0)), (.int .u8 (0)), (.int .u8 (0)), (.int .u8 (0)), (.int .u8 (0)), (.int .u8 (0)), (.int .u8 (0)), (.int .u8 (0)), (.int .u8 (0)), (.int .u8 (0)), (.int .u8 (0)), (.int .u8 (0)), (.int .u8 (0)), (.int .i64 (0)), (.str []), .nilsl] []⟩,
  ⟨some 88, some (85, true), .no, .call (.v (.fn 36 [])) [(.t 86), (.t 87)]⟩,
  ⟨some 89, none, .no, .pick (.t 85) (.t 88) (.v (.bool false))⟩,
  ⟨some 90, none, .no, .mv (.t 89)⟩,
  ⟨some 91, some (90, true), .no, .mv (.t 15)⟩,
  ⟨some 92, some (90, true), .no, .bin .eql .none (.t 91) (.v (.int .i64 (0)))⟩,
  ⟨some 93, some (90, true), .no, .mv (.t 1)⟩,
  ⟨some 94, some (90, true), .no, .bin .eql .none (.t 93) (.v (.str []))⟩,
  ⟨some 95, some (90, true), .no, .bin .eql .bool (.t 92) (.t 94)⟩,
  ⟨some 96, none, .no, .pick (.t 90) (.t 95) (.v (.bool false))⟩,
  ⟨some 97, none, .no, .mv (.t 96)⟩,
  ⟨some 98, some (97, true), .no, .load true 36 (.t 14)⟩,
  ⟨some 99, some (97, true), .no, .load true 36 (.t 7)⟩,
  ⟨some 100, some (97, true), .no, .call (.v (.fn 36 [])) [(.t 98), (.t 99)]⟩,
  ⟨some 101, some (97, true), .no, .mv (.t 1)⟩,
  ⟨some 102, some (97, true), .no, .bin .eql .none (.t 101) (.v (.str []))⟩,
  ⟨some 103, some (97, true), .no, .bin .eql .bool (.t 100) (.t 102)⟩,
  ⟨some 104, none, .no, .pick (.t 97) (.t 103) (.v (.bool false))⟩,
  ⟨some 105, none, .no, .mv (.t 104)⟩,
  ⟨some 106, some (105, true), .no, .call (.v (.fn 31 [])) []⟩,
  ⟨some 107, none, .no, .pick (.t 105) (.t 106) (.v (.bool false))⟩,
  ⟨some 6, none, .no, .mv (.t 107)⟩]
def speculumlaw10_HeadsBack_c22 : ACode := .seq (.reg speculumlaw10_HeadsBack_r21) .ret
def speculumlaw10_HeadsBack_c23 : ACode := .seq (.reg speculumlaw10_HeadsBack_r20) speculumlaw10_HeadsBack_c22
def speculumlaw10_HeadsBack_c24 : ACode := .seq (.reg speculumlaw10_HeadsBack_r19) speculumlaw10_HeadsBack_c23
def speculumlaw10_HeadsBack_c25 : ACode := .seq speculumlaw10_HeadsBack_c18 speculumlaw10_HeadsBack_c24
def speculumlaw10_HeadsBack_c26 : ACode := .seq (.reg speculumlaw10_HeadsBack_r13) speculumlaw10_HeadsBack_c25
def speculumlaw10_HeadsBack_c27 : ACode := .seq speculumlaw10_HeadsBack_c12 speculumlaw10_HeadsBack_c26
def speculumlaw10_HeadsBack_c28 : ACode := .seq (.reg speculumlaw10_HeadsBack_r7) speculumlaw10_HeadsBack_c27
def speculumlaw10_HeadsBack_c29 : ACode := .seq (.reg speculumlaw10_HeadsBack_r6) speculumlaw10_HeadsBack_c28
def speculumlaw10_HeadsBack_c30 : ACode := .seq speculumlaw10_HeadsBack_c5 speculumlaw10_HeadsBack_c29
def speculumlaw10_HeadsBack_c31 : ACode := .seq (.reg speculumlaw10_HeadsBack_r0) speculumlaw10_HeadsBack_c30
theorem speculumlaw10_HeadsBack_ok : cFn TC 6 = some (108, [.t 6], speculumlaw10_HeadsBack_c31) := by kernel_rfl

@[go_sem] def speculumlaw10_Rough__Great_r0 : List AIns := [
  ⟨some 1, none, .no, .box (.t 0)⟩,
  ⟨some 2, none, .no, .mv (.v (.bool false))⟩]
@[go_sem] def speculumlaw10_Rough__Great_r1 : List AIns := [
  ⟨some 3, none, .no, .fa 34 (.t 1)⟩,
  ⟨some 4, none, .no, .load false 1 (.t 3)⟩,
  ⟨some 5, none, .no, .lenStr (.t 4)⟩,
  ⟨some 6, none, .no, .bin .gtr .none (.t 5) (.v (.int .i64 (300)))⟩,
  ⟨some 7, none, .no, .mv (.t 6)⟩,
  ⟨some 8, some (7, false), .no, .fa 36 (.t 1)⟩,
  ⟨some 9, some (7, false), .no, .load false 1 (.t 8)⟩,
  ⟨some 10, some (7, false), .no, .lenSl (.t 9)⟩,
  ⟨some 11, some (7, false), .no, .bin .gtr .none (.t 10) (.v (.int .i64 (40)))⟩,
  ⟨some 12, none, .no, .pick (.t 7) (.v (.bool true)) (.t 11)⟩,
  ⟨some 2, none, .no, .mv (.t 12)⟩]
def speculumlaw10_Rough__Great_c2 : ACode := .seq (.reg speculumlaw10_Rough__Great_r1) .ret
def speculumlaw10_Rough__Great_c3 : ACode := .seq (.reg speculumlaw10_Rough__Great_r0) speculumlaw10_Rough__Great_c2
theorem speculumlaw10_Rough__Great_ok : cFn TC 30 = some (13, [.t 2], speculumlaw10_Rough__Great_c3) := by kernel_rfl

@[go_sem] def speculumlaw10_headed_r0 : List AIns := [
  ⟨some 0, none, .no, .mv (.v (.bool false))⟩]
@[go_sem] def speculumlaw10_headed_r1 : List AIns := [
  ⟨some 8, none, .no, .build [(.int .i64 (0)), (.int .u8 (0)), (.int .u8 (0)), (.int .u8 (0)), (.int .u8 (0)), (.int .u8 (0)), (.int .u8 (0)), (.int .u8 (0)), (.int .u8 (0)), (.int .u8 (0)), (.int .u8 (0)), (.int .u8 (0)), (.int .u8 (0)), (.int .u8 (0)), (.int .u8 (0)), (.int .u8 (0)), (.int .u8 (0)), (.int .u8 (0)), (.int .u8 (0)), (.int .u8 (0)), (.int .u8 (0)), (.int .u8 (0)), (.int .u8 (0)), (.int .u8 (0)), (.int .u8 (0)), (.int .u8 (0)), (.int .u8 (0)), (.int .u8 (0)), (.int .u8 (0)), (.int .u8 (0)), (.int .u8 (0)), (.int .u8 (0)), (.int .u8 (0))] [(0, 1, (.v (.int .i64 (3))))]⟩,
  ⟨some 9, none, .no, .build [(.int .i64 (0)), (.int .u8 (0)), (.int .u8 (0)), (.int .u8 (0)), (.int .u8 (0)), (.int .u8 (0)), (.int .u8 (0)), (.int .u8 (0)), (.int .u8 (0)), (.int .u8 (0)), (.int .u8 (0)), (.int .u8 (0)), (.int .u8 (0)), (.int .u8 (0)), (.int .u8 (0)), (.int .u8 (0)), (.int .u8 (0)), (.int .u8 (0)), (.int .u8 (0)), (.int .u8 (0)), (.int .u8 (0)), (.int .u8 (0)), (.int .u8 (0)), (.int .u8 (0)), (.int .u8 (0)), (.int .u8 (0)), (.int .u8 (0)), (.int .u8 (0)), (.int .u8 (0)), (.int .u8 (0)), (.int .u8 (0)), (.int .u8 (0)), (.int .u8 (0))] [(0, 1, (.v (.int .i64 (4))))]⟩,
  ⟨some 1, none, .no, .alloc [(.int .i64 (0)), (.int .u8 (0)), (.int .u8 (0)), (.int .u8 (0)), (.int .u8 (0)), (.int .u8 (0)), (.int .u8 (0)), (.int .u8 (0)), (.int .u8 (0)), (.int .u8 (0)), (.int .u8 (0)), (.int .u8 (0)), (.int .u8 (0)), (.int .u8 (0)), (.int .u8 (0)), (.int .u8 (0)), (.int .u8 (0)), (.int .u8 (0)), (.int .u8 (0)), (.int .u8 (0)), (.int .u8 (0)), (.int .u8 (0)), (.int .u8 (0)), (.int .u8 (0)), (.int .u8 (0)), (.int .u8 (0)), (.int .u8 (0)), (.int .u8 (0)), (.int .u8 (0)), (.int .u8 (0)), (.int .u8 (0)), (.int .u8 (0)), (.int .u8 (0))]⟩,
  ⟨some 2, none, .no, .alloc [(.int .i64 (0)), (.int .u8 (0)), (.int .u8 (0)), (.int .u8 (0)), (.int .u8 (0)), (.int .u8 (0)), (.int .u8 (0)), (.int .u8 (0)), (.int .u8 (0)), (.int .u8 (0)), (.int .u8 (0)), (.int .u8 (0)), (.int .u8 (0)), (.int .u8 (0)), (.int .u8 (0)), (.int .u8 (0)), (.int .u8 (0)), (.int .u8 (0)), (.int .u8 (0)), (.int .u8 (0)), (.int .u8 (0)), (.int .u8 (0)), (.int .u8 (0)), (.int .u8 (0)), (.int .u8 (0)), (.int .u8 (0)), (.int .u8 (0)), (.int .u8 (0)), (.int .u8 (0)), (.int .u8 (0)), (.int .u8 (0)), (.int .u8 (0)), (.int .u8 (0))]⟩,
  ⟨none, none, .no, .store 33 (.t 1) (.t 8)⟩,
  ⟨none, none, .no, .store 33 (.t 2) (.t 9)⟩]
@[go_sem] def speculumlaw10_headed_r2 : List AIns := [
  ⟨some 10, none, .no, .build [(.int .u8 (0)), (.int .u8 (0)), (.int .u8 (0)), (.int .u8 (0)), (.int .u8 (0)), (.int .u8 (0)), (.int .u8 (0)), (.int .u8 (0)), (.int .u8 (0)), (.int .u8 (0)), (.int .u8 (0)), (.int .u8 (0)), (.int .u8 (0)), (.int .u8 (0)), (.int .u8 (0)), (.int .u8 (0)), (.int .u8 (0)), (.int .u8 (0)), (.int .u8 (0)), (.int .u8 (0)), (.int .u8 (0)), (.int .u8 (0)), (.int .u8 (0)), (.int .u8 (0)), (.int .u8 (0)), (.int .u8 (0)), (.int .u8 (0)), (.int .u8 (0)), (.int .u8 (0)), (.int .u8 (0)), (.int .u8 (0)), (.int .u8 (0))] [(0, 1, (.v (.int .u8 (1))))]⟩,
  ⟨some 11, none, .no, .build [(.int .i64 (0)), (.int .u8 (0)), (.int .u8 (0)), (.int .u8 (0)), (.int .u8 (0)), (.int .u8 (0)), (.int .u8 (0)), (.int .u8 (0)), (.int .u8 (0)), (.int .u8 (0)), (.int .u8 (0)), (.int .u8 (0)), (.int .u8 (0)), (.int .u8 (0)), (.int .u8 (0)), (.int .u8 (0)), (.int .u8 (0)), (.int .u8 (0)), (.int .u8 (0)), (.int .u8 (0)), (.int .u8 (0)), (.int .u8 (0)), (.int .u8 (0)), (.int .u8 (0)), (.int .u8 (0)), (.int .u8 (0)), (.int .u8 (0)), (.int .u8 (0)), (.int .u8 (0)), (.int .u8 (0)), (.int .u8 (0)), (.int .u8 (0)), (.int .u8 (0))] [(0, 1, (.v (.int .i64 (4)))), (1, 32, (.t 10))]⟩,
  ⟨some 3, none, .no, .alloc [(.int .i64 (0)), (.int .u8 (0)), (.int .u8 (0)), (.int .u8 (0)), (.int .u8 (0)), (.int .u8 (0)), (.int .u8 (0)), (.int .u8 (0)), (.int .u8 (0)), (.int .u8 (0)), (.int .u8 (0)), (.int .u8 (0)), (.int .u8 (0)), (.int .u8 (0)), (.int .u8 (0)), (.int .u8 (0)), (.int .u8 (0)), (.int .u8 (0)), (.int .u8 (0)), (.int .u8 (0)), (.int .u8 (0)), (.int .u8 (0)), (.int .u8 (0)), (.int .u8 (0)), (.int .u8 (0)), (.int .u8 (0)), (.int .u8 (0)), (.int .u8 (0)), (.int .u8 (0)), (.int .u8 (0)), (.int .u8 (0)), (.int .u8 (0)), (.int .u8 (0))]⟩,
  ⟨none, none, .no, .store 33 (.t 3) (.t 11)⟩]
@[go_sem] def speculumlaw10_headed_r3 : List AIns := [
  ⟨some 13, none, .no, .load true 33 (.t 1)⟩,
  ⟨some 14, none, .no, .build [(.int .i64 (0)), (.int .u8 (0)), (.int .u8 (0)), (.int .u8 (0)), (.int .u8 (0)), (.int .u8 (0)), (.int .u8 (0)), (.int .u8 (0)), (.int .u8 (0)), (.int .u8 (0)), (.int .u8 (0)), (.int .u8 (0)), (.int .u8 (0)), (.int .u8 (0)), (.int .u8 (0)), (.int .u8 (0)), (.int .u8 (0)), (.int .u8 (0)), (.int .u8 (0)), (.int .u8 (0)), (.int .u8 (0)), (.int .u8 (0)), (.int .u8 (0)), (.int .u8 (0)), (.int .u8 (0)), (.int .u8 (0)), (.int .u8 (0)), (.int .u8 (0)), (.int .u8 (0)), (.int .u8 (0)), (.int .u8 (0)), (.int .u8 (0)), (.int .u8 (0)), (.int .i64 (0)), (.str []), .nilsl] [(0, 33, (.t 13))]⟩,
  ⟨some 15, none, .no, .call (.v (.fn 37 [])) [(.t 14)]⟩,
  ⟨some 12, none, .no, .mv (.t 15)⟩,
  ⟨some 16, none, .no, .ext 0 (.t 12)⟩,
  ⟨some 17, none, .no, .ext 1 (.t 12)⟩,
  ⟨some 4, none, .no, .mv (.t 16)⟩,
  ⟨some 5, none, .no, .mv (.t 17)⟩]
@[go_sem] def speculumlaw10_headed_r4 : List AIns := [
  ⟨some 19, none, .no, .call (.v (.fn 34 [])) [(.v (.str []))]⟩,
  ⟨some 18, none, .no, .mv (.t 19)⟩,
  ⟨some 20, none, .no, .ext 0 (.t 18)⟩,
  ⟨some 21, none, .no, .ext 1 (.t 18)⟩,
  ⟨some 6, none, .no, .alloc [(.int .i64 (0)), (.int .u8 (0)), (.int .u8 (0)), (.int .u8 (0)), (.int .u8 (0)), (.int .u8 (0)), (.int .u8 (0)), (.int .u8 (0)), (.int .u8 (0)), (.int .u8 (0)), (.int .u8 (0)), (.int .u8 (0)), (.int .u8 (0)), (.int .u8 (0)), (.int .u8 (0)), (.int .u8 (0)), (.int .u8 (0)), (.int .u8 (0)), (.int .u8 (0)), (.int .u8 (0)), (.int .u8 (0)), (.int .u8 (0)), (.int .u8 (0)), (.int .u8 (0)), (.int .u8 (0)), (.int .u8 (0)), (.int .u8 (0)), (.int .u8 (0)), (.int .u8 (0)), (.int .u8 (0)), (.int .u8 (0)), (.int .u8 (0)), (.int .u8 (0)), (.int .i64 (0)), (.str []), .nilsl]⟩,
  ⟨none, none, .no, .store 36 (.t 6) (.t 20)⟩,
  ⟨some 7, none, .no, .mv (.t 21)⟩]
@[go_sem] def speculumlaw10_headed_r5 : List AIns := [
  ⟨some 22, none, .no, .load true 33 (.t 1)⟩,
  ⟨some 23, none, .no, .load true 33 (.t 2)⟩,
  ⟨some 24, none, .no, .call (.v (.fn 54 [])) [(.t 22), (.t 23)]⟩,
  ⟨some 25, none, .no, .bin .eql .none (.t 24) (.v (.int .i64 (0)))⟩,
  ⟨some 26, none, .no, .mv (.t 25)⟩,
  ⟨some 27, some (26, true), .no, .load true 33 (.t 2)⟩,
  ⟨some 28, some (26, true), .no, .load true 33 (.t 3)⟩,
  ⟨some 29, some (26, true), .no, .call (.v (.fn 54 [])) [(.t 27), (.t 28)]⟩,
  ⟨some 30, some (26, true), .no, .bin .eql .none (.t 29) (.v (.int .i64 (3)))⟩,
  ⟨some 31, none, .no, .pick (.t 26) (.t 30) (.v (.bool false))⟩,
  ⟨some 32, none, .no, .mv (.t 31)⟩,
  ⟨some 33, some (32, true), .no, .load true 33 (.t 2)⟩,
  ⟨some 34, some (32, true), .no, .load true 33 (.t 2)⟩,
  ⟨some 35, some (32, true), .no, .call (.v (.fn 54 [])) [(.t 33), (.t 34)]⟩,
  ⟨some 36, some (32, true), .no, .bin .eql .none (.t 35) (.v (.int .i64 (1)))⟩,
  ⟨some 37, none, .no, .pick (.t 32) (.t 36) (.v (.bool false))⟩,
  ⟨some 38, none, .no, .mv (.t 37)⟩,
  ⟨some 39, some (38, true), .no, .load true 33 (.t 2)⟩,
  ⟨some 40, some (38, true), .no, .load true 33 (.t 1)⟩,
  ⟨some 41, some (38, true), .no, .call (.v (.fn 54 [])) [(.t 39), (.t 40)]⟩,
  ⟨some 42, some (38, true), .no, .bin .eql .none (.t 41) (.v (.int .i64 (2)))⟩,
  ⟨some 43, none, .no, .pick (.t 38) (.t 42) (.v (.bool false))⟩,
  ⟨some 44, none, .no, .mv (.t 43)⟩,
  ⟨some 45, some (44, true), .no, .mv (.t 5)⟩,
  ⟨some 46, some (44, true), .no, .bin .eql .none (.t 45) (.v (.int .i64 (2)))⟩,
  ⟨some 47, none, .no, .pick (.t 44) (.t 46) (.v (.bool false))⟩,
  ⟨some 48, none, .no, .mv (.t 47)⟩,
  ⟨some 49, some (48, true), .no, .build [(.int .u8 (0)), (.int .u8 (0)), (.int .u8 (0)), (.int .u8 (0)), (.int .u8 (0)), (.int .u8 (0)), (.int .u8 (0)), (.int .u8 (0)), (.int .u8 (0)), (.int .u8 (0)), (.int .u8 (0)), (.int .u8 (0)), (.int .u8 (0)), (.int .u8 (0)), (.int .u8 (0)), (.int .u8 (0)), (.int .u8 (0)), (.int .u8 (0)), (.int .u8 (0)), (.int .u8 (0)), (.int .u8 (0)), (.int .u8 (0)), (.int .u8 (0)), (.int .u8 (0)), (.int .u8 (0)), (.int .u8 (0)), (.int .u8 (0)), (.int .u8 (0)), (.int .u8 (0)), (.int .u8 (0)), (.int .u8 (0)), (.int .u8 (0))] []⟩,
  ⟨some 50, some (48, true), .no, .load true 33 (.t 1)⟩,
  ⟨some 51, some (48, true), .no, .build [(.int .i64 (0)), (.int .u8 (0)), (.int .u8 (0)), (.int .u8 (0)), (.int .u8 (0)), (.int .u8 (0)), (.int .u8 (0)), (.int .u8 (0)), (.int .u8 (0)), (.int .u8 (0)), (.int .u8 (0)), (.int .u8 (0)), (.int .u8 (0)), (.int .u8 (0)), (.int .u8 (0)), (.int .u8 (0)), (.int .u8 (0)), (.int .u8 (0)), (.int .u8 (0)), (.int .u8 (0)), (.int .u8 (0)), (.int .u8 (0)), (.int .u8 (0)), (.int .u8 (0)), (.int .u8 (0)), (.int .u8 (0)), (.int .u8 (0)), (.int .u8 (0)), (.int .u8 (0)), (.int .u8 (0)), (.int .u8 (0)), (.int .u8 (0)), (.int .u8 (0)), (.int .i64 (0)), (.str []), .nilsl] [(0, 33, (.t 50))]⟩,
  ⟨some 52, some (48, true), .no, .call (.v (.fn 52 [])) [(.t 49), (.t 51)]⟩,
  ⟨some 53, some (48, true), .no, .bin .eql .none (.t 52) (.v (.int .i64 (2)))⟩,
  ⟨some 54, none, .no, .pick (.t 48) (.t 53) (.v (.bool false))⟩,
  ⟨some 55, none, .no, .mv (.t 54)⟩,
  ⟨some 56, some (55, true), .no, .mv (.t 7)⟩,
  ⟨some 57, some (55, true), .no, .bin .eql .none (.t 56) (.v (.int .i64 (10)))⟩,
  ⟨some 58, none, .no, .pick (.t 55) (.t 57) (.v (.bool false))⟩,
  ⟨some 0, none, .no, .mv (.t 58)⟩]
def speculumlaw10_headed_c6 : ACode := .seq (.reg speculumlaw10_headed_r5) .ret
def speculumlaw10_headed_c7 : ACode := .seq (.reg speculumlaw10_headed_r4) speculumlaw10_headed_c6
def speculumlaw10_headed_c8 : ACode := .seq (.reg speculumlaw10_headed_r3) speculumlaw10_headed_c7
def speculumlaw10_headed_c9 : ACode := .seq (.reg speculumlaw10_headed_r2) speculumlaw10_headed_c8
def speculumlaw10_headed_c10 : ACode := .seq (.reg speculumlaw10_headed_r1) speculumlaw10_headed_c9
def speculumlaw10_headed_c11 : ACode := .seq (.reg speculumlaw10_headed_r0) speculumlaw10_headed_c10
theorem speculumlaw10_headed_ok : cFn TC 31 = some (59, [.t 0], speculumlaw10_headed_c11) := by kernel_rfl

@[go_sem] def speculumref10_Put_r0 : List AIns := [
  ⟨some 1, none, .no, .box (.t 0)⟩,
  ⟨some 2, none, .no, .mv (.v (.str []))⟩,
  ⟨some 3, none, .no, .mv (.v (.int .i64 (0)))⟩]
@[go_sem] def speculumref10_Put_r1 : List AIns := [
  ⟨some 4, none, .no, .load true 36 (.t 1)⟩,
  ⟨some 5, none, .no, .call (.v (.fn 51 [])) [(.t 4)]⟩,
  ⟨some 6, none, .no, .un .not (.t 5)⟩]
@[go_sem] def speculumref10_Put_r2 : List AIns := [
  ⟨some 2, none, .no, .mv (.v (.str []))⟩,
  ⟨some 3, none, .no, .mv (.v (.int .i64 (2)))⟩]
def speculumref10_Put_c3 : ACode := .seq (.reg speculumref10_Put_r2) .ret
def speculumref10_Put_c4 : ACode := .cond (.t 6) speculumref10_Put_c3 .skip
def speculumref10_Put_c5 : ACode := .seq (.reg speculumref10_Put_r1) speculumref10_Put_c4
@[go_sem] def speculumref10_Put_r6 : List AIns := [
  ⟨some 7, none, .no, .fa 0 (.t 1)⟩,
  ⟨some 8, none, .no, .fa 0 (.t 7)⟩,
  ⟨some 9, none, .rd, .load false 1 (.t 8)⟩,
  ⟨some 10, none, .no, .conv (.int .u64) (.t 9)⟩,
  ⟨some 11, none, .ef, .call (.v (.fn 98 [])) [(.t 10)]⟩,
  ⟨some 12, none, .no, .fa 0 (.t 1)⟩,
  ⟨some 13, none, .no, .fa 1 (.t 12)⟩,
  ⟨some 14, none, .rd, .load true 32 (.t 13)⟩,
  ⟨some 15, none, .ef, .call (.v (.fn 99 [])) [(.t 14)]⟩,
  ⟨some 16, none, .no, .bin .add .none (.t 11) (.t 15)⟩,
  ⟨some 17, none, .no, .fa 33 (.t 1)⟩,
  ⟨some 18, none, .no, .fa 0 (.t 17)⟩,
  ⟨some 19, none, .rd, .load false 1 (.t 18)⟩,
  ⟨some 20, none, .no, .conv (.int .u64) (.t 19)⟩,
  ⟨some 21, none, .ef, .call (.v (.fn 98 [])) [(.t 20)]⟩,
  ⟨some 22, none, .no, .bin .add .none (.t 16) (.t 21)⟩,
  ⟨some 23, none, .no, .fa 33 (.t 1)⟩,
  ⟨some 24, none, .no, .fa 1 (.t 23)⟩,
  ⟨some 25, none, .rd, .load false 1 (.t 24)⟩,
  ⟨some 26, none, .ef, .call (.v (.fn 100 [])) [(.t 25)]⟩,
  ⟨some 27, none, .no, .bin .add .none (.t 22) (.t 26)⟩,
  ⟨some 28, none, .no, .fa 33 (.t 1)⟩,
  ⟨some 29, none, .no, .fa 2 (.t 28)⟩,
  ⟨some 30, none, .rd, .load false 1 (.t 29)⟩,
  ⟨some 31, none, .no, .call (.v (.fn 101 [])) [(.t 30)]⟩,
  ⟨some 32, none, .no, .bin .add .none (.t 27) (.t 31)⟩,
  ⟨some 2, none, .no, .mv (.t 32)⟩,
  ⟨some 3, none, .no, .mv (.v (.int .i64 (0)))⟩]
def speculumref10_Put_c7 : ACode := .seq (.reg speculumref10_Put_r6) .ret
def speculumref10_Put_c8 : ACode := .seq speculumref10_Put_c5 speculumref10_Put_c7
def speculumref10_Put_c9 : ACode := .seq (.reg speculumref10_Put_r0) speculumref10_Put_c8
theorem speculumref10_Put_ok : cFn TC 32 = some (33, [.t 2, .t 3], speculumref10_Put_c9) := by kernel_rfl

@[go_sem] def speculumlaw10_Rough__Signed_r0 : List AIns := [
  ⟨some 1, none, .no, .box (.t 0)⟩,
  ⟨some 2, none, .no, .alloc [(.int .i64 (0)), (.int .u8 (0)), (.int .u8 (0)), (.int .u8 (0)), (.int .u8 (0)), (.int .u8 (0)), (.int .u8 (0)), (.int .u8 (0)), (.int .u8 (0)), (.int .u8 (0)), (.int .u8 (0)), (.int .u8 (0)), (.int .u8 (0)), (.int .u8 (0)), (.int .u8 (0)), (.int .u8 (0)), (.int .u8 (0)), (.int .u8 (0)), (.int .u8 (0)), (.int .u8 (0)), (.int .u8 (0)), (.int .u8 (0)), (.int .u8 (0)), (.int .u8 (0)), (.int .u8 (0)), (.int .u8 (0)), (.int .u8 (0)), (.int .u8 (0)), (.int .u8 (0)), (.int .u8 (0)), (.int .u8 (0)), (.int .u8 (0)), (.int .u8 (0)), (.int .i64 (0)), (.str []), .nilsl]⟩]
@[go_sem] def speculumlaw10_Rough__Signed_r1 : List AIns := [
  ⟨some 5, none, .no, .fa 35 (.t 1)⟩,
  ⟨some 6, none, .no, .load false 1 (.t 5)⟩,
  ⟨some 7, none, .no, .conv (.int .i64) (.t 6)⟩,
  ⟨some 8, none, .no, .bin .add .none (.v (.int .i64 (16384))) (.t 7)⟩,
  ⟨some 3, none, .no, .mv (.t 8)⟩]
@[go_sem] def speculumlaw10_Rough__Signed_r2 : List AIns := [
  ⟨some 4, none, .no, .mv (.v (.str []))⟩]
@[go_sem] def speculumlaw10_Rough__Signed_r3 : List AIns := [
  ⟨some 9, none, .no, .fa 34 (.t 1)⟩,
  ⟨some 10, none, .no, .load false 1 (.t 9)⟩,
  ⟨some 11, none, .no, .lenStr (.t 10)⟩,
  ⟨some 12, none, .no, .bin .gtr .none (.t 11) (.v (.int .i64 (0)))⟩,
  ⟨some 13, none, .no, .mv (.t 12)⟩,
  ⟨some 14, some (13, true), .no, .mv (.t 4)⟩,
  ⟨some 15, some (13, true), .no, .lenStr (.t 14)⟩,
  ⟨some 16, some (13, true), .no, .mv (.t 3)⟩,
  ⟨some 17, some (13, true), .no, .bin .lss .none (.t 15) (.t 16)⟩,
  ⟨some 18, none, .no, .pick (.t 13) (.t 17) (.v (.bool false))⟩]
def speculumlaw10_Rough__Signed_c4 : ACode := .cond (.t 18) .skip (.exit 0)
def speculumlaw10_Rough__Signed_c5 : ACode := .seq (.reg speculumlaw10_Rough__Signed_r3) speculumlaw10_Rough__Signed_c4
@[go_sem] def speculumlaw10_Rough__Signed_r6 : List AIns := [
  ⟨some 19, none, .no, .mv (.t 4)⟩,
  ⟨some 20, none, .no, .fa 34 (.t 1)⟩,
  ⟨some 21, none, .no, .load false 1 (.t 20)⟩,
  ⟨some 22, none, .no, .bin .add .none (.t 19) (.t 21)⟩,
  ⟨some 4, none, .no, .mv (.t 22)⟩]
def speculumlaw10_Rough__Signed_c7 : ACode := .block 1 (.reg speculumlaw10_Rough__Signed_r6)
def speculumlaw10_Rough__Signed_c8 : ACode := .seq speculumlaw10_Rough__Signed_c5 speculumlaw10_Rough__Signed_c7
def speculumlaw10_Rough__Signed_c9 : ACode := .loop speculumlaw10_Rough__Signed_c8
@[go_sem] def speculumlaw10_Rough__Signed_r10 : List AIns := [
  ⟨some 23, none, .no, .fa 0 (.t 1)⟩,
  ⟨some 24, none, .rd, .load true 33 (.t 23)⟩,
  ⟨some 25, none, .no, .fa 33 (.t 1)⟩,
  ⟨some 26, none, .rd, .load false 1 (.t 25)⟩,
  ⟨some 27, none, .no, .mv (.t 4)⟩,
  ⟨some 28, none, .no, .mv (.t 4)⟩,
  ⟨some 29, none, .no, .lenStr (.t 28)⟩,
  ⟨some 30, none, .no, .mv (.t 3)⟩,
  ⟨some 31, none, .no, .minmax false (.t 29) (.t 30)⟩,
  ⟨some 32, none, .no, .slice .str (.t 27) none (some (.t 31)) none⟩,
  ⟨some 33, none, .no, .fa 36 (.t 1)⟩,
  ⟨some 34, none, .rd, .load false 1 (.t 33)⟩,
  ⟨some 35, none, .no, .build [(.int .i64 (0)), (.str []), .nilsl] [(0, 1, (.t 26)), (1, 1, (.t 32)), (2, 1, (.t 34))]⟩,
  ⟨some 36, none, .no, .build [(.int .i64 (0)), (.int .u8 (0)), (.int .u8 (0)), (.int .u8 (0)), (.int .u8 (0)), (.int .u8 (0)), (.int .u8 (0)), (.int .u8 (0)), (.int .u8 (0)), (.int .u8 (0)), (.int .u8 (0)), (.int .u8 (0)), (.int .u8 (0)), (.int .u8 (0)), (.int .u8 (0)), (.int .u8 (0)), (.int .u8 (0)), (.int .u8 (0)), (.int .u8 (0)), (.int .u8 (0)), (.int .u8 (0)), (.int .u8 (0)), (.int .u8 (0)), (.int .u8 (0)), (.int .u8 (0)), (.int .u8 (0)), (.int .u8 (0)), (.int .u8 (0)), (.int .u8 (0)), (.int .u8 (0)), (.int .u8 (0)), (.int .u8 (0)), (.int .u8 (0)), (.int .i64 (0)), (.str []), .nilsl] [(0, 33, (.t 24)), (33, 3, (.t 35))]⟩,
  ⟨none, none, .no, .store 36 (.t 2) (.t 36)⟩]
def speculumlaw10_Rough__Signed_c11 : ACode := .seq (.reg speculumlaw10_Rough__Signed_r10) .ret
def speculumlaw10_Rough__Signed_c12 : ACode := .seq (.block 0 speculumlaw10_Rough__Signed_c9) speculumlaw10_Rough__Signed_c11
def speculumlaw10_Rough__Signed_c13 : ACode := .seq (.reg speculumlaw10_Rough__Signed_r2) speculumlaw10_Rough__Signed_c12
def speculumlaw10_Rough__Signed_c14 : ACode := .seq (.reg speculumlaw10_Rough__Signed_r1) speculumlaw10_Rough__Signed_c13
def speculumlaw10_Rough__Signed_c15 : ACode := .seq (.reg speculumlaw10_Rough__Signed_r0) speculumlaw10_Rough__Signed_c14
theorem speculumlaw10_Rough__Signed_ok : cFn TC 33 = some (37, [.c 2 true 36], speculumlaw10_Rough__Signed_c15) := by kernel_rfl

@[go_sem] def heads_Get_r0 : List AIns := [
  ⟨some 2, none, .no, .alloc [(.int .i64 (0)), (.int .u8 (0)), (.int .u8 (0)), (.int .u8 (0)), (.int .u8 (0)), (.int .u8 (0)), (.int .u8 (0)), (.int .u8 (0)), (.int .u8 (0)), (.int .u8 (0)), (.int .u8 (0)), (.int .u8 (0)), (.int .u8 (0)), (.int .u8 (0)), (.int .u8 (0)), (.int .u8 (0)), (.int .u8 (0)), (.int .u8 (0)), (.int .u8 (0)), (.int .u8 (0)), (.int .u8 (0)), (.int .u8 (0)), (.int .u8 (0)), (.int .u8 (0)), (.int .u8 (0)), (.int .u8 (0)), (.int .u8 (0)), (.int .u8 (0)), (.int .u8 (0)), (.int .u8 (0)), (.int .u8 (0)), (.int .u8 (0)), (.int .u8 (0)), (.int .i64 (0)), (.str []), .nilsl]⟩,
  ⟨some 3, none, .no, .mv (.v (.int .i64 (0)))⟩]
@[go_sem] def heads_Get_r1 : List AIns := [
  ⟨some 17, none, .no, .mv (.t 0)⟩,
  ⟨some 18, none, .no, .call (.v (.fn 102 [])) [(.t 17)]⟩,
  ⟨some 16, none, .no, .mv (.t 18)⟩,
  ⟨some 19, none, .no, .ext 0 (.t 16)⟩,
  ⟨some 20, none, .no, .ext 1 (.t 16)⟩,
  ⟨some 21, none, .no, .ext 2 (.t 16)⟩,
  ⟨some 4, none, .no, .mv (.t 19)⟩,
  ⟨some 5, none, .no, .mv (.t 20)⟩,
  ⟨some 6, none, .no, .mv (.t 21)⟩]
@[go_sem] def heads_Get_r2 : List AIns := [
  ⟨some 23, none, .no, .mv (.t 5)⟩,
  ⟨some 24, none, .no, .call (.v (.fn 103 [])) [(.t 23)]⟩,
  ⟨some 22, none, .no, .mv (.t 24)⟩,
  ⟨some 25, none, .no, .ext 0 (.t 22)⟩,
  ⟨some 26, none, .no, .ext 1 (.t 22)⟩,
  ⟨some 27, none, .no, .ext 2 (.t 22)⟩,
  ⟨some 7, none, .no, .alloc [(.int .u8 (0)), (.int .u8 (0)), (.int .u8 (0)), (.int .u8 (0)), (.int .u8 (0)), (.int .u8 (0)), (.int .u8 (0)), (.int .u8 (0)), (.int .u8 (0)), (.int .u8 (0)), (.int .u8 (0)), (.int .u8 (0)), (.int .u8 (0)), (.int .u8 (0)), (.int .u8 (0)), (.int .u8 (0)), (.int .u8 (0)), (.int .u8 (0)), (.int .u8 (0)), (.int .u8 (0)), (.int .u8 (0)), (.int .u8 (0)), (.int .u8 (0)), (.int .u8 (0)), (.int .u8 (0)), (.int .u8 (0)), (.int .u8 (0)), (.int .u8 (0)), (.int .u8 (0)), (.int .u8 (0)), (.int .u8 (0)), (.int .u8 (0))]⟩,
  ⟨none, none, .no, .store 32 (.t 7) (.t 25)⟩,
  ⟨some 5, none, .no, .mv (.t 26)⟩,
  ⟨some 8, none, .no, .mv (.t 27)⟩]
@[go_sem] def heads_Get_r3 : List AIns := [
  ⟨some 29, none, .no, .mv (.t 5)⟩,
  ⟨some 30, none, .no, .call (.v (.fn 102 [])) [(.t 29)]⟩,
  ⟨some 28, none, .no, .mv (.t 30)⟩,
  ⟨some 31, none, .no, .ext 0 (.t 28)⟩,
  ⟨some 32, none, .no, .ext 1 (.t 28)⟩,
  ⟨some 33, none, .no, .ext 2 (.t 28)⟩,
  ⟨some 9, none, .no, .mv (.t 31)⟩,
  ⟨some 5, none, .no, .mv (.t 32)⟩,
  ⟨some 10, none, .no, .mv (.t 33)⟩]
@[go_sem] def heads_Get_r4 : List AIns := [
  ⟨some 35, none, .no, .mv (.t 5)⟩,
  ⟨some 36, none, .no, .call (.v (.fn 104 [])) [(.t 35)]⟩,
  ⟨some 34, none, .no, .mv (.t 36)⟩,
  ⟨some 37, none, .no, .ext 0 (.t 34)⟩,
  ⟨some 38, none, .no, .ext 1 (.t 34)⟩,
  ⟨some 39, none, .no, .ext 2 (.t 34)⟩,
  ⟨some 11, none, .no, .mv (.t 37)⟩,
  ⟨some 5, none, .no, .mv (.t 38)⟩,
  ⟨some 12, none, .no, .mv (.t 39)⟩]
@[go_sem] def heads_Get_r5 : List AIns := [
  ⟨some 41, none, .no, .mv (.t 5)⟩,
  ⟨some 42, none, .no, .call (.v (.fn 105 [])) [(.t 41)]⟩,
  ⟨some 40, none, .no, .mv (.t 42)⟩,
  ⟨some 43, none, .no, .ext 0 (.t 40)⟩,
  ⟨some 44, none, .no, .ext 1 (.t 40)⟩,
  ⟨some 45, none, .no, .ext 2 (.t 40)⟩,
  ⟨some 13, none, .no, .mv (.t 43)⟩,
  ⟨some 5, none, .no, .mv (.t 44)⟩,
  ⟨some 14, none, .no, .mv (.t 45)⟩]
@[go_sem] def heads_Get_r6 : List AIns := [
  ⟨some 46, none, .no, .mv (.t 4)⟩,
  ⟨some 47, none, .pu, .call (.v (.fn 106 [])) [(.t 46)]⟩,
  ⟨some 48, none, .rd, .load true 32 (.t 7)⟩,
  ⟨some 49, none, .no, .build [(.int .i64 (0)), (.int .u8 (0)), (.int .u8 (0)), (.int .u8 (0)), (.int .u8 (0)), (.int .u8 (0)), (.int .u8 (0)), (.int .u8 (0)), (.int .u8 (0)), (.int .u8 (0)), (.int .u8 (0)), (.int .u8 (0)), (.int .u8 (0)), (.int .u8 (0)), (.int .u8 (0)), (.int .u8 (0)), (.int .u8 (0)), (.int .u8 (0)), (.int .u8 (0)), (.int .u8 (0)), (.int .u8 (0)), (.int .u8 (0)), (.int .u8 (0)), (.int .u8 (0)), (.int .u8 (0)), (.int .u8 (0)), (.int .u8 (0)), (.int .u8 (0)), (.int .u8 (0)), (.int .u8 (0)), (.int .u8 (0)), (.int .u8 (0)), (.int .u8 (0))] [(0, 1, (.t 47)), (1, 32, (.t 48))]⟩,
  ⟨some 50, none, .no, .mv (.t 9)⟩,
  ⟨some 51, none, .pu, .call (.v (.fn 106 [])) [(.t 50)]⟩,
  ⟨some 52, none, .no, .mv (.t 11)⟩,
  ⟨some 53, none, .no, .mv (.t 13)⟩,
  ⟨some 54, none, .no, .build [(.int .i64 (0)), (.str []), .nilsl] [(0, 1, (.t 51)), (1, 1, (.t 52)), (2, 1, (.t 53))]⟩,
  ⟨some 55, none, .no, .build [(.int .i64 (0)), (.int .u8 (0)), (.int .u8 (0)), (.int .u8 (0)), (.int .u8 (0)), (.int .u8 (0)), (.int .u8 (0)), (.int .u8 (0)), (.int .u8 (0)), (.int .u8 (0)), (.int .u8 (0)), (.int .u8 (0)), (.int .u8 (0)), (.int .u8 (0)), (.int .u8 (0)), (.int .u8 (0)), (.int .u8 (0)), (.int .u8 (0)), (.int .u8 (0)), (.int .u8 (0)), (.int .u8 (0)), (.int .u8 (0)), (.int .u8 (0)), (.int .u8 (0)), (.int .u8 (0)), (.int .u8 (0)), (.int .u8 (0)), (.int .u8 (0)), (.int .u8 (0)), (.int .u8 (0)), (.int .u8 (0)), (.int .u8 (0)), (.int .u8 (0)), (.int .i64 (0)), (.str []), .nilsl] [(0, 33, (.t 49)), (33, 3, (.t 54))]⟩,
  ⟨some 15, none, .ef, .alloc [(.int .i64 (0)), (.int .u8 (0)), (.int .u8 (0)), (.int .u8 (0)), (.int .u8 (0)), (.int .u8 (0)), (.int .u8 (0)), (.int .u8 (0)), (.int .u8 (0)), (.int .u8 (0)), (.int .u8 (0)), (.int .u8 (0)), (.int .u8 (0)), (.int .u8 (0)), (.int .u8 (0)), (.int .u8 (0)), (.int .u8 (0)), (.int .u8 (0)), (.int .u8 (0)), (.int .u8 (0)), (.int .u8 (0)), (.int .u8 (0)), (.int .u8 (0)), (.int .u8 (0)), (.int .u8 (0)), (.int .u8 (0)), (.int .u8 (0)), (.int .u8 (0)), (.int .u8 (0)), (.int .u8 (0)), (.int .u8 (0)), (.int .u8 (0)), (.int .u8 (0)), (.int .i64 (0)), (.str []), .nilsl]⟩,
  ⟨none, none, .no, .store 36 (.t 15) (.t 55)⟩]
@[go_sem] def heads_Get_r7 : List AIns := [
  ⟨some 56, none, .no, .mv (.t 6)⟩,
  ⟨some 57, none, .no, .un .not (.t 56)⟩,
  ⟨some 58, none, .no, .mv (.t 57)⟩,
  ⟨some 59, some (58, false), .no, .mv (.t 8)⟩,
  ⟨some 60, some (58, false), .no, .un .not (.t 59)⟩,
  ⟨some 61, none, .no, .pick (.t 58) (.v (.bool true)) (.t 60)⟩,
  ⟨some 62, none, .no, .mv (.t 61)⟩,
  ⟨some 63, some (62, false), .no, .mv (.t 10)⟩,
  ⟨some 64, some (62, false), .no, .un .not (.t 63)⟩,
  ⟨some 65, none, .no, .pick (.t 62) (.v (.bool true)) (.t 64)⟩,
  ⟨some 66, none, .no, .mv (.t 65)⟩,
  ⟨some 67, some (66, false), .no, .mv (.t 12)⟩,
  ⟨some 68, some (66, false), .no, .un .not (.t 67)⟩,
  ⟨some 69, none, .no, .pick (.t 66) (.v (.bool true)) (.t 68)⟩,
  ⟨some 70, none, .no, .mv (.t 69)⟩,
  ⟨some 71, some (70, false), .no, .mv (.t 14)⟩,
  ⟨some 72, some (70, false), .no, .un .not (.t 71)⟩,
  ⟨some 73, none, .no, .pick (.t 70) (.v (.bool true)) (.t 72)⟩,
  ⟨some 74, none, .no, .mv (.t 73)⟩,
  ⟨some 75, some (74, false), .no, .mv (.t 5)⟩,
  ⟨some 76, some (74, false), .no, .bin .neq .none (.t 75) (.v (.str []))⟩,
  ⟨some 77, none, .no, .pick (.t 74) (.v (.bool true)) (.t 76)⟩,
  ⟨some 78, none, .no, .mv (.t 77)⟩,
  ⟨some 79, some (78, false), .no, .load true 36 (.t 15)⟩,
  ⟨some 80, some (78, false), .no, .call (.v (.fn 38 [])) [(.t 79)]⟩,
  ⟨some 81, some (78, false), .no, .un .not (.t 80)⟩,
  ⟨some 82, none, .no, .pick (.t 78) (.v (.bool true)) (.t 81)⟩]
@[go_sem] def heads_Get_r8 : List AIns := [
  ⟨some 83, none, .no, .build [(.int .i64 (0)), (.int .u8 (0)), (.int .u8 (0)), (.int .u8 (0)), (.int .u8 (0)), (.int .u8 (0)), (.int .u8 (0)), (.int .u8 (0)), (.int .u8 (0)), (.int .u8 (0)), (.int .u8 (0)), (.int .u8 (0)), (.int .u8 (0)), (.int .u8 (0)), (.int .u8 (0)), (.int .u8 (0)), (.int .u8 (0)), (.int .u8 (0)), (.int .u8 (0)), (.int .u8 (0)), (.int .u8 (0)), (.int .u8 (0)), (.int .u8 (0)), (.int .u8 (0)), (.int .u8 (0)), (.int .u8 (0)), (.int .u8 (0)), (.int .u8 (0)), (.int .u8 (0)), (.int .u8 (0)), (.int .u8 (0)), (.int .u8 (0)), (.int .u8 (0)), (.int .i64 (0)), (.str []), .nilsl] []⟩,
  ⟨none, none, .no, .store 36 (.t 2) (.t 83)⟩,
  ⟨some 3, none, .no, .mv (.v (.int .i64 (10)))⟩]
def heads_Get_c9 : ACode := .seq (.reg heads_Get_r8) .ret
def heads_Get_c10 : ACode := .cond (.t 82) heads_Get_c9 .skip
def heads_Get_c11 : ACode := .seq (.reg heads_Get_r7) heads_Get_c10
@[go_sem] def heads_Get_r12 : List AIns := [
  ⟨some 84, none, .no, .load true 36 (.t 15)⟩,
  ⟨none, none, .no, .store 36 (.t 2) (.t 84)⟩,
  ⟨some 3, none, .no, .mv (.v (.int .i64 (0)))⟩]
def heads_Get_c13 : ACode := .seq (.reg heads_Get_r12) .ret
def heads_Get_c14 : ACode := .seq heads_Get_c11 heads_Get_c13
def heads_Get_c15 : ACode := .seq (.reg heads_Get_r6) heads_Get_c14
def heads_Get_c16 : ACode := .seq (.reg heads_Get_r5) heads_Get_c15
def heads_Get_c17 : ACode := .seq (.reg heads_Get_r4) heads_Get_c16
def heads_Get_c18 : ACode := .seq (.reg heads_Get_r3) heads_Get_c17
def heads_Get_c19 : ACode := .seq (.reg heads_Get_r2) heads_Get_c18
def heads_Get_c20 : ACode := .seq (.reg heads_Get_r1) heads_Get_c19
def heads_Get_c21 : ACode := .seq (.reg heads_Get_r0) heads_Get_c20
theorem heads_Get_ok : cFn TC 34 = some (85, [.c 2 true 36, .t 3], heads_Get_c21) := by kernel_rfl

@[go_sem] def speculumref10_Get_r0 : List AIns := [
  ⟨some 2, none, .no, .alloc [(.int .i64 (0)), (.int .u8 (0)), (.int .u8 (0)), (.int .u8 (0)), (.int .u8 (0)), (.int .u8 (0)), (.int .u8 (0)), (.int .u8 (0)), (.int .u8 (0)), (.int .u8 (0)), (.int .u8 (0)), (.int .u8 (0)), (.int .u8 (0)), (.int .u8 (0)), (.int .u8 (0)), (.int .u8 (0)), (.int .u8 (0)), (.int .u8 (0)), (.int .u8 (0)), (.int .u8 (0)), (.int .u8 (0)), (.int .u8 (0)), (.int .u8 (0)), (.int .u8 (0)), (.int .u8 (0)), (.int .u8 (0)), (.int .u8 (0)), (.int .u8 (0)), (.int .u8 (0)), (.int .u8 (0)), (.int .u8 (0)), (.int .u8 (0)), (.int .u8 (0)), (.int .i64 (0)), (.str []), .nilsl]⟩,
  ⟨some 3, none, .no, .mv (.v (.int .i64 (0)))⟩]
@[go_sem] def speculumref10_Get_r1 : List AIns := [
  ⟨some 20, none, .no, .mv (.t 0)⟩,
  ⟨some 21, none, .no, .call (.v (.fn 107 [])) [(.t 20)]⟩,
  ⟨some 19, none, .no, .mv (.t 21)⟩,
  ⟨some 22, none, .no, .ext 0 (.t 19)⟩,
  ⟨some 23, none, .no, .ext 1 (.t 19)⟩,
  ⟨some 24, none, .no, .ext 2 (.t 19)⟩,
  ⟨some 4, none, .no, .mv (.t 22)⟩,
  ⟨some 5, none, .no, .mv (.t 23)⟩,
  ⟨some 6, none, .no, .mv (.t 24)⟩]
@[go_sem] def speculumref10_Get_r2 : List AIns := [
  ⟨some 26, none, .no, .mv (.t 5)⟩,
  ⟨some 27, none, .no, .call (.v (.fn 108 [])) [(.t 26)]⟩,
  ⟨some 25, none, .no, .mv (.t 27)⟩,
  ⟨some 28, none, .no, .ext 0 (.t 25)⟩,
  ⟨some 29, none, .no, .ext 1 (.t 25)⟩,
  ⟨some 30, none, .no, .ext 2 (.t 25)⟩,
  ⟨some 7, none, .no, .alloc [(.int .u8 (0)), (.int .u8 (0)), (.int .u8 (0)), (.int .u8 (0)), (.int .u8 (0)), (.int .u8 (0)), (.int .u8 (0)), (.int .u8 (0)), (.int .u8 (0)), (.int .u8 (0)), (.int .u8 (0)), (.int .u8 (0)), (.int .u8 (0)), (.int .u8 (0)), (.int .u8 (0)), (.int .u8 (0)), (.int .u8 (0)), (.int .u8 (0)), (.int .u8 (0)), (.int .u8 (0)), (.int .u8 (0)), (.int .u8 (0)), (.int .u8 (0)), (.int .u8 (0)), (.int .u8 (0)), (.int .u8 (0)), (.int .u8 (0)), (.int .u8 (0)), (.int .u8 (0)), (.int .u8 (0)), (.int .u8 (0)), (.int .u8 (0))]⟩,
  ⟨none, none, .no, .store 32 (.t 7) (.t 28)⟩,
  ⟨some 5, none, .no, .mv (.t 29)⟩,
  ⟨some 8, none, .no, .mv (.t 30)⟩]
@[go_sem] def speculumref10_Get_r3 : List AIns := [
  ⟨some 32, none, .no, .mv (.t 5)⟩,
  ⟨some 33, none, .no, .call (.v (.fn 107 [])) [(.t 32)]⟩,
  ⟨some 31, none, .no, .mv (.t 33)⟩,
  ⟨some 34, none, .no, .ext 0 (.t 31)⟩,
  ⟨some 35, none, .no, .ext 1 (.t 31)⟩,
  ⟨some 36, none, .no, .ext 2 (.t 31)⟩,
  ⟨some 9, none, .no, .mv (.t 34)⟩,
  ⟨some 5, none, .no, .mv (.t 35)⟩,
  ⟨some 10, none, .no, .mv (.t 36)⟩]
@[go_sem] def speculumref10_Get_r4 : List AIns := [
  ⟨some 38, none, .no, .mv (.t 5)⟩,
  ⟨some 39, none, .no, .call (.v (.fn 109 [])) [(.t 38)]⟩,
  ⟨some 37, none, .no, .mv (.t 39)⟩,
  ⟨some 40, none, .no, .ext 0 (.t 37)⟩,
  ⟨some 41, none, .no, .ext 1 (.t 37)⟩,
  ⟨some 42, none, .no, .ext 2 (.t 37)⟩,
  ⟨some 11, none, .no, .mv (.t 40)⟩,
  ⟨some 5, none, .no, .mv (.t 41)⟩,
  ⟨some 12, none, .no, .mv (.t 42)⟩]
@[go_sem] def speculumref10_Get_r5 : List AIns := [
  ⟨some 44, none, .no, .mv (.t 5)⟩,
  ⟨some 45, none, .no, .call (.v (.fn 110 [])) [(.t 44)]⟩,
  ⟨some 43, none, .no, .mv (.t 45)⟩,
  ⟨some 46, none, .no, .ext 0 (.t 43)⟩,
  ⟨some 47, none, .no, .ext 1 (.t 43)⟩,
  ⟨some 48, none, .no, .ext 2 (.t 43)⟩,
  ⟨some 13, none, .no, .mv (.t 46)⟩,
  ⟨some 14, none, .no, .mv (.t 47)⟩,
  ⟨some 15, none, .no, .mv (.t 48)⟩]
@[go_sem] def speculumref10_Get_r6 : List AIns := [
  ⟨some 49, none, .no, .mv (.t 6)⟩,
  ⟨some 50, none, .no, .un .not (.t 49)⟩,
  ⟨some 51, none, .no, .mv (.t 50)⟩,
  ⟨some 52, some (51, false), .no, .mv (.t 8)⟩,
  ⟨some 53, some (51, false), .no, .un .not (.t 52)⟩,
  ⟨some 54, none, .no, .pick (.t 51) (.v (.bool true)) (.t 53)⟩,
  ⟨some 55, none, .no, .mv (.t 54)⟩,
  ⟨some 56, some (55, false), .no, .mv (.t 10)⟩,
  ⟨some 57, some (55, false), .no, .un .not (.t 56)⟩,
  ⟨some 58, none, .no, .pick (.t 55) (.v (.bool true)) (.t 57)⟩,
  ⟨some 59, none, .no, .mv (.t 58)⟩,
  ⟨some 60, some (59, false), .no, .mv (.t 12)⟩,
  ⟨some 61, some (59, false), .no, .un .not (.t 60)⟩,
  ⟨some 62, none, .no, .pick (.t 59) (.v (.bool true)) (.t 61)⟩,
  ⟨some 63, none, .no, .mv (.t 62)⟩,
  ⟨some 64, some (63, false), .no, .mv (.t 15)⟩,
  ⟨some 65, some (63, false), .no, .un .not (.t 64)⟩,
  ⟨some 66, none, .no, .pick (.t 63) (.v (.bool true)) (.t 65)⟩,
  ⟨some 67, none, .no, .mv (.t 66)⟩,
  ⟨some 68, some (67, false), .no, .mv (.t 4)⟩,
  ⟨some 69, some (67, false), .no, .bin .gtr .none (.t 68) (.v (.int .u64 (4096)))⟩,
  ⟨some 70, none, .no, .pick (.t 67) (.v (.bool true)) (.t 69)⟩,
  ⟨some 71, none, .no, .mv (.t 70)⟩,
  ⟨some 72, some (71, false), .no, .mv (.t 9)⟩,
  ⟨some 73, some (71, false), .no, .bin .gtr .none (.t 72) (.v (.int .u64 (7)))⟩,
  ⟨some 74, none, .no, .pick (.t 71) (.v (.bool true)) (.t 73)⟩]
@[go_sem] def speculumref10_Get_r7 : List AIns := [
  ⟨some 75, none, .no, .build [(.int .i64 (0)), (.int .u8 (0)), (.int .u8 (0)), (.int .u8 (0)), (.int .u8 (0)), (.int .u8 (0)), (.int .u8 (0)), (.int .u8 (0)), (.int .u8 (0)), (.int .u8 (0)), (.int .u8 (0)), (.int .u8 (0)), (.int .u8 (0)), (.int .u8 (0)), (.int .u8 (0)), (.int .u8 (0)), (.int .u8 (0)), (.int .u8 (0)), (.int .u8 (0)), (.int .u8 (0)), (.int .u8 (0)), (.int .u8 (0)), (.int .u8 (0)), (.int .u8 (0)), (.int .u8 (0)), (.int .u8 (0)), (.int .u8 (0)), (.int .u8 (0)), (.int .u8 (0)), (.int .u8 (0)), (.int .u8 (0)), (.int .u8 (0)), (.int .u8 (0)), (.int .i64 (0)), (.str []), .nilsl] []⟩,
  ⟨none, none, .no, .store 36 (.t 2) (.t 75)⟩,
  ⟨some 3, none, .no, .mv (.v (.int .i64 (10)))⟩]
def speculumref10_Get_c8 : ACode := .seq (.reg speculumref10_Get_r7) .ret
def speculumref10_Get_c9 : ACode := .cond (.t 74) speculumref10_Get_c8 .skip
def speculumref10_Get_c10 : ACode := .seq (.reg speculumref10_Get_r6) speculumref10_Get_c9
@[go_sem] def speculumref10_Get_r11 : List AIns := [
  ⟨some 76, none, .no, .mv (.t 4)⟩,
  ⟨some 77, none, .no, .conv (.int .i64) (.t 76)⟩,
  ⟨some 78, none, .no, .load true 32 (.t 7)⟩,
  ⟨some 79, none, .no, .build [(.int .i64 (0)), (.int .u8 (0)), (.int .u8 (0)), (.int .u8 (0)), (.int .u8 (0)), (.int .u8 (0)), (.int .u8 (0)), (.int .u8 (0)), (.int .u8 (0)), (.int .u8 (0)), (.int .u8 (0)), (.int .u8 (0)), (.int .u8 (0)), (.int .u8 (0)), (.int .u8 (0)), (.int .u8 (0)), (.int .u8 (0)), (.int .u8 (0)), (.int .u8 (0)), (.int .u8 (0)), (.int .u8 (0)), (.int .u8 (0)), (.int .u8 (0)), (.int .u8 (0)), (.int .u8 (0)), (.int .u8 (0)), (.int .u8 (0)), (.int .u8 (0)), (.int .u8 (0)), (.int .u8 (0)), (.int .u8 (0)), (.int .u8 (0)), (.int .u8 (0))] [(0, 1, (.t 77)), (1, 32, (.t 78))]⟩,
  ⟨some 80, none, .no, .mv (.t 9)⟩,
  ⟨some 81, none, .no, .conv (.int .i64) (.t 80)⟩,
  ⟨some 82, none, .no, .mv (.t 11)⟩,
  ⟨some 83, none, .no, .mv (.t 13)⟩,
  ⟨some 84, none, .no, .build [(.int .i64 (0)), (.str []), .nilsl] [(0, 1, (.t 81)), (1, 1, (.t 82)), (2, 1, (.t 83))]⟩,
  ⟨some 85, none, .no, .build [(.int .i64 (0)), (.int .u8 (0)), (.int .u8 (0)), (.int .u8 (0)), (.int .u8 (0)), (.int .u8 (0)), (.int .u8 (0)), (.int .u8 (0)), (.int .u8 (0)), (.int .u8 (0)), (.int .u8 (0)), (.int .u8 (0)), (.int .u8 (0)), (.int .u8 (0)), (.int .u8 (0)), (.int .u8 (0)), (.int .u8 (0)), (.int .u8 (0)), (.int .u8 (0)), (.int .u8 (0)), (.int .u8 (0)), (.int .u8 (0)), (.int .u8 (0)), (.int .u8 (0)), (.int .u8 (0)), (.int .u8 (0)), (.int .u8 (0)), (.int .u8 (0)), (.int .u8 (0)), (.int .u8 (0)), (.int .u8 (0)), (.int .u8 (0)), (.int .u8 (0)), (.int .i64 (0)), (.str []), .nilsl] [(0, 33, (.t 79)), (33, 3, (.t 84))]⟩,
  ⟨some 16, none, .no, .alloc [(.int .i64 (0)), (.int .u8 (0)), (.int .u8 (0)), (.int .u8 (0)), (.int .u8 (0)), (.int .u8 (0)), (.int .u8 (0)), (.int .u8 (0)), (.int .u8 (0)), (.int .u8 (0)), (.int .u8 (0)), (.int .u8 (0)), (.int .u8 (0)), (.int .u8 (0)), (.int .u8 (0)), (.int .u8 (0)), (.int .u8 (0)), (.int .u8 (0)), (.int .u8 (0)), (.int .u8 (0)), (.int .u8 (0)), (.int .u8 (0)), (.int .u8 (0)), (.int .u8 (0)), (.int .u8 (0)), (.int .u8 (0)), (.int .u8 (0)), (.int .u8 (0)), (.int .u8 (0)), (.int .u8 (0)), (.int .u8 (0)), (.int .u8 (0)), (.int .u8 (0)), (.int .i64 (0)), (.str []), .nilsl]⟩,
  ⟨none, none, .no, .store 36 (.t 16) (.t 85)⟩]
@[go_sem] def speculumref10_Get_r12 : List AIns := [
  ⟨some 87, none, .no, .load true 36 (.t 16)⟩,
  ⟨some 88, none, .no, .call (.v (.fn 32 [])) [(.t 87)]⟩,
  ⟨some 86, none, .no, .mv (.t 88)⟩,
  ⟨some 89, none, .no, .ext 0 (.t 86)⟩,
  ⟨some 90, none, .no, .ext 1 (.t 86)⟩,
  ⟨some 17, none, .no, .mv (.t 89)⟩,
  ⟨some 18, none, .no, .mv (.t 90)⟩]
@[go_sem] def speculumref10_Get_r13 : List AIns := [
  ⟨some 91, none, .no, .mv (.t 18)⟩,
  ⟨some 92, none, .no, .bin .neq .none (.t 91) (.v (.int .i64 (0)))⟩,
  ⟨some 93, none, .no, .mv (.t 92)⟩,
  ⟨some 94, some (93, false), .no, .mv (.t 17)⟩,
  ⟨some 95, some (93, false), .no, .mv (.t 0)⟩,
  ⟨some 96, some (93, false), .no, .bin .neq .none (.t 94) (.t 95)⟩,
  ⟨some 97, none, .no, .pick (.t 93) (.v (.bool true)) (.t 96)⟩]
@[go_sem] def speculumref10_Get_r14 : List AIns := [
  ⟨some 98, none, .no, .build [(.int .i64 (0)), (.int .u8 (0)), (.int .u8 (0)), (.int .u8 (0)), (.int .u8 (0)), (.int .u8 (0)), (.int .u8 (0)), (.int .u8 (0)), (.int .u8 (0)), (.int .u8 (0)), (.int .u8 (0)), (.int .u8 (0)), (.int .u8 (0)), (.int .u8 (0)), (.int .u8 (0)), (.int .u8 (0)), (.int .u8 (0)), (.int .u8 (0)), (.int .u8 (0)), (.int .u8 (0)), (.int .u8 (0)), (.int .u8 (0)), (.int .u8 (0)), (.int .u8 (0)), (.int .u8 (0)), (.int .u8 (0)), (.int .u8 (0)), (.int .u8 (0)), (.int .u8 (0)), (.int .u8 (0)), (.int .u8 (0)), (.int .u8 (0)), (.int .u8 (0)), (.int .i64 (0)), (.str []), .nilsl] []⟩,
  ⟨none, none, .no, .store 36 (.t 2) (.t 98)⟩,
  ⟨some 3, none, .no, .mv (.v (.int .i64 (10)))⟩]
def speculumref10_Get_c15 : ACode := .seq (.reg speculumref10_Get_r14) .ret
def speculumref10_Get_c16 : ACode := .cond (.t 97) speculumref10_Get_c15 .skip
def speculumref10_Get_c17 : ACode := .seq (.reg speculumref10_Get_r13) speculumref10_Get_c16
@[go_sem] def speculumref10_Get_r18 : List AIns := [
  ⟨some 99, none, .no, .load true 36 (.t 16)⟩,
  ⟨none, none, .no, .store 36 (.t 2) (.t 99)⟩,
  ⟨some 3, none, .no, .mv (.v (.int .i64 (0)))⟩]
def speculumref10_Get_c19 : ACode := .seq (.reg speculumref10_Get_r18) .ret
def speculumref10_Get_c20 : ACode := .seq speculumref10_Get_c17 speculumref10_Get_c19
def speculumref10_Get_c21 : ACode := .seq (.reg speculumref10_Get_r12) speculumref10_Get_c20
def speculumref10_Get_c22 : ACode := .seq (.reg speculumref10_Get_r11) speculumref10_Get_c21
def speculumref10_Get_c23 : ACode := .seq speculumref10_Get_c10 speculumref10_Get_c22
def speculumref10_Get_c24 : ACode := .seq (.reg speculumref10_Get_r5) speculumref10_Get_c23
def speculumref10_Get_c25 : ACode := .seq (.reg speculumref10_Get_r4) speculumref10_Get_c24
def speculumref10_Get_c26 : ACode := .seq (.reg speculumref10_Get_r3) speculumref10_Get_c25
def speculumref10_Get_c27 : ACode := .seq (.reg speculumref10_Get_r2) speculumref10_Get_c26
def speculumref10_Get_c28 : ACode := .seq (.reg speculumref10_Get_r1) speculumref10_Get_c27
def speculumref10_Get_c29 : ACode := .seq (.reg speculumref10_Get_r0) speculumref10_Get_c28
theorem speculumref10_Get_ok : cFn TC 35 = some (100, [.c 2 true 36, .t 3], speculumref10_Get_c29) := by kernel_rfl

@[go_sem] def speculumlaw10_Same_r0 : List AIns := [
  ⟨some 2, none, .no, .box (.t 0)⟩,
  ⟨some 3, none, .no, .box (.t 1)⟩,
  ⟨some 4, none, .no, .mv (.v (.bool false))⟩]
@[go_sem] def speculumlaw10_Same_r1 : List AIns := [
  ⟨some 5, none, .no, .fa 0 (.t 2)⟩,
  ⟨some 6, none, .no, .load true 33 (.t 5)⟩,
  ⟨some 7, none, .no, .fa 0 (.t 3)⟩,
  ⟨some 8, none, .no, .load true 33 (.t 7)⟩,
  ⟨some 9, none, .no, .bin .eql (.agg ([(.i .i64)] ++ (List.replicate 32 (.i .u8) ++ []))) (.t 6) (.t 8)⟩,
  ⟨some 10, none, .no, .mv (.t 9)⟩,
  ⟨some 11, some (10, true), .no, .fa 33 (.t 2)⟩,
  ⟨some 12, some (10, true), .no, .load true 3 (.t 11)⟩,
  ⟨some 13, some (10, true), .no, .fa 33 (.t 3)⟩,
  ⟨some 14, some (10, true), .no, .load true 3 (.t 13)⟩,
  ⟨some 15, some (10, true), .no, .call (.v (.fn 46 [])) [(.t 12), (.t 14)]⟩,
  ⟨some 16, none, .no, .pick (.t 10) (.t 15) (.v (.bool false))⟩,
  ⟨some 4, none, .no, .mv (.t 16)⟩]
def speculumlaw10_Same_c2 : ACode := .seq (.reg speculumlaw10_Same_r1) .ret
def speculumlaw10_Same_c3 : ACode := .seq (.reg speculumlaw10_Same_r0) speculumlaw10_Same_c2
theorem speculumlaw10_Same_ok : cFn TC 36 = some (17, [.t 4], speculumlaw10_Same_c3) := by kernel_rfl

@[go_sem] def heads_Put_r0 : List AIns := [
  ⟨some 1, none, .no, .box (.t 0)⟩,
  ⟨some 2, none, .no, .mv (.v (.str []))⟩,
  ⟨some 3, none, .no, .mv (.v (.int .i64 (0)))⟩]
@[go_sem] def heads_Put_r1 : List AIns := [
  ⟨some 4, none, .no, .load true 36 (.t 1)⟩,
  ⟨some 5, none, .no, .call (.v (.fn 38 [])) [(.t 4)]⟩,
  ⟨some 6, none, .no, .un .not (.t 5)⟩]
@[go_sem] def heads_Put_r2 : List AIns := [
  ⟨some 2, none, .no, .mv (.v (.str []))⟩,
  ⟨some 3, none, .no, .mv (.v (.int .i64 (2)))⟩]
def heads_Put_c3 : ACode := .seq (.reg heads_Put_r2) .ret
def heads_Put_c4 : ACode := .cond (.t 6) heads_Put_c3 .skip
def heads_Put_c5 : ACode := .seq (.reg heads_Put_r1) heads_Put_c4
@[go_sem] def heads_Put_r6 : List AIns := [
  ⟨some 7, none, .no, .fa 0 (.t 1)⟩,
  ⟨some 8, none, .no, .fa 0 (.t 7)⟩,
  ⟨some 9, none, .rd, .load false 1 (.t 8)⟩,
  ⟨some 10, none, .no, .conv (.int .u64) (.t 9)⟩,
  ⟨some 11, none, .ef, .call (.v (.fn 111 [])) [(.t 10)]⟩,
  ⟨some 12, none, .no, .fa 0 (.t 1)⟩,
  ⟨some 13, none, .no, .fa 1 (.t 12)⟩,
  ⟨some 14, none, .rd, .load true 32 (.t 13)⟩,
  ⟨some 15, none, .ef, .call (.v (.fn 112 [])) [(.t 14)]⟩,
  ⟨some 16, none, .no, .bin .add .none (.t 11) (.t 15)⟩,
  ⟨some 17, none, .no, .fa 33 (.t 1)⟩,
  ⟨some 18, none, .no, .fa 0 (.t 17)⟩,
  ⟨some 19, none, .rd, .load false 1 (.t 18)⟩,
  ⟨some 20, none, .no, .conv (.int .u64) (.t 19)⟩,
  ⟨some 21, none, .ef, .call (.v (.fn 111 [])) [(.t 20)]⟩,
  ⟨some 22, none, .no, .bin .add .none (.t 16) (.t 21)⟩,
  ⟨some 23, none, .no, .fa 33 (.t 1)⟩,
  ⟨some 24, none, .no, .fa 1 (.t 23)⟩,
  ⟨some 25, none, .rd, .load false 1 (.t 24)⟩,
  ⟨some 26, none, .ef, .call (.v (.fn 113 [])) [(.t 25)]⟩,
  ⟨some 27, none, .no, .bin .add .none (.t 22) (.t 26)⟩,
  ⟨some 28, none, .no, .fa 33 (.t 1)⟩,
  ⟨some 29, none, .no, .fa 2 (.t 28)⟩,
  ⟨some 30, none, .rd, .load false 1 (.t 29)⟩,
  ⟨some 31, none, .no, .call (.v (.fn 114 [])) [(.t 30)]⟩,
  ⟨some 32, none, .no, .bin .add .none (.t 27) (.t 31)⟩,
  ⟨some 2, none, .no, .mv (.t 32)⟩,
  ⟨some 3, none, .no, .mv (.v (.int .i64 (0)))⟩]
def heads_Put_c7 : ACode := .seq (.reg heads_Put_r6) .ret
def heads_Put_c8 : ACode := .seq heads_Put_c5 heads_Put_c7
def heads_Put_c9 : ACode := .seq (.reg heads_Put_r0) heads_Put_c8
theorem heads_Put_ok : cFn TC 37 = some (33, [.t 2, .t 3], heads_Put_c9) := by kernel_rfl

@[go_sem] def heads_Valid_r0 : List AIns := [
  ⟨some 1, none, .no, .box (.t 0)⟩,
  ⟨some 2, none, .no, .mv (.v (.bool false))⟩]
@[go_sem] def heads_Valid_r1 : List AIns := [
  ⟨some 4, none, .no, .fa 0 (.t 1)⟩,
  ⟨some 5, none, .no, .fa 0 (.t 4)⟩,
  ⟨some 6, none, .no, .load false 1 (.t 5)⟩,
  ⟨some 7, none, .no, .bin .geq .none (.t 6) (.v (.int .i64 (0)))⟩,
  ⟨some 8, none, .no, .mv (.t 7)⟩,
  ⟨some 9, some (8, true), .no, .fa 0 (.t 1)⟩,
  ⟨some 10, some (8, true), .no, .fa 0 (.t 9)⟩,
  ⟨some 11, some (8, true), .no, .load false 1 (.t 10)⟩,
  ⟨some 12, some (8, true), .no, .bin .leq .none (.t 11) (.v (.int .i64 (4096)))⟩,
  ⟨some 13, none, .no, .pick (.t 8) (.t 12) (.v (.bool false))⟩,
  ⟨some 3, none, .no, .mv (.t 13)⟩]
@[go_sem] def heads_Valid_r2 : List AIns := [
  ⟨some 14, none, .no, .mv (.t 3)⟩,
  ⟨some 15, none, .no, .mv (.t 14)⟩,
  ⟨some 16, some (15, true), .no, .fa 33 (.t 1)⟩,
  ⟨some 17, some (15, true), .no, .fa 0 (.t 16)⟩,
  ⟨some 18, some (15, true), .no, .load false 1 (.t 17)⟩,
  ⟨some 19, some (15, true), .no, .bin .geq .none (.t 18) (.v (.int .i64 (0)))⟩,
  ⟨some 20, none, .no, .pick (.t 15) (.t 19) (.v (.bool false))⟩,
  ⟨some 21, none, .no, .mv (.t 20)⟩,
  ⟨some 22, some (21, true), .no, .fa 33 (.t 1)⟩,
  ⟨some 23, some (21, true), .no, .fa 0 (.t 22)⟩,
  ⟨some 24, some (21, true), .no, .load false 1 (.t 23)⟩,
  ⟨some 25, some (21, true), .no, .bin .lss .none (.t 24) (.v (.int .i64 (8)))⟩,
  ⟨some 26, none, .no, .pick (.t 21) (.t 25) (.v (.bool false))⟩,
  ⟨some 27, none, .no, .mv (.t 26)⟩,
  ⟨some 28, some (27, true), .no, .fa 33 (.t 1)⟩,
  ⟨some 29, some (27, true), .no, .fa 1 (.t 28)⟩,
  ⟨some 30, some (27, true), .no, .load false 1 (.t 29)⟩,
  ⟨some 31, some (27, true), .no, .lenStr (.t 30)⟩,
  ⟨some 32, some (27, true), .no, .bin .eql .none (.t 31) (.v (.int .i64 (16384)))⟩,
  ⟨some 33, none, .no, .pick (.t 27) (.t 32) (.v (.bool false))⟩,
  ⟨some 34, none, .no, .mv (.t 33)⟩,
  ⟨some 35, some (34, true), .no, .fa 33 (.t 1)⟩,
  ⟨some 36, some (34, true), .no, .fa 2 (.t 35)⟩,
  ⟨some 37, some (34, true), .no, .load false 1 (.t 36)⟩,
  ⟨some 38, some (34, true), .no, .lenSl (.t 37)⟩,
  ⟨some 39, some (34, true), .no, .bin .eql .none (.t 38) (.v (.int .i64 (3)))⟩,
  ⟨some 40, none, .no, .pick (.t 34) (.t 39) (.v (.bool false))⟩,
  ⟨some 2, none, .no, .mv (.t 40)⟩]
def heads_Valid_c3 : ACode := .seq (.reg heads_Valid_r2) .ret
def heads_Valid_c4 : ACode := .seq (.reg heads_Valid_r1) heads_Valid_c3
def heads_Valid_c5 : ACode := .seq (.reg heads_Valid_r0) heads_Valid_c4
theorem heads_Valid_ok : cFn TC 38 = some (41, [.t 2], heads_Valid_c5) := by kernel_rfl

@[go_sem] def heads_Order_r0 : List AIns := [
  ⟨some 2, none, .no, .box (.t 0)⟩,
  ⟨some 3, none, .no, .box (.t 1)⟩,
  ⟨some 4, none, .no, .mv (.v (.int .i64 (0)))⟩]
@[go_sem] def heads_Order_r1 : List AIns := [
  ⟨some 6, none, .no, .fa 0 (.t 2)⟩,
  ⟨some 7, none, .no, .load false 1 (.t 6)⟩,
  ⟨some 8, none, .no, .fa 0 (.t 3)⟩,
  ⟨some 9, none, .no, .load false 1 (.t 8)⟩,
  ⟨some 10, none, .no, .bin .lss .none (.t 7) (.t 9)⟩,
  ⟨some 5, none, .no, .mv (.t 10)⟩]
@[go_sem] def heads_Order_r2 : List AIns := [
  ⟨some 4, none, .no, .mv (.v (.int .i64 (0)))⟩]
def heads_Order_c3 : ACode := .seq (.reg heads_Order_r2) .ret
@[go_sem] def heads_Order_r4 : List AIns := [
  ⟨some 12, none, .no, .fa 0 (.t 2)⟩,
  ⟨some 13, none, .no, .load false 1 (.t 12)⟩,
  ⟨some 14, none, .no, .fa 0 (.t 3)⟩,
  ⟨some 15, none, .no, .load false 1 (.t 14)⟩,
  ⟨some 16, none, .no, .bin .gtr .none (.t 13) (.t 15)⟩,
  ⟨some 11, none, .no, .mv (.t 16)⟩]
@[go_sem] def heads_Order_r5 : List AIns := [
  ⟨some 4, none, .no, .mv (.v (.int .i64 (2)))⟩]
def heads_Order_c6 : ACode := .seq (.reg heads_Order_r5) .ret
@[go_sem] def heads_Order_r7 : List AIns := [
  ⟨some 18, none, .no, .fa 1 (.t 2)⟩,
  ⟨some 19, none, .no, .load true 32 (.t 18)⟩,
  ⟨some 20, none, .no, .fa 1 (.t 3)⟩,
  ⟨some 21, none, .no, .load true 32 (.t 20)⟩,
  ⟨some 22, none, .no, .bin .eql (.agg (List.replicate 32 (.i .u8) ++ [])) (.t 19) (.t 21)⟩,
  ⟨some 17, none, .no, .mv (.t 22)⟩]
@[go_sem] def heads_Order_r8 : List AIns := [
  ⟨some 4, none, .no, .mv (.v (.int .i64 (1)))⟩]
def heads_Order_c9 : ACode := .seq (.reg heads_Order_r8) .ret
def heads_Order_c10 : ACode := .cond (.t 17) heads_Order_c9 .skip
def heads_Order_c11 : ACode := .seq (.reg heads_Order_r7) heads_Order_c10
def heads_Order_c12 : ACode := .cond (.t 11) heads_Order_c6 heads_Order_c11
def heads_Order_c13 : ACode := .seq (.reg heads_Order_r4) heads_Order_c12
def heads_Order_c14 : ACode := .cond (.t 5) heads_Order_c3 heads_Order_c13
def heads_Order_c15 : ACode := .seq (.reg heads_Order_r1) heads_Order_c14
@[go_sem] def heads_Order_r16 : List AIns := [
  ⟨some 4, none, .no, .mv (.v (.int .i64 (3)))⟩]
def heads_Order_c17 : ACode := .seq (.reg heads_Order_r16) .ret
def heads_Order_c18 : ACode := .seq (.block 0 heads_Order_c15) heads_Order_c17
def heads_Order_c19 : ACode := .seq (.reg heads_Order_r0) heads_Order_c18
theorem heads_Order_ok : cFn TC 54 = some (23, [.t 4], heads_Order_c19) := by kernel_rfl

@[go_sem] def heads_Check_r0 : List AIns := [
  ⟨some 2, none, .no, .box (.t 0)⟩,
  ⟨some 3, none, .no, .box (.t 1)⟩,
  ⟨some 4, none, .no, .mv (.v (.int .i64 (0)))⟩]
@[go_sem] def heads_Check_r1 : List AIns := [
  ⟨some 6, none, .no, .load true 36 (.t 3)⟩,
  ⟨some 7, none, .no, .call (.v (.fn 38 [])) [(.t 6)]⟩,
  ⟨some 8, none, .no, .un .not (.t 7)⟩,
  ⟨some 5, none, .no, .mv (.t 8)⟩]
@[go_sem] def heads_Check_r2 : List AIns := [
  ⟨some 4, none, .no, .mv (.v (.int .i64 (2)))⟩]
def heads_Check_c3 : ACode := .seq (.reg heads_Check_r2) .ret
@[go_sem] def heads_Check_r4 : List AIns := [
  ⟨some 10, none, .rd, .load true 32 (.t 2)⟩,
  ⟨some 11, none, .no, .fa 0 (.t 3)⟩,
  ⟨some 12, none, .rd, .load true 33 (.t 11)⟩,
  ⟨some 13, none, .ef, .call (.v (.fn 49 [])) [(.t 12)]⟩,
  ⟨some 14, none, .no, .fa 33 (.t 3)⟩,
  ⟨some 15, none, .rd, .load true 3 (.t 14)⟩,
  ⟨some 16, none, .no, .call (.v (.fn 47 [])) [(.t 10), (.t 13), (.t 15)]⟩,
  ⟨some 17, none, .no, .bin .neq .none (.t 16) (.v (.int .i64 (0)))⟩,
  ⟨some 9, none, .no, .mv (.t 17)⟩]
@[go_sem] def heads_Check_r5 : List AIns := [
  ⟨some 4, none, .no, .mv (.v (.int .i64 (81)))⟩]
def heads_Check_c6 : ACode := .seq (.reg heads_Check_r5) .ret
def heads_Check_c7 : ACode := .cond (.t 9) heads_Check_c6 .skip
def heads_Check_c8 : ACode := .seq (.reg heads_Check_r4) heads_Check_c7
def heads_Check_c9 : ACode := .cond (.t 5) heads_Check_c3 heads_Check_c8
def heads_Check_c10 : ACode := .seq (.reg heads_Check_r1) heads_Check_c9
@[go_sem] def heads_Check_r11 : List AIns := [
  ⟨some 4, none, .no, .mv (.v (.int .i64 (0)))⟩]
def heads_Check_c12 : ACode := .seq (.reg heads_Check_r11) .ret
def heads_Check_c13 : ACode := .seq (.block 0 heads_Check_c10) heads_Check_c12
def heads_Check_c14 : ACode := .seq (.reg heads_Check_r0) heads_Check_c13
theorem heads_Check_ok : cFn TC 52 = some (18, [.t 4], heads_Check_c14) := by kernel_rfl

@[go_sem] def speculumref10_Valid_r0 : List AIns := [
  ⟨some 1, none, .no, .box (.t 0)⟩,
  ⟨some 2, none, .no, .mv (.v (.bool false))⟩]
@[go_sem] def speculumref10_Valid_r1 : List AIns := [
  ⟨some 3, none, .no, .fa 0 (.t 1)⟩,
  ⟨some 4, none, .no, .fa 0 (.t 3)⟩,
  ⟨some 5, none, .no, .load false 1 (.t 4)⟩,
  ⟨some 6, none, .no, .bin .geq .none (.t 5) (.v (.int .i64 (0)))⟩,
  ⟨some 7, none, .no, .mv (.t 6)⟩,
  ⟨some 8, some (7, true), .no, .fa 0 (.t 1)⟩,
  ⟨some 9, some (7, true), .no, .fa 0 (.t 8)⟩,
  ⟨some 10, some (7, true), .no, .load false 1 (.t 9)⟩,
  ⟨some 11, some (7, true), .no, .bin .leq .none (.t 10) (.v (.int .i64 (4096)))⟩,
  ⟨some 12, none, .no, .pick (.t 7) (.t 11) (.v (.bool false))⟩,
  ⟨some 13, none, .no, .mv (.t 12)⟩,
  ⟨some 14, some (13, true), .no, .fa 33 (.t 1)⟩,
  ⟨some 15, some (13, true), .no, .fa 0 (.t 14)⟩,
  ⟨some 16, some (13, true), .no, .load false 1 (.t 15)⟩,
  ⟨some 17, some (13, true), .no, .bin .geq .none (.t 16) (.v (.int .i64 (0)))⟩,
  ⟨some 18, none, .no, .pick (.t 13) (.t 17) (.v (.bool false))⟩,
  ⟨some 19, none, .no, .mv (.t 18)⟩,
  ⟨some 20, some (19, true), .no, .fa 33 (.t 1)⟩,
  ⟨some 21, some (19, true), .no, .fa 0 (.t 20)⟩,
  ⟨some 22, some (19, true), .no, .load false 1 (.t 21)⟩,
  ⟨some 23, some (19, true), .no, .bin .leq .none (.t 22) (.v (.int .i64 (7)))⟩,
  ⟨some 24, none, .no, .pick (.t 19) (.t 23) (.v (.bool false))⟩,
  ⟨some 25, none, .no, .mv (.t 24)⟩,
  ⟨some 26, some (25, true), .no, .fa 33 (.t 1)⟩,
  ⟨some 27, some (25, true), .no, .fa 1 (.t 26)⟩,
  ⟨some 28, some (25, true), .no, .load false 1 (.t 27)⟩,
  ⟨some 29, some (25, true), .no, .lenStr (.t 28)⟩,
  ⟨some 30, some (25, true), .no, .bin .eql .none (.t 29) (.v (.int .i64 (16384)))⟩,
  ⟨some 31, none, .no, .pick (.t 25) (.t 30) (.v (.bool false))⟩,
  ⟨some 32, none, .no, .mv (.t 31)⟩,
  ⟨some 33, some (32, true), .no, .fa 33 (.t 1)⟩,
  ⟨some 34, some (32, true), .no, .fa 2 (.t 33)⟩,
  ⟨some 35, some (32, true), .no, .load false 1 (.t 34)⟩,
  ⟨some 36, some (32, true), .no, .lenSl (.t 35)⟩,
  ⟨some 37, some (32, true), .no, .bin .eql .none (.t 36) (.v (.int .i64 (3)))⟩,
  ⟨some 38, none, .no, .pick (.t 32) (.t 37) (.v (.bool false))⟩,
  ⟨some 2, none, .no, .mv (.t 38)⟩]
def speculumref10_Valid_c2 : ACode := .seq (.reg speculumref10_Valid_r1) .ret
def speculumref10_Valid_c3 : ACode := .seq (.reg speculumref10_Valid_r0) speculumref10_Valid_c2
theorem speculumref10_Valid_ok : cFn TC 51 = some (39, [.t 2], speculumref10_Valid_c3) := by kernel_rfl

@[go_sem] def heads_small_r0 : List AIns := [
  ⟨some 2, none, .no, .mv (.v (.int .i64 (0)))⟩]
@[go_sem] def heads_small_r1 : List AIns := [
  ⟨some 3, none, .no, .mv (.t 0)⟩,
  ⟨some 4, none, .no, .minmax false (.t 3) (.v (.int .u64 (1073741824)))⟩,
  ⟨some 5, none, .no, .conv (.int .i64) (.t 4)⟩,
  ⟨some 2, none, .no, .mv (.t 5)⟩]
def heads_small_c2 : ACode := .seq (.reg heads_small_r1) .ret
def heads_small_c3 : ACode := .seq (.reg heads_small_r0) heads_small_c2
theorem heads_small_ok : cFn TC 106 = some (6, [.t 2], heads_small_c3) := by kernel_rfl

end Am
end Go.Proofs.YthgcooppjhcgcaaDoor
end
section
set_option linter.unusedSimpArgs false
set_option linter.unusedVariables false
/- Heads: contracts: what may be, numbers that are small, how heads stand. -/
namespace Go.Proofs.YthgcooppjhcgcaaDoor
namespace Am
attribute [local irreducible] ACallsTo ACallsP
/-- A signed head's cells. -/
def sgC (n : Int) (r : Hash) (i : Int) (s : List UInt8) (x : AV) : List AV := .int .i64 n :: (hc r ++ [.int .i64 i, .str s, x])
@[go_sem] theorem sgC_len (n : Int) (r : Hash) (i : Int) (s : List UInt8) (x : AV) : (sgC n r i s x).length = 36 := by simp [sgC, hc_len]
@[go_sem] theorem sgC_0 (n : Int) (r : Hash) (i : Int) (s : List UInt8) (x : AV) : (sgC n r i s x)[0]? = some (.int .i64 n) := rfl
theorem sgC_at (n : Int) (r : Hash) (i : Int) (s : List UInt8) (x : AV) (k : Nat) : (sgC n r i s x)[33 + k]? = [AV.int .i64 i, .str s, x][k]? := by
  rw [sgC, show 33 + k = (32 + k) + 1 by omega, List.getElem?_cons_succ, List.getElem?_append_right (by rw [hc_len]; omega), hc_len, Nat.add_sub_cancel_left]
@[go_sem] theorem sgC_33 (n : Int) (r : Hash) (i : Int) (s : List UInt8) (x : AV) : (sgC n r i s x)[33]? = some (.int .i64 i) := sgC_at n r i s x 0
@[go_sem] theorem sgC_34 (n : Int) (r : Hash) (i : Int) (s : List UInt8) (x : AV) : (sgC n r i s x)[34]? = some (.str s) := sgC_at n r i s x 1
@[go_sem] theorem sgC_35 (n : Int) (r : Hash) (i : Int) (s : List UInt8) (x : AV) : (sgC n r i s x)[35]? = some x := sgC_at n r i s x 2
@[go_sem] theorem sgC_all (n : Int) (r : Hash) (i : Int) (s : List UInt8) (x : AV) : (sgC n r i s x).take 36 = sgC n r i s x := List.take_of_length_le (by rw [sgC_len]; decide)
@[go_sem] theorem sgC_root (n : Int) (r : Hash) (i : Int) (s : List UInt8) (x : AV) : ((sgC n r i s x).drop 1).take 32 = hc r := by
  rw [sgC, List.drop_succ_cons, List.drop_zero, hc_take_app]
@[go_sem] theorem sgC_head (n : Int) (r : Hash) (i : Int) (s : List UInt8) (x : AV) : (sgC n r i s x).take 33 = .int .i64 n :: hc r := by
  rw [sgC, List.take_succ_cons, hc_take_app]
@[go_sem] theorem sgC_seal (n : Int) (r : Hash) (i : Int) (s : List UInt8) (x : AV) : ((sgC n r i s x).drop 33).take 3 = [.int .i64 i, .str s, x] := by
  rw [sgC, List.drop_succ_cons, hc_drop_app]; rfl
def validB (n i : Int) (s : List UInt8) (l : List Hash) : Bool := decide (0 ≤ n ∧ n ≤ 4096 ∧ 0 ≤ i ∧ i ≤ 7 ∧ s.length = 16384 ∧ l.length = 3)
theorem small_to (σ : Store) (n : Nat) (h : n < 18446744073709551616) : ACallsTo TC 106 [.int .u64 n] σ (.int .i64 ((min n 1073741824 : Nat) : Int)) σ := by
  refine ACallsTo.of_body heads_small_ok (by simp) fun hw _ => ?_
  by_cases h1 : n ≤ 1073741824
  · rw [Nat.min_eq_left h1]
    have e : min (n : Int) 1073741824 = n := by omega
    repeat' (first | refine SWp.seq ?_ | refine SWp.block ?_ | refine SWp.scope ?_ | refine SWp.condT rfl ?_ | refine SWp.condF rfl ?_ | (refine SWp.condD rfl (fun ht => ?_) (fun ht => ?_) <;> try (exfalso; omega)) | ((first | refine SWp.reg ?_ | refine SWp.skip ?_ | refine SWp.exit ?_ | refine SWp.ret ?_ | ((first | apply splitG | apply splitGB | apply splitR | apply splitRB | apply splitE | apply splitEB | apply splitC | apply splitCB) <;> intro ht)); all_goals try simp (disch := first | omega | (simp only [lens, hc_len, hr_len, List.length_reverse, byteEs_len, byteEsC_len, List.length_drop, sgC_len]; first | done | omega)) only [go_sem, Nat.reduceEqDiff, Nat.reduceBEq, Nat.reduceAdd, Nat.reduceMul, Nat.reduceSub, Nat.reduceLeDiff, Int.reduceToNat, Int.reducePow, e]))
    exact DownV.same hw rl_int
  · rw [Nat.min_eq_right (by omega)]
    have e : min (n : Int) 1073741824 = 1073741824 := by omega
    repeat' (first | refine SWp.seq ?_ | refine SWp.block ?_ | refine SWp.scope ?_ | refine SWp.condT rfl ?_ | refine SWp.condF rfl ?_ | (refine SWp.condD rfl (fun ht => ?_) (fun ht => ?_) <;> try (exfalso; omega)) | ((first | refine SWp.reg ?_ | refine SWp.skip ?_ | refine SWp.exit ?_ | refine SWp.ret ?_ | ((first | apply splitG | apply splitGB | apply splitR | apply splitRB | apply splitE | apply splitEB | apply splitC | apply splitCB) <;> intro ht)); all_goals try simp (disch := first | omega | (simp only [lens, hc_len, hr_len, List.length_reverse, byteEs_len, byteEsC_len, List.length_drop, sgC_len]; first | done | omega)) only [go_sem, Nat.reduceEqDiff, Nat.reduceBEq, Nat.reduceAdd, Nat.reduceMul, Nat.reduceSub, Nat.reduceLeDiff, Int.reduceToNat, Int.reducePow, e]))
    exact DownV.same hw rl_int
set_option maxHeartbeats 8000000 in
theorem Valid_to (σ : Store) (n i : Int) (r : Hash) (s : List UInt8) (l : List Hash) (x : AV) (hx : RdSl σ 32 (hr l) x) : ACallsTo TC 38 [.agg (sgC n r i s x)] σ (.bool (validB n i s l)) σ := by
  refine ACallsTo.of_body heads_Valid_ok (by simp) fun hw _ => ?_
  have r1 := hx.len
  rw [hr_len] at r1
  unfold rLenSl at r1
  unfold validB
  by_cases a1 : n ≥ 0
  · by_cases a2 : n ≤ 4096
    · by_cases a3 : i ≥ 0
      · by_cases a4 : i < 8
        · by_cases a5 : (s.length : Int) = 16384
          · by_cases a6 : (l.length : Int) = 3
            · rw [decide_eq_true (by omega)]
              repeat' (first | refine SWp.seq ?_ | refine SWp.block ?_ | refine SWp.scope ?_ | refine SWp.condT rfl ?_ | refine SWp.condF rfl ?_ | (refine SWp.condD rfl (fun ht => ?_) (fun ht => ?_) <;> try (exfalso; omega)) | ((first | refine SWp.reg ?_ | refine SWp.skip ?_ | refine SWp.exit ?_ | refine SWp.ret ?_ | ((first | apply splitG | apply splitGB | apply splitR | apply splitRB | apply splitE | apply splitEB | apply splitC | apply splitCB) <;> intro ht)); all_goals try simp (disch := first | omega | (simp only [lens, hc_len, hr_len, List.length_reverse, byteEs_len, byteEsC_len, List.length_drop, sgC_len]; first | done | omega)) only [go_sem, Nat.reduceEqDiff, Nat.reduceBEq, Nat.reduceAdd, Nat.reduceMul, Nat.reduceSub, Nat.reduceLeDiff, Int.reduceToNat, Int.reducePow, a1, a2, a3, a4, a5, a6, r1]))
              exact DownV.pure hw rl_bool
            · rw [decide_eq_false (by omega)]
              repeat' (first | refine SWp.seq ?_ | refine SWp.block ?_ | refine SWp.scope ?_ | refine SWp.condT rfl ?_ | refine SWp.condF rfl ?_ | (refine SWp.condD rfl (fun ht => ?_) (fun ht => ?_) <;> try (exfalso; omega)) | ((first | refine SWp.reg ?_ | refine SWp.skip ?_ | refine SWp.exit ?_ | refine SWp.ret ?_ | ((first | apply splitG | apply splitGB | apply splitR | apply splitRB | apply splitE | apply splitEB | apply splitC | apply splitCB) <;> intro ht)); all_goals try simp (disch := first | omega | (simp only [lens, hc_len, hr_len, List.length_reverse, byteEs_len, byteEsC_len, List.length_drop, sgC_len]; first | done | omega)) only [go_sem, Nat.reduceEqDiff, Nat.reduceBEq, Nat.reduceAdd, Nat.reduceMul, Nat.reduceSub, Nat.reduceLeDiff, Int.reduceToNat, Int.reducePow, a1, a2, a3, a4, a5, a6, r1]))
              exact DownV.pure hw rl_bool
          · rw [decide_eq_false (by omega)]
            repeat' (first | refine SWp.seq ?_ | refine SWp.block ?_ | refine SWp.scope ?_ | refine SWp.condT rfl ?_ | refine SWp.condF rfl ?_ | (refine SWp.condD rfl (fun ht => ?_) (fun ht => ?_) <;> try (exfalso; omega)) | ((first | refine SWp.reg ?_ | refine SWp.skip ?_ | refine SWp.exit ?_ | refine SWp.ret ?_ | ((first | apply splitG | apply splitGB | apply splitR | apply splitRB | apply splitE | apply splitEB | apply splitC | apply splitCB) <;> intro ht)); all_goals try simp (disch := first | omega | (simp only [lens, hc_len, hr_len, List.length_reverse, byteEs_len, byteEsC_len, List.length_drop, sgC_len]; first | done | omega)) only [go_sem, Nat.reduceEqDiff, Nat.reduceBEq, Nat.reduceAdd, Nat.reduceMul, Nat.reduceSub, Nat.reduceLeDiff, Int.reduceToNat, Int.reducePow, a1, a2, a3, a4, a5, r1]))
            exact DownV.pure hw rl_bool
        · rw [decide_eq_false (by omega)]
          repeat' (first | refine SWp.seq ?_ | refine SWp.block ?_ | refine SWp.scope ?_ | refine SWp.condT rfl ?_ | refine SWp.condF rfl ?_ | (refine SWp.condD rfl (fun ht => ?_) (fun ht => ?_) <;> try (exfalso; omega)) | ((first | refine SWp.reg ?_ | refine SWp.skip ?_ | refine SWp.exit ?_ | refine SWp.ret ?_ | ((first | apply splitG | apply splitGB | apply splitR | apply splitRB | apply splitE | apply splitEB | apply splitC | apply splitCB) <;> intro ht)); all_goals try simp (disch := first | omega | (simp only [lens, hc_len, hr_len, List.length_reverse, byteEs_len, byteEsC_len, List.length_drop, sgC_len]; first | done | omega)) only [go_sem, Nat.reduceEqDiff, Nat.reduceBEq, Nat.reduceAdd, Nat.reduceMul, Nat.reduceSub, Nat.reduceLeDiff, Int.reduceToNat, Int.reducePow, a1, a2, a3, a4, r1]))
          exact DownV.pure hw rl_bool
      · rw [decide_eq_false (by omega)]
        repeat' (first | refine SWp.seq ?_ | refine SWp.block ?_ | refine SWp.scope ?_ | refine SWp.condT rfl ?_ | refine SWp.condF rfl ?_ | (refine SWp.condD rfl (fun ht => ?_) (fun ht => ?_) <;> try (exfalso; omega)) | ((first | refine SWp.reg ?_ | refine SWp.skip ?_ | refine SWp.exit ?_ | refine SWp.ret ?_ | ((first | apply splitG | apply splitGB | apply splitR | apply splitRB | apply splitE | apply splitEB | apply splitC | apply splitCB) <;> intro ht)); all_goals try simp (disch := first | omega | (simp only [lens, hc_len, hr_len, List.length_reverse, byteEs_len, byteEsC_len, List.length_drop, sgC_len]; first | done | omega)) only [go_sem, Nat.reduceEqDiff, Nat.reduceBEq, Nat.reduceAdd, Nat.reduceMul, Nat.reduceSub, Nat.reduceLeDiff, Int.reduceToNat, Int.reducePow, a1, a2, a3, r1]))
        exact DownV.pure hw rl_bool
    · rw [decide_eq_false (by omega)]
      repeat' (first | refine SWp.seq ?_ | refine SWp.block ?_ | refine SWp.scope ?_ | refine SWp.condT rfl ?_ | refine SWp.condF rfl ?_ | (refine SWp.condD rfl (fun ht => ?_) (fun ht => ?_) <;> try (exfalso; omega)) | ((first | refine SWp.reg ?_ | refine SWp.skip ?_ | refine SWp.exit ?_ | refine SWp.ret ?_ | ((first | apply splitG | apply splitGB | apply splitR | apply splitRB | apply splitE | apply splitEB | apply splitC | apply splitCB) <;> intro ht)); all_goals try simp (disch := first | omega | (simp only [lens, hc_len, hr_len, List.length_reverse, byteEs_len, byteEsC_len, List.length_drop, sgC_len]; first | done | omega)) only [go_sem, Nat.reduceEqDiff, Nat.reduceBEq, Nat.reduceAdd, Nat.reduceMul, Nat.reduceSub, Nat.reduceLeDiff, Int.reduceToNat, Int.reducePow, a1, a2, r1]))
      exact DownV.pure hw rl_bool
  · rw [decide_eq_false (by omega)]
    repeat' (first | refine SWp.seq ?_ | refine SWp.block ?_ | refine SWp.scope ?_ | refine SWp.condT rfl ?_ | refine SWp.condF rfl ?_ | (refine SWp.condD rfl (fun ht => ?_) (fun ht => ?_) <;> try (exfalso; omega)) | ((first | refine SWp.reg ?_ | refine SWp.skip ?_ | refine SWp.exit ?_ | refine SWp.ret ?_ | ((first | apply splitG | apply splitGB | apply splitR | apply splitRB | apply splitE | apply splitEB | apply splitC | apply splitCB) <;> intro ht)); all_goals try simp (disch := first | omega | (simp only [lens, hc_len, hr_len, List.length_reverse, byteEs_len, byteEsC_len, List.length_drop, sgC_len]; first | done | omega)) only [go_sem, Nat.reduceEqDiff, Nat.reduceBEq, Nat.reduceAdd, Nat.reduceMul, Nat.reduceSub, Nat.reduceLeDiff, Int.reduceToNat, Int.reducePow, a1, r1]))
    exact DownV.pure hw rl_bool
set_option maxHeartbeats 8000000 in
theorem refValid_to (σ : Store) (n i : Int) (r : Hash) (s : List UInt8) (l : List Hash) (x : AV) (hx : RdSl σ 32 (hr l) x) : ACallsTo TC 51 [.agg (sgC n r i s x)] σ (.bool (validB n i s l)) σ := by
  refine ACallsTo.of_body speculumref10_Valid_ok (by simp) fun hw _ => ?_
  have r1 := hx.len
  rw [hr_len] at r1
  unfold rLenSl at r1
  unfold validB
  by_cases a1 : n ≥ 0
  · by_cases a2 : n ≤ 4096
    · by_cases a3 : i ≥ 0
      · by_cases a4 : i ≤ 7
        · by_cases a5 : (s.length : Int) = 16384
          · by_cases a6 : (l.length : Int) = 3
            · rw [decide_eq_true (by omega)]
              repeat' (first | refine SWp.seq ?_ | refine SWp.block ?_ | refine SWp.scope ?_ | refine SWp.condT rfl ?_ | refine SWp.condF rfl ?_ | (refine SWp.condD rfl (fun ht => ?_) (fun ht => ?_) <;> try (exfalso; omega)) | ((first | refine SWp.reg ?_ | refine SWp.skip ?_ | refine SWp.exit ?_ | refine SWp.ret ?_ | ((first | apply splitG | apply splitGB | apply splitR | apply splitRB | apply splitE | apply splitEB | apply splitC | apply splitCB) <;> intro ht)); all_goals try simp (disch := first | omega | (simp only [lens, hc_len, hr_len, List.length_reverse, byteEs_len, byteEsC_len, List.length_drop, sgC_len]; first | done | omega)) only [go_sem, Nat.reduceEqDiff, Nat.reduceBEq, Nat.reduceAdd, Nat.reduceMul, Nat.reduceSub, Nat.reduceLeDiff, Int.reduceToNat, Int.reducePow, a1, a2, a3, a4, a5, a6, r1]))
              exact DownV.pure hw rl_bool
            · rw [decide_eq_false (by omega)]
              repeat' (first | refine SWp.seq ?_ | refine SWp.block ?_ | refine SWp.scope ?_ | refine SWp.condT rfl ?_ | refine SWp.condF rfl ?_ | (refine SWp.condD rfl (fun ht => ?_) (fun ht => ?_) <;> try (exfalso; omega)) | ((first | refine SWp.reg ?_ | refine SWp.skip ?_ | refine SWp.exit ?_ | refine SWp.ret ?_ | ((first | apply splitG | apply splitGB | apply splitR | apply splitRB | apply splitE | apply splitEB | apply splitC | apply splitCB) <;> intro ht)); all_goals try simp (disch := first | omega | (simp only [lens, hc_len, hr_len, List.length_reverse, byteEs_len, byteEsC_len, List.length_drop, sgC_len]; first | done | omega)) only [go_sem, Nat.reduceEqDiff, Nat.reduceBEq, Nat.reduceAdd, Nat.reduceMul, Nat.reduceSub, Nat.reduceLeDiff, Int.reduceToNat, Int.reducePow, a1, a2, a3, a4, a5, a6, r1]))
              exact DownV.pure hw rl_bool
          · rw [decide_eq_false (by omega)]
            repeat' (first | refine SWp.seq ?_ | refine SWp.block ?_ | refine SWp.scope ?_ | refine SWp.condT rfl ?_ | refine SWp.condF rfl ?_ | (refine SWp.condD rfl (fun ht => ?_) (fun ht => ?_) <;> try (exfalso; omega)) | ((first | refine SWp.reg ?_ | refine SWp.skip ?_ | refine SWp.exit ?_ | refine SWp.ret ?_ | ((first | apply splitG | apply splitGB | apply splitR | apply splitRB | apply splitE | apply splitEB | apply splitC | apply splitCB) <;> intro ht)); all_goals try simp (disch := first | omega | (simp only [lens, hc_len, hr_len, List.length_reverse, byteEs_len, byteEsC_len, List.length_drop, sgC_len]; first | done | omega)) only [go_sem, Nat.reduceEqDiff, Nat.reduceBEq, Nat.reduceAdd, Nat.reduceMul, Nat.reduceSub, Nat.reduceLeDiff, Int.reduceToNat, Int.reducePow, a1, a2, a3, a4, a5, r1]))
            exact DownV.pure hw rl_bool
        · rw [decide_eq_false (by omega)]
          repeat' (first | refine SWp.seq ?_ | refine SWp.block ?_ | refine SWp.scope ?_ | refine SWp.condT rfl ?_ | refine SWp.condF rfl ?_ | (refine SWp.condD rfl (fun ht => ?_) (fun ht => ?_) <;> try (exfalso; omega)) | ((first | refine SWp.reg ?_ | refine SWp.skip ?_ | refine SWp.exit ?_ | refine SWp.ret ?_ | ((first | apply splitG | apply splitGB | apply splitR | apply splitRB | apply splitE | apply splitEB | apply splitC | apply splitCB) <;> intro ht)); all_goals try simp (disch := first | omega | (simp only [lens, hc_len, hr_len, List.length_reverse, byteEs_len, byteEsC_len, List.length_drop, sgC_len]; first | done | omega)) only [go_sem, Nat.reduceEqDiff, Nat.reduceBEq, Nat.reduceAdd, Nat.reduceMul, Nat.reduceSub, Nat.reduceLeDiff, Int.reduceToNat, Int.reducePow, a1, a2, a3, a4, r1]))
          exact DownV.pure hw rl_bool
      · rw [decide_eq_false (by omega)]
        repeat' (first | refine SWp.seq ?_ | refine SWp.block ?_ | refine SWp.scope ?_ | refine SWp.condT rfl ?_ | refine SWp.condF rfl ?_ | (refine SWp.condD rfl (fun ht => ?_) (fun ht => ?_) <;> try (exfalso; omega)) | ((first | refine SWp.reg ?_ | refine SWp.skip ?_ | refine SWp.exit ?_ | refine SWp.ret ?_ | ((first | apply splitG | apply splitGB | apply splitR | apply splitRB | apply splitE | apply splitEB | apply splitC | apply splitCB) <;> intro ht)); all_goals try simp (disch := first | omega | (simp only [lens, hc_len, hr_len, List.length_reverse, byteEs_len, byteEsC_len, List.length_drop, sgC_len]; first | done | omega)) only [go_sem, Nat.reduceEqDiff, Nat.reduceBEq, Nat.reduceAdd, Nat.reduceMul, Nat.reduceSub, Nat.reduceLeDiff, Int.reduceToNat, Int.reducePow, a1, a2, a3, r1]))
        exact DownV.pure hw rl_bool
    · rw [decide_eq_false (by omega)]
      repeat' (first | refine SWp.seq ?_ | refine SWp.block ?_ | refine SWp.scope ?_ | refine SWp.condT rfl ?_ | refine SWp.condF rfl ?_ | (refine SWp.condD rfl (fun ht => ?_) (fun ht => ?_) <;> try (exfalso; omega)) | ((first | refine SWp.reg ?_ | refine SWp.skip ?_ | refine SWp.exit ?_ | refine SWp.ret ?_ | ((first | apply splitG | apply splitGB | apply splitR | apply splitRB | apply splitE | apply splitEB | apply splitC | apply splitCB) <;> intro ht)); all_goals try simp (disch := first | omega | (simp only [lens, hc_len, hr_len, List.length_reverse, byteEs_len, byteEsC_len, List.length_drop, sgC_len]; first | done | omega)) only [go_sem, Nat.reduceEqDiff, Nat.reduceBEq, Nat.reduceAdd, Nat.reduceMul, Nat.reduceSub, Nat.reduceLeDiff, Int.reduceToNat, Int.reducePow, a1, a2, r1]))
      exact DownV.pure hw rl_bool
  · rw [decide_eq_false (by omega)]
    repeat' (first | refine SWp.seq ?_ | refine SWp.block ?_ | refine SWp.scope ?_ | refine SWp.condT rfl ?_ | refine SWp.condF rfl ?_ | (refine SWp.condD rfl (fun ht => ?_) (fun ht => ?_) <;> try (exfalso; omega)) | ((first | refine SWp.reg ?_ | refine SWp.skip ?_ | refine SWp.exit ?_ | refine SWp.ret ?_ | ((first | apply splitG | apply splitGB | apply splitR | apply splitRB | apply splitE | apply splitEB | apply splitC | apply splitCB) <;> intro ht)); all_goals try simp (disch := first | omega | (simp only [lens, hc_len, hr_len, List.length_reverse, byteEs_len, byteEsC_len, List.length_drop, sgC_len]; first | done | omega)) only [go_sem, Nat.reduceEqDiff, Nat.reduceBEq, Nat.reduceAdd, Nat.reduceMul, Nat.reduceSub, Nat.reduceLeDiff, Int.reduceToNat, Int.reducePow, a1, r1]))
    exact DownV.pure hw rl_bool
end Am
end Go.Proofs.YthgcooppjhcgcaaDoor
end
section
set_option linter.unusedSimpArgs false
set_option linter.unusedVariables false
/- Heads: contracts: the reference's bytes. -/
namespace Go.Proofs.YthgcooppjhcgcaaDoor
namespace Am
attribute [local irreducible] ACallsTo ACallsP
/-- A signed head's bytes. -/
def putH (n : Nat) (r : Hash) (i : Nat) (s : List UInt8) (l : List Hash) : List UInt8 := numS n ++ r.1 ++ numS i ++ textS s ++ hashesS l
def putV (n i : Int) (r : Hash) (s : List UInt8) (l : List Hash) : AV :=
  if validB n i s l = true then .tup [.str (putH n.toNat r i.toNat s l), .int .i64 0] else .tup [.str [], .int .i64 2]
theorem valid_of {n i : Int} {s : List UInt8} {l : List Hash} (h : validB n i s l = true) : ∃ N I : Nat, n = N ∧ i = I ∧ N ≤ 4096 ∧ I ≤ 7 ∧ s.length = 16384 ∧ l.length = 3 := by
  obtain ⟨h1, h2, h3, h4, h5, h6⟩ := of_decide_eq_true h
  exact ⟨n.toNat, i.toNat, by omega, by omega, by omega, by omega, h5, h6⟩
theorem hashesS_len {l : List Hash} : (hashesS l).length ≤ 11 + 32 * l.length := by
  unfold hashesS
  have := numS_le l.length
  have := catS_len l
  split
  · simp
  · rw [List.length_append]; omega
theorem rl_si {k : Nat} {s : List UInt8} {n : Int} : RL k (.tup [.str s, .int .i64 n]) := by simp only [RL, RLs]; exact ⟨trivial, trivial, trivial⟩
set_option maxHeartbeats 8000000 in
theorem refPut_to (σ : Store) (n i : Int) (r : Hash) (s : List UInt8) (l : List Hash) (x : AV) (hx : RdSl σ 32 (hr l) x) : ACallsTo TC 32 [.agg (sgC n r i s x)] σ (putV n i r s l) σ := by
  have hV := refValid_to (σ ++ [some [sgC n r i s x]]) n i r s l x hx.app
  refine ACallsTo.of_body speculumref10_Put_ok (by simp) fun hw _ => ?_
  unfold putV
  cases hv : validB n i s l with
  | false =>
    rw [hv] at hV
    rw [if_neg (by decide)]
    repeat' (first | refine SWp.seq ?_ | refine SWp.block ?_ | refine SWp.scope ?_ | refine SWp.condT rfl ?_ | refine SWp.condF rfl ?_ | (refine SWp.condD rfl (fun ht => ?_) (fun ht => ?_) <;> try (exfalso; omega)) | ((first | refine SWp.reg ?_ | refine SWp.skip ?_ | refine SWp.exit ?_ | refine SWp.ret ?_ | (apply callW.mk_pu; (first | exact (fun _ => hV))) | (apply callW.any; (first | exact (hV))) | ((first | apply splitG | apply splitGB | apply splitR | apply splitRB | apply splitE | apply splitEB | apply splitC | apply splitCB) <;> intro ht)); all_goals try simp (disch := first | omega | (simp only [lens, hc_len, hr_len, List.length_reverse, byteEs_len, byteEsC_len, List.length_drop, sgC_len]; first | done | omega)) only [go_sem, Nat.reduceEqDiff, Nat.reduceBEq, Nat.reduceAdd, Nat.reduceMul, Nat.reduceSub, Nat.reduceLeDiff, Int.reduceToNat, Int.reducePow]))
    exact DownV.pure hw rl_si
  | true =>
    rw [hv] at hV
    rw [if_pos rfl]
    obtain ⟨N, I, rfl, rfl, h1, h2, h3, h4⟩ := valid_of hv
    have hN := fun σ => ref_Num_to σ N (by omega)
    have hI := fun σ => ref_Num_to σ I (by omega)
    have hH := fun σ => ref_Hash_to σ r.1 r.2
    have hT := fun σ => ref_Text_to σ s (by omega)
    have hL := refHashes_to (σ ++ [some [sgC N r I s x]]) l x hx.app (by omega)
    have l1 := numS_le N
    have l2 := numS_le I
    have l3 := r.2
    have l4 : (textS s).length ≤ 11 + 16384 := by have := numS_le s.length; rw [textS, List.length_append]; omega
    have l5 := hashesS_len (l := l)
    have hcr : hc r = byteEsC r.1 := rfl
    rw [Int.toNat_natCast, Int.toNat_natCast]
    unfold putH
    generalize numS N = sN at *
    generalize numS I = sI at *
    generalize textS s = sT at *
    generalize hashesS l = sH at *
    repeat' (first | refine SWp.seq ?_ | refine SWp.block ?_ | refine SWp.scope ?_ | refine SWp.condT rfl ?_ | refine SWp.condF rfl ?_ | (refine SWp.condD rfl (fun ht => ?_) (fun ht => ?_) <;> try (exfalso; omega)) | ((first | refine SWp.reg ?_ | refine SWp.skip ?_ | refine SWp.exit ?_ | refine SWp.ret ?_ | (apply callW.mk_pu; (first | exact (fun _ => hV) | exact (fun _ => hN _) | exact (fun _ => hI _) | exact (fun _ => hH _) | exact (fun _ => hT _) | exact (fun _ => hL))) | (apply callW.any; (first | exact (hV) | exact (hN _) | exact (hI _) | exact (hH _) | exact (hT _) | exact (hL))) | ((first | apply splitG | apply splitGB | apply splitR | apply splitRB | apply splitE | apply splitEB | apply splitC | apply splitCB) <;> intro ht)); all_goals try simp (disch := first | omega | (simp only [lens, hc_len, hr_len, List.length_reverse, byteEs_len, byteEsC_len, List.length_drop, sgC_len]; first | done | omega)) only [go_sem, Nat.reduceEqDiff, Nat.reduceBEq, Nat.reduceAdd, Nat.reduceMul, Nat.reduceSub, Nat.reduceLeDiff, Int.reduceToNat, Int.reducePow, hcr]))
    exact DownV.pure hw rl_si
end Am
end Go.Proofs.YthgcooppjhcgcaaDoor
end
section
set_option linter.unusedSimpArgs false
set_option linter.unusedVariables false
/- Heads: contracts: the head of bytes. -/
namespace Go.Proofs.YthgcooppjhcgcaaDoor
namespace Am
attribute [local irreducible] ACallsTo ACallsP
structure Hd where
  n : Nat
  r : Hash
  i : Nat
  g : List UInt8
  l : List Hash
/-- What stands there, and what is behind it. -/
def parseH (s : List UInt8) : Option (Hd × List UInt8) :=
  (readS s).bind fun x => (unS x.2).bind fun y => (readS y.2).bind fun z => (cutS z.2).bind fun u => (unsS u.2).map fun v => (⟨x.1, y.1, z.1, u.1, v.1⟩, v.2)
def getH (s : List UInt8) : Option Hd := (parseH s).bind fun x => if x.2 = [] ∧ validB x.1.n x.1.i x.1.g x.1.l = true then some x.1 else none
def getV : Option Hd → AV
  | none => .tup [.agg (sgC 0 zeroH 0 [] .nilsl), .int .i64 10]
  | some h => .tup [.agg (sgC h.n h.r h.i h.g (slVal 32 (hr h.l))), .int .i64 0]
theorem rl_sg {k : Nat} {n i : Int} {r : Hash} {s : List UInt8} {x : AV} {e : Int} (h : RL k x) : RL k (.tup [.agg (sgC n r i s x), .int .i64 e]) := by
  have h1 : RLs k (sgC n r i s x) := by
    rw [sgC, RLs_iff]
    intro a ha
    simp only [List.mem_cons, List.mem_append, List.not_mem_nil, or_false] at ha
    rcases ha with rfl | ha | rfl | rfl | rfl
    · exact rl_int
    · exact RLs_iff.1 (rl_hc r) a ha
    · exact rl_int
    · exact rl_str
    · exact h
  simp only [RL, RLs]; exact ⟨h1, trivial, trivial⟩
theorem rl_sg0 {k : Nat} : RL k (.tup [.agg (sgC 0 zeroH 0 [] .nilsl), .int .i64 10]) := rl_sg (by simp [RL])
theorem unS_len {s r : List UInt8} {h : Hash} (e : unS s = some (h, r)) : r.length < s.length := by
  by_cases hl : 32 ≤ s.length
  · rw [unS_some hl] at e
    simp only [Option.some.injEq, Prod.mk.injEq] at e
    rw [← e.2, List.length_drop]; omega
  · rw [unS_none hl] at e; cases e
theorem cutS_len {s g r : List UInt8} (e : cutS s = some (g, r)) : r.length < s.length ∧ g.length < s.length := by
  unfold cutS at e
  cases h : readS s with
  | none => rw [h] at e; simp at e
  | some x =>
    obtain ⟨n, t⟩ := x
    have hl := (readS_lt h).2
    rw [h] at e
    simp only [Option.bind_some, takeS] at e
    split at e
    · simp only [Option.some.injEq, Prod.mk.injEq] at e
      rw [← e.2, ← e.1, List.length_drop, List.length_take]; omega
    · cases e
theorem refRead_nil (σ : Store) : ACallsTo TC 107 [.str []] σ (.tup [.int .u64 0, .str [], .bool false]) σ := ref_Read_to σ [] (by simp)
theorem refUnhash_nil (σ : Store) : ACallsTo TC 108 [.str []] σ (.tup [.agg (hc zeroH), .str [], .bool false]) σ := ref_Unhash_to σ [] (by simp)
theorem refCut_nil (σ : Store) : ACallsTo TC 109 [.str []] σ (.tup [.str [], .str [], .bool false]) σ := ref_Cut_to σ [] (by simp)
theorem refUnhashes_nil (σ : Store) : ACallsTo TC 110 [.str []] σ (.tup [.nilsl, .str [], .bool false]) σ := ref_Unhashes_to σ [] (by simp)
theorem unsV_some (l : List Hash) (r : List UInt8) : unsV (some (l, r)) = .tup [slVal 32 (hr l), .str r, .bool true] := rfl
/-- The reference's answer. -/
def getR (s : List UInt8) : Option Hd := (parseH s).bind fun x => if validB x.1.n x.1.i x.1.g x.1.l = true ∧ putH x.1.n x.1.r x.1.i x.1.g x.1.l = s then some x.1 else none
set_option maxHeartbeats 16000000 in
theorem refGet_to (σ : Store) (s : List UInt8) (hs : s.length < 1000000000) : ACallsTo TC 35 [.str s] σ (getV (getR s)) σ := by
  refine ACallsTo.of_body speculumref10_Get_ok (by simp) fun hw _ => ?_
  have h1 := fun σ => ref_Read_to σ s hs
  unfold getR parseH
  cases e1 : readS s with
  | none =>
    rw [e1] at h1
    unfold rdV at h1
    simp only [Option.bind_none, Option.map_none, getV]
    repeat' (first | refine SWp.seq ?_ | refine SWp.block ?_ | refine SWp.scope ?_ | refine SWp.condT rfl ?_ | refine SWp.condF rfl ?_ | (refine SWp.condD rfl (fun ht => ?_) (fun ht => ?_) <;> try (exfalso; omega)) | ((first | refine SWp.reg ?_ | refine SWp.skip ?_ | refine SWp.exit ?_ | refine SWp.ret ?_ | (apply callW.mk_pu; (first | exact (fun _ => h1 _) | exact (fun _ => refRead_nil _) | exact (fun _ => refUnhash_nil _) | exact (fun _ => refCut_nil _) | exact (fun _ => refUnhashes_nil _))) | (apply callW.any; (first | exact (h1 _) | exact (refRead_nil _) | exact (refUnhash_nil _) | exact (refCut_nil _) | exact (refUnhashes_nil _))) | ((first | apply splitG | apply splitGB | apply splitR | apply splitRB | apply splitE | apply splitEB | apply splitC | apply splitCB) <;> intro ht)); all_goals try simp (disch := first | omega | (simp only [lens, hc_len, hr_len, List.length_reverse, byteEs_len, byteEsC_len, List.length_drop, sgC_len]; first | done | omega)) only [go_sem, Nat.reduceEqDiff, Nat.reduceBEq, Nat.reduceAdd, Nat.reduceMul, Nat.reduceSub, Nat.reduceLeDiff, Int.reduceToNat, Int.reducePow]))
    exact DownV.pure hw rl_sg0
  | some x =>
  obtain ⟨n, t1⟩ := x
  obtain ⟨n1, l1⟩ := readS_lt e1
  rw [e1] at h1
  unfold rdV at h1
  have h2 := fun σ => ref_Unhash_to σ t1 (by omega)
  simp only [Option.bind_some]
  cases e2 : unS t1 with
  | none =>
    rw [e2] at h2
    unfold unV at h2
    simp only [Option.bind_none, Option.map_none, getV]
    repeat' (first | refine SWp.seq ?_ | refine SWp.block ?_ | refine SWp.scope ?_ | refine SWp.condT rfl ?_ | refine SWp.condF rfl ?_ | (refine SWp.condD rfl (fun ht => ?_) (fun ht => ?_) <;> try (exfalso; omega)) | ((first | refine SWp.reg ?_ | refine SWp.skip ?_ | refine SWp.exit ?_ | refine SWp.ret ?_ | (apply callW.mk_pu; (first | exact (fun _ => h1 _) | exact (fun _ => h2 _) | exact (fun _ => refRead_nil _) | exact (fun _ => refCut_nil _) | exact (fun _ => refUnhashes_nil _))) | (apply callW.any; (first | exact (h1 _) | exact (h2 _) | exact (refRead_nil _) | exact (refCut_nil _) | exact (refUnhashes_nil _))) | ((first | apply splitG | apply splitGB | apply splitR | apply splitRB | apply splitE | apply splitEB | apply splitC | apply splitCB) <;> intro ht)); all_goals try simp (disch := first | omega | (simp only [lens, hc_len, hr_len, List.length_reverse, byteEs_len, byteEsC_len, List.length_drop, sgC_len]; first | done | omega)) only [go_sem, Nat.reduceEqDiff, Nat.reduceBEq, Nat.reduceAdd, Nat.reduceMul, Nat.reduceSub, Nat.reduceLeDiff, Int.reduceToNat, Int.reducePow]))
    exact DownV.pure hw rl_sg0
  | some y =>
  obtain ⟨r, t2⟩ := y
  have l2 := unS_len e2
  rw [e2] at h2
  unfold unV at h2
  have h3 := fun σ => ref_Read_to σ t2 (by omega)
  simp only [Option.bind_some]
  cases e3 : readS t2 with
  | none =>
    rw [e3] at h3
    unfold rdV at h3
    simp only [Option.bind_none, Option.map_none, getV]
    repeat' (first | refine SWp.seq ?_ | refine SWp.block ?_ | refine SWp.scope ?_ | refine SWp.condT rfl ?_ | refine SWp.condF rfl ?_ | (refine SWp.condD rfl (fun ht => ?_) (fun ht => ?_) <;> try (exfalso; omega)) | ((first | refine SWp.reg ?_ | refine SWp.skip ?_ | refine SWp.exit ?_ | refine SWp.ret ?_ | (apply callW.mk_pu; (first | exact (fun _ => h1 _) | exact (fun _ => h2 _) | exact (fun _ => h3 _) | exact (fun _ => refCut_nil _) | exact (fun _ => refUnhashes_nil _))) | (apply callW.any; (first | exact (h1 _) | exact (h2 _) | exact (h3 _) | exact (refCut_nil _) | exact (refUnhashes_nil _))) | ((first | apply splitG | apply splitGB | apply splitR | apply splitRB | apply splitE | apply splitEB | apply splitC | apply splitCB) <;> intro ht)); all_goals try simp (disch := first | omega | (simp only [lens, hc_len, hr_len, List.length_reverse, byteEs_len, byteEsC_len, List.length_drop, sgC_len]; first | done | omega)) only [go_sem, Nat.reduceEqDiff, Nat.reduceBEq, Nat.reduceAdd, Nat.reduceMul, Nat.reduceSub, Nat.reduceLeDiff, Int.reduceToNat, Int.reducePow]))
    exact DownV.pure hw rl_sg0
  | some z =>
  obtain ⟨i, t3⟩ := z
  obtain ⟨n3, l3⟩ := readS_lt e3
  rw [e3] at h3
  unfold rdV at h3
  have h4 := fun σ => ref_Cut_to σ t3 (by omega)
  simp only [Option.bind_some]
  cases e4 : cutS t3 with
  | none =>
    rw [e4] at h4
    unfold stV at h4
    simp only [Option.bind_none, Option.map_none, getV]
    repeat' (first | refine SWp.seq ?_ | refine SWp.block ?_ | refine SWp.scope ?_ | refine SWp.condT rfl ?_ | refine SWp.condF rfl ?_ | (refine SWp.condD rfl (fun ht => ?_) (fun ht => ?_) <;> try (exfalso; omega)) | ((first | refine SWp.reg ?_ | refine SWp.skip ?_ | refine SWp.exit ?_ | refine SWp.ret ?_ | (apply callW.mk_pu; (first | exact (fun _ => h1 _) | exact (fun _ => h2 _) | exact (fun _ => h3 _) | exact (fun _ => h4 _) | exact (fun _ => refUnhashes_nil _))) | (apply callW.any; (first | exact (h1 _) | exact (h2 _) | exact (h3 _) | exact (h4 _) | exact (refUnhashes_nil _))) | ((first | apply splitG | apply splitGB | apply splitR | apply splitRB | apply splitE | apply splitEB | apply splitC | apply splitCB) <;> intro ht)); all_goals try simp (disch := first | omega | (simp only [lens, hc_len, hr_len, List.length_reverse, byteEs_len, byteEsC_len, List.length_drop, sgC_len]; first | done | omega)) only [go_sem, Nat.reduceEqDiff, Nat.reduceBEq, Nat.reduceAdd, Nat.reduceMul, Nat.reduceSub, Nat.reduceLeDiff, Int.reduceToNat, Int.reducePow]))
    exact DownV.pure hw rl_sg0
  | some u =>
  obtain ⟨g, t4⟩ := u
  obtain ⟨l4, l5⟩ := cutS_len e4
  rw [e4] at h4
  unfold stV at h4
  have h5 := fun σ => ref_Unhashes_to σ t4 (by omega)
  simp only [Option.bind_some]
  cases e5 : unsS t4 with
  | none =>
    rw [e5] at h5
    unfold unsV at h5
    simp only [Option.bind_none, Option.map_none, getV]
    repeat' (first | refine SWp.seq ?_ | refine SWp.block ?_ | refine SWp.scope ?_ | refine SWp.condT rfl ?_ | refine SWp.condF rfl ?_ | (refine SWp.condD rfl (fun ht => ?_) (fun ht => ?_) <;> try (exfalso; omega)) | ((first | refine SWp.reg ?_ | refine SWp.skip ?_ | refine SWp.exit ?_ | refine SWp.ret ?_ | (apply callW.mk_pu; (first | exact (fun _ => h1 _) | exact (fun _ => h2 _) | exact (fun _ => h3 _) | exact (fun _ => h4 _) | exact (fun _ => h5 _))) | (apply callW.any; (first | exact (h1 _) | exact (h2 _) | exact (h3 _) | exact (h4 _) | exact (h5 _))) | ((first | apply splitG | apply splitGB | apply splitR | apply splitRB | apply splitE | apply splitEB | apply splitC | apply splitCB) <;> intro ht)); all_goals try simp (disch := first | omega | (simp only [lens, hc_len, hr_len, List.length_reverse, byteEs_len, byteEsC_len, List.length_drop, sgC_len]; first | done | omega)) only [go_sem, Nat.reduceEqDiff, Nat.reduceBEq, Nat.reduceAdd, Nat.reduceMul, Nat.reduceSub, Nat.reduceLeDiff, Int.reduceToNat, Int.reducePow]))
    exact DownV.pure hw rl_sg0
  | some v =>
  obtain ⟨l, t5⟩ := v
  rw [e5] at h5
  simp only [unsV_some] at h5
  simp only [Option.bind_some, Option.map_some]
  have xc := slVal_cells (sz := 32) (es := hr l)
  have xr : ∀ σ, RdSl σ 32 (hr l) (slVal 32 (hr l)) := fun σ => slVal_r
  have xl : RL σ.length (slVal 32 (hr l)) := rl_slVal (rlss_hr l)
  obtain ⟨x, hx⟩ : ∃ x, x = slVal 32 (hr l) := ⟨_, rfl⟩
  rw [← hx] at xc xl
  simp only [← hx] at xr h5
  have fx : ∀ (cells : List AV) (off : Nat) (rest : List (Nat × Nat × AV)), off + 1 ≤ cells.length → rFill cells ((off, 1, x) :: rest) = rFill (overw cells off [x]) rest := fun cells off rest h => by simp [rFill, xc, h]
  unfold cellsOf at xc
  have d35 : ∀ (a b c : AV), List.drop 35 (hc r ++ [a, b, c]) = [] := fun a b c => List.drop_of_length_le (by simp [hc_len])
  have dl : List.drop 35 [AV.int .u8 0, AV.int .u8 0, AV.int .u8 0, AV.int .u8 0, AV.int .u8 0, AV.int .u8 0, AV.int .u8 0, AV.int .u8 0, AV.int .u8 0, AV.int .u8 0, AV.int .u8 0, AV.int .u8 0, AV.int .u8 0, AV.int .u8 0, AV.int .u8 0, AV.int .u8 0, AV.int .u8 0, AV.int .u8 0, AV.int .u8 0, AV.int .u8 0, AV.int .u8 0, AV.int .u8 0, AV.int .u8 0, AV.int .u8 0, AV.int .u8 0, AV.int .u8 0, AV.int .u8 0, AV.int .u8 0, AV.int .u8 0, AV.int .u8 0, AV.int .u8 0, AV.int .u8 0, AV.int .i64 0, AV.str [], AV.nilsl] = [] := rfl
  by_cases b1 : n ≤ 4096
  · by_cases b2 : i ≤ 7
    · have hP := fun σ => refPut_to σ n i r g l x (xr σ)
      unfold putV sgC at hP
      cases hv : validB n i g l with
      | false =>
        rw [hv] at hP
        rw [if_neg (by simp)] at hP
        rw [if_neg (by simp)]
        simp only [getV]
        repeat' (first | refine SWp.seq ?_ | refine SWp.block ?_ | refine SWp.scope ?_ | refine SWp.condT rfl ?_ | refine SWp.condF rfl ?_ | (refine SWp.condD rfl (fun ht => ?_) (fun ht => ?_) <;> try (exfalso; omega)) | ((first | refine SWp.reg ?_ | refine SWp.skip ?_ | refine SWp.exit ?_ | refine SWp.ret ?_ | (apply callW.mk_pu; (first | exact (fun _ => h1 _) | exact (fun _ => h2 _) | exact (fun _ => h3 _) | exact (fun _ => h4 _) | exact (fun _ => h5 _) | exact (fun _ => hP _))) | (apply callW.any; (first | exact (h1 _) | exact (h2 _) | exact (h3 _) | exact (h4 _) | exact (h5 _) | exact (hP _))) | ((first | apply splitG | apply splitGB | apply splitR | apply splitRB | apply splitE | apply splitEB | apply splitC | apply splitCB) <;> intro ht)); all_goals try simp (disch := first | omega | (simp only [lens, hc_len, hr_len, List.length_reverse, byteEs_len, byteEsC_len, List.length_drop, sgC_len]; first | done | omega)) only [go_sem, Nat.reduceEqDiff, Nat.reduceBEq, Nat.reduceAdd, Nat.reduceMul, Nat.reduceSub, Nat.reduceLeDiff, Int.reduceToNat, Int.reducePow, xc, fx, d35, dl]))
        exact DownV.pure hw rl_sg0
      | true =>
        rw [hv, if_pos rfl, Int.toNat_natCast, Int.toNat_natCast] at hP
        by_cases hp : putH n r i g l = s
        · rw [if_pos ⟨rfl, hp⟩]
          simp only [getV, ← hx]
          repeat' (first | refine SWp.seq ?_ | refine SWp.block ?_ | refine SWp.scope ?_ | refine SWp.condT rfl ?_ | refine SWp.condF rfl ?_ | (refine SWp.condD rfl (fun ht => ?_) (fun ht => ?_) <;> try (exfalso; omega)) | ((first | refine SWp.reg ?_ | refine SWp.skip ?_ | refine SWp.exit ?_ | refine SWp.ret ?_ | (apply callW.mk_pu; (first | exact (fun _ => h1 _) | exact (fun _ => h2 _) | exact (fun _ => h3 _) | exact (fun _ => h4 _) | exact (fun _ => h5 _) | exact (fun _ => hP _))) | (apply callW.any; (first | exact (h1 _) | exact (h2 _) | exact (h3 _) | exact (h4 _) | exact (h5 _) | exact (hP _))) | ((first | apply splitG | apply splitGB | apply splitR | apply splitRB | apply splitE | apply splitEB | apply splitC | apply splitCB) <;> intro ht)); all_goals try simp (disch := first | omega | (simp only [lens, hc_len, hr_len, List.length_reverse, byteEs_len, byteEsC_len, List.length_drop, sgC_len]; first | done | omega)) only [go_sem, Nat.reduceEqDiff, Nat.reduceBEq, Nat.reduceAdd, Nat.reduceMul, Nat.reduceSub, Nat.reduceLeDiff, Int.reduceToNat, Int.reducePow, xc, fx, d35, dl, hp]))
          exact DownV.pure hw (rl_sg xl)
        · rw [if_neg (fun e => hp e.2)]
          simp only [getV]
          have hbq : (putH n r i g l == s) = false := beq_false_of_ne hp
          generalize putH n r i g l = P at *
          repeat' (first | refine SWp.seq ?_ | refine SWp.block ?_ | refine SWp.scope ?_ | refine SWp.condT rfl ?_ | refine SWp.condF rfl ?_ | (refine SWp.condD rfl (fun ht => ?_) (fun ht => ?_) <;> try (exfalso; omega)) | ((first | refine SWp.reg ?_ | refine SWp.skip ?_ | refine SWp.exit ?_ | refine SWp.ret ?_ | (apply callW.mk_pu; (first | exact (fun _ => h1 _) | exact (fun _ => h2 _) | exact (fun _ => h3 _) | exact (fun _ => h4 _) | exact (fun _ => h5 _) | exact (fun _ => hP _))) | (apply callW.any; (first | exact (h1 _) | exact (h2 _) | exact (h3 _) | exact (h4 _) | exact (h5 _) | exact (hP _))) | ((first | apply splitG | apply splitGB | apply splitR | apply splitRB | apply splitE | apply splitEB | apply splitC | apply splitCB) <;> intro ht)); all_goals try simp (disch := first | omega | (simp only [lens, hc_len, hr_len, List.length_reverse, byteEs_len, byteEsC_len, List.length_drop, sgC_len]; first | done | omega)) only [go_sem, Nat.reduceEqDiff, Nat.reduceBEq, Nat.reduceAdd, Nat.reduceMul, Nat.reduceSub, Nat.reduceLeDiff, Int.reduceToNat, Int.reducePow, xc, fx, d35, dl, hbq]))
          exact DownV.pure hw rl_sg0
    · have e : validB n i g l = false := decide_eq_false (by omega)
      rw [if_neg (by rw [e]; simp)]
      simp only [getV]
      repeat' (first | refine SWp.seq ?_ | refine SWp.block ?_ | refine SWp.scope ?_ | refine SWp.condT rfl ?_ | refine SWp.condF rfl ?_ | (refine SWp.condD rfl (fun ht => ?_) (fun ht => ?_) <;> try (exfalso; omega)) | ((first | refine SWp.reg ?_ | refine SWp.skip ?_ | refine SWp.exit ?_ | refine SWp.ret ?_ | (apply callW.mk_pu; (first | exact (fun _ => h1 _) | exact (fun _ => h2 _) | exact (fun _ => h3 _) | exact (fun _ => h4 _) | exact (fun _ => h5 _))) | (apply callW.any; (first | exact (h1 _) | exact (h2 _) | exact (h3 _) | exact (h4 _) | exact (h5 _))) | ((first | apply splitG | apply splitGB | apply splitR | apply splitRB | apply splitE | apply splitEB | apply splitC | apply splitCB) <;> intro ht)); all_goals try simp (disch := first | omega | (simp only [lens, hc_len, hr_len, List.length_reverse, byteEs_len, byteEsC_len, List.length_drop, sgC_len]; first | done | omega)) only [go_sem, Nat.reduceEqDiff, Nat.reduceBEq, Nat.reduceAdd, Nat.reduceMul, Nat.reduceSub, Nat.reduceLeDiff, Int.reduceToNat, Int.reducePow]))
      exact DownV.pure hw rl_sg0
  · have e : validB n i g l = false := decide_eq_false (by omega)
    rw [if_neg (by rw [e]; simp)]
    simp only [getV]
    repeat' (first | refine SWp.seq ?_ | refine SWp.block ?_ | refine SWp.scope ?_ | refine SWp.condT rfl ?_ | refine SWp.condF rfl ?_ | (refine SWp.condD rfl (fun ht => ?_) (fun ht => ?_) <;> try (exfalso; omega)) | ((first | refine SWp.reg ?_ | refine SWp.skip ?_ | refine SWp.exit ?_ | refine SWp.ret ?_ | (apply callW.mk_pu; (first | exact (fun _ => h1 _) | exact (fun _ => h2 _) | exact (fun _ => h3 _) | exact (fun _ => h4 _) | exact (fun _ => h5 _))) | (apply callW.any; (first | exact (h1 _) | exact (h2 _) | exact (h3 _) | exact (h4 _) | exact (h5 _))) | ((first | apply splitG | apply splitGB | apply splitR | apply splitRB | apply splitE | apply splitEB | apply splitC | apply splitCB) <;> intro ht)); all_goals try simp (disch := first | omega | (simp only [lens, hc_len, hr_len, List.length_reverse, byteEs_len, byteEsC_len, List.length_drop, sgC_len]; first | done | omega)) only [go_sem, Nat.reduceEqDiff, Nat.reduceBEq, Nat.reduceAdd, Nat.reduceMul, Nat.reduceSub, Nat.reduceLeDiff, Int.reduceToNat, Int.reducePow]))
    exact DownV.pure hw rl_sg0
end Am
end Go.Proofs.YthgcooppjhcgcaaDoor
end
section
set_option linter.unusedSimpArgs false
set_option linter.unusedVariables false
/- Heads: plain: what is got of bytes is what the reference gets. -/
set_option linter.unusedSimpArgs false
set_option linter.unusedVariables false
namespace Go.Proofs.YthgcooppjhcgcaaDoor
namespace Am
theorem unS_sound {s r : List UInt8} {h : Hash} (e : unS s = some (h, r)) : s = h.1 ++ r := by
  by_cases hl : 32 ≤ s.length
  · rw [unS_some hl] at e
    simp only [Option.some.injEq, Prod.mk.injEq] at e
    have h32 : (s.take 32).length = 32 := by rw [List.length_take]; omega
    have hv : h.1 = s.take 32 := by rw [← e.1, toH, dif_pos h32]
    rw [hv, ← e.2, List.take_append_drop]
  · rw [unS_none hl] at e; cases e
theorem cutS_sound {s g r : List UInt8} (e : cutS s = some (g, r)) : s = textS g ++ r := by
  unfold cutS at e
  cases h : readS s with
  | none => rw [h] at e; simp at e
  | some x =>
    obtain ⟨n, t⟩ := x
    obtain ⟨h1, h2⟩ := readS_sound h
    rw [h] at e
    simp only [Option.bind_some, takeS] at e
    split at e
    · rename_i hl
      simp only [Option.some.injEq, Prod.mk.injEq] at e
      have hg : g.length = n := by rw [← e.1, List.length_take]; omega
      rw [textS, hg, h2, ← e.1, ← e.2, List.append_assoc, List.take_append_drop]
    · cases e
theorem catS_of (t : List UInt8) : ∀ (n : Nat), 32 * n ≤ t.length → catS (hsOf t n) = t.take (32 * n)
  | 0, _ => by simp [hsOf, catS]
  | n + 1, h => by
    have ih := catS_of t n (by omega)
    have h32 : ((t.drop (32 * n)).take 32).length = 32 := by rw [List.length_take, List.length_drop]; omega
    have hv : (hsAt t n).1 = (t.drop (32 * n)).take 32 := by rw [hsAt, toH, dif_pos h32]
    have hc : catS (hsOf t (n + 1)) = catS (hsOf t n) ++ (hsAt t n).1 := by rw [hsOf_succ]; simp [catS]
    rw [hc, ih, hv, show 32 * (n + 1) = 32 * n + 32 by omega, List.take_add]
theorem unsS_sound {s r : List UInt8} {l : List Hash} (e : unsS s = some (l, r)) : s = hashesS l ++ r := by
  unfold unsS at e
  cases h : readS s with
  | none => rw [h] at e; simp at e
  | some x =>
    obtain ⟨n, t⟩ := x
    obtain ⟨h1, h2⟩ := readS_sound h
    rw [h] at e
    simp only [Option.bind_some] at e
    split at e
    · rename_i hl
      simp only [Option.some.injEq, Prod.mk.injEq] at e
      have hn : l.length = n := by rw [← e.1, hsOf_len]
      rw [hashesS, if_neg (by omega), hn, h2, ← e.1, catS_of t n hl.2, ← e.2, List.append_assoc, List.take_append_drop]
    · cases e
theorem parseH_sound {s t : List UInt8} {h : Hd} (e : parseH s = some (h, t)) : s = putH h.n h.r h.i h.g h.l ++ t := by
  unfold parseH at e
  cases e1 : readS s with
  | none => rw [e1] at e; simp at e
  | some x =>
  rw [e1] at e
  simp only [Option.bind_some] at e
  cases e2 : unS x.2 with
  | none => rw [e2] at e; simp at e
  | some y =>
  rw [e2] at e
  simp only [Option.bind_some] at e
  cases e3 : readS y.2 with
  | none => rw [e3] at e; simp at e
  | some z =>
  rw [e3] at e
  simp only [Option.bind_some] at e
  cases e4 : cutS z.2 with
  | none => rw [e4] at e; simp at e
  | some u =>
  rw [e4] at e
  simp only [Option.bind_some] at e
  cases e5 : unsS u.2 with
  | none => rw [e5] at e; simp at e
  | some v =>
  rw [e5] at e
  simp only [Option.map_some, Option.some.injEq, Prod.mk.injEq] at e
  obtain ⟨rfl, rfl⟩ := e
  have s1 := (readS_sound (n := x.1) (rest := x.2) e1).2
  have s2 := unS_sound (h := y.1) (r := y.2) e2
  have s3 := (readS_sound (n := z.1) (rest := z.2) e3).2
  have s4 := cutS_sound (g := u.1) (r := u.2) e4
  have s5 := unsS_sound (l := v.1) (r := v.2) e5
  simp only [putH]
  rw [s1, s2, s3, s4, s5]
  simp only [List.append_assoc]
theorem getR_eq (s : List UInt8) : getR s = getH s := by
  unfold getR getH
  cases e : parseH s with
  | none => rfl
  | some x =>
    obtain ⟨h, t⟩ := x
    have hs := parseH_sound e
    simp only [Option.bind_some]
    by_cases ht : t = []
    · subst ht
      rw [List.append_nil] at hs
      by_cases hv : validB h.n h.i h.g h.l = true
      · rw [if_pos ⟨hv, hs.symm⟩, if_pos ⟨rfl, hv⟩]
      · rw [if_neg (fun e => hv e.1), if_neg (fun e => hv e.2)]
    · rw [if_neg (fun e => ?_), if_neg (fun e => ht e.1)]
      have h2 := e.2
      rw [hs] at h2
      have := congrArg List.length h2
      rw [List.length_append] at this
      exact ht (List.eq_nil_of_length_eq_zero (by omega))
end Am
end Go.Proofs.YthgcooppjhcgcaaDoor
end
section
set_option linter.unusedSimpArgs false
set_option linter.unusedVariables false
/- Heads: plain: a head is got of its bytes, and of nothing that is cut off or longer. -/
set_option linter.unusedSimpArgs false
set_option linter.unusedVariables false
namespace Go.Proofs.YthgcooppjhcgcaaDoor
namespace Am
theorem toH_eq (h : Hash) {l : List UInt8} (e : l = h.1) : toH l = h := by rw [e, toH_val]
theorem unS_put (h : Hash) (r : List UInt8) : unS (h.1 ++ r) = some (h, r) := by
  have h1 := h.2
  rw [unS_some (by rw [List.length_append]; omega), List.take_left' h1, List.drop_left' h1, toH_val]
theorem cutS_put {g : List UInt8} (hg : g.length < 18446744073709551616) (r : List UInt8) : cutS (textS g ++ r) = some (g, r) := by
  rw [cutS, textS, List.append_assoc, readS_num hg, Option.bind_some, takeS, if_pos (by simp), List.take_left' rfl, List.drop_left' rfl]
theorem hsOf_put (r : List UInt8) (l : List Hash) : ∀ n, n ≤ l.length → hsOf (catS l ++ r) n = l.take n
  | 0, _ => by simp [hsOf]
  | n + 1, h => by
    have ih := hsOf_put r l n (by omega)
    have h1 := catS_len (l.take n)
    rw [List.length_take, Nat.min_eq_left (by omega)] at h1
    have hd1 := (hd l n).2
    have e : catS l = catS (l.take n) ++ ((hd l n).1 ++ catS (l.drop (n + 1))) := by
      have e1 : l = l.take n ++ (hd l n :: l.drop (n + 1)) := by
        have := List.take_append_drop (n + 1) l
        rw [take_hd (by omega : n < l.length), List.append_assoc] at this
        simpa using this.symm
      have e2 : ∀ (a b : List Hash), catS (a ++ b) = catS a ++ catS b := fun a b => by simp [catS]
      have e3 : ∀ (x : Hash) (b : List Hash), catS (x :: b) = x.1 ++ catS b := fun x b => by simp [catS]
      conv => lhs; rw [e1]
      rw [e2, e3]
    rw [hsOf_succ, ih, take_hd (by omega : n < l.length)]
    congr 2
    refine toH_eq _ ?_
    rw [e, List.append_assoc, List.drop_left' h1, List.append_assoc, List.take_left' hd1]
theorem unsS_put {l : List Hash} (hl : l.length ≤ 64) (r : List UInt8) : unsS (hashesS l ++ r) = some (l, r) := by
  have h1 := catS_len l
  rw [unsS, hashesS, if_neg (by omega), List.append_assoc, readS_num (by omega), Option.bind_some, if_pos ⟨hl, by rw [List.length_append]; omega⟩, hsOf_put r l l.length (Nat.le_refl _), List.take_of_length_le (Nat.le_refl _), List.drop_left' h1]
theorem parse_put {h : Hd} (hv : validB h.n h.i h.g h.l = true) (t : List UInt8) : parseH (putH h.n h.r h.i h.g h.l ++ t) = some (h, t) := by
  obtain ⟨N, I, e1, e2, b1, b2, b3, b4⟩ := valid_of hv
  unfold parseH putH
  simp only [List.append_assoc]
  rw [readS_num (by omega), Option.bind_some, unS_put, Option.bind_some, readS_num (by omega), Option.bind_some, cutS_put (by omega), Option.bind_some, unsS_put (by omega), Option.map_some]
theorem getH_put {h : Hd} (hv : validB h.n h.i h.g h.l = true) (t : List UInt8) : getH (putH h.n h.r h.i h.g h.l ++ t) = if t = [] then some h else none := by
  unfold getH
  rw [parse_put hv, Option.bind_some]
  by_cases ht : t = []
  · rw [if_pos ⟨ht, hv⟩, if_pos ht]
  · rw [if_neg (fun e => ht e.1), if_neg ht]
theorem getH_sound {s : List UInt8} {h : Hd} (e : getH s = some h) : s = putH h.n h.r h.i h.g h.l ∧ validB h.n h.i h.g h.l = true := by
  unfold getH at e
  cases hp : parseH s with
  | none => rw [hp] at e; simp at e
  | some x =>
    obtain ⟨h', t⟩ := x
    have hs := parseH_sound hp
    rw [hp, Option.bind_some] at e
    split at e
    · rename_i hc
      simp only [Option.some.injEq] at e
      subst e
      obtain ⟨rfl, hv⟩ := hc
      exact ⟨by simpa using hs, hv⟩
    · cases e
theorem getH_cut {h : Hd} (hv : validB h.n h.i h.g h.l = true) {k : Nat} (hk : k < (putH h.n h.r h.i h.g h.l).length) : getH ((putH h.n h.r h.i h.g h.l).take k) = none := by
  cases e : getH ((putH h.n h.r h.i h.g h.l).take k) with
  | none => rfl
  | some h' =>
    exfalso
    obtain ⟨e1, hv'⟩ := getH_sound e
    have h1 := parse_put hv []
    rw [List.append_nil, ← List.take_append_drop k (putH h.n h.r h.i h.g h.l), e1, parse_put hv'] at h1
    simp only [Option.some.injEq, Prod.mk.injEq] at h1
    have := congrArg List.length h1.2
    rw [List.length_drop, List.length_nil] at this
    omega
end Am
end Go.Proofs.YthgcooppjhcgcaaDoor
end
section
set_option linter.unusedSimpArgs false
set_option linter.unusedVariables false
/- Heads: contracts: how heads stand; rough heads. -/
namespace Go.Proofs.YthgcooppjhcgcaaDoor
namespace Am
attribute [local irreducible] ACallsTo ACallsP
def ordV (n m : Int) (a b : Hash) : Int := if n < m then 0 else if n > m then 2 else if a = b then 1 else 3
set_option maxHeartbeats 4000000 in
theorem Order_to (σ : Store) (n m : Int) (a b : Hash) : ACallsTo TC 54 [.agg (.int .i64 n :: hc a), .agg (.int .i64 m :: hc b)] σ (.int .i64 (ordV n m a b)) σ := by
  refine ACallsTo.of_body heads_Order_ok (by simp) fun hw _ => ?_
  unfold ordV
  by_cases h1 : n < m
  · rw [if_pos h1]
    repeat' (first | refine SWp.seq ?_ | refine SWp.block ?_ | refine SWp.scope ?_ | refine SWp.condT rfl ?_ | refine SWp.condF rfl ?_ | (refine SWp.condD rfl (fun ht => ?_) (fun ht => ?_) <;> try (exfalso; omega)) | ((first | refine SWp.reg ?_ | refine SWp.skip ?_ | refine SWp.exit ?_ | refine SWp.ret ?_ | ((first | apply splitG | apply splitGB | apply splitR | apply splitRB | apply splitE | apply splitEB | apply splitC | apply splitCB) <;> intro ht)); all_goals try simp (disch := first | omega | (simp only [lens, hc_len, hr_len, List.length_reverse, byteEs_len, byteEsC_len, List.length_drop, sgC_len]; first | done | omega)) only [go_sem, Nat.reduceEqDiff, Nat.reduceBEq, Nat.reduceAdd, Nat.reduceMul, Nat.reduceSub, Nat.reduceLeDiff, Int.reduceToNat, Int.reducePow, h1]))
    exact DownV.pure hw rl_int
  · rw [if_neg h1]
    by_cases h2 : n > m
    · rw [if_pos h2]
      repeat' (first | refine SWp.seq ?_ | refine SWp.block ?_ | refine SWp.scope ?_ | refine SWp.condT rfl ?_ | refine SWp.condF rfl ?_ | (refine SWp.condD rfl (fun ht => ?_) (fun ht => ?_) <;> try (exfalso; omega)) | ((first | refine SWp.reg ?_ | refine SWp.skip ?_ | refine SWp.exit ?_ | refine SWp.ret ?_ | ((first | apply splitG | apply splitGB | apply splitR | apply splitRB | apply splitE | apply splitEB | apply splitC | apply splitCB) <;> intro ht)); all_goals try simp (disch := first | omega | (simp only [lens, hc_len, hr_len, List.length_reverse, byteEs_len, byteEsC_len, List.length_drop, sgC_len]; first | done | omega)) only [go_sem, Nat.reduceEqDiff, Nat.reduceBEq, Nat.reduceAdd, Nat.reduceMul, Nat.reduceSub, Nat.reduceLeDiff, Int.reduceToNat, Int.reducePow, h1, h2]))
      exact DownV.pure hw rl_int
    · rw [if_neg h2]
      by_cases h3 : a = b
      · rw [if_pos h3]
        have e := decide_eq_true h3
        repeat' (first | refine SWp.seq ?_ | refine SWp.block ?_ | refine SWp.scope ?_ | refine SWp.condT rfl ?_ | refine SWp.condF rfl ?_ | (refine SWp.condD rfl (fun ht => ?_) (fun ht => ?_) <;> try (exfalso; omega)) | ((first | refine SWp.reg ?_ | refine SWp.skip ?_ | refine SWp.exit ?_ | refine SWp.ret ?_ | ((first | apply splitG | apply splitGB | apply splitR | apply splitRB | apply splitE | apply splitEB | apply splitC | apply splitCB) <;> intro ht)); all_goals try simp (disch := first | omega | (simp only [lens, hc_len, hr_len, List.length_reverse, byteEs_len, byteEsC_len, List.length_drop, sgC_len]; first | done | omega)) only [go_sem, Nat.reduceEqDiff, Nat.reduceBEq, Nat.reduceAdd, Nat.reduceMul, Nat.reduceSub, Nat.reduceLeDiff, Int.reduceToNat, Int.reducePow, h1, h2, e]))
        exact DownV.pure hw rl_int
      · rw [if_neg h3]
        have e := decide_eq_false h3
        repeat' (first | refine SWp.seq ?_ | refine SWp.block ?_ | refine SWp.scope ?_ | refine SWp.condT rfl ?_ | refine SWp.condF rfl ?_ | (refine SWp.condD rfl (fun ht => ?_) (fun ht => ?_) <;> try (exfalso; omega)) | ((first | refine SWp.reg ?_ | refine SWp.skip ?_ | refine SWp.exit ?_ | refine SWp.ret ?_ | ((first | apply splitG | apply splitGB | apply splitR | apply splitRB | apply splitE | apply splitEB | apply splitC | apply splitCB) <;> intro ht)); all_goals try simp (disch := first | omega | (simp only [lens, hc_len, hr_len, List.length_reverse, byteEs_len, byteEsC_len, List.length_drop, sgC_len]; first | done | omega)) only [go_sem, Nat.reduceEqDiff, Nat.reduceBEq, Nat.reduceAdd, Nat.reduceMul, Nat.reduceSub, Nat.reduceLeDiff, Int.reduceToNat, Int.reducePow, h1, h2, e]))
        exact DownV.pure hw rl_int
/-- A rough head's cells. -/
def rgC (n : Int) (r : Hash) (i : Int) (s : List UInt8) (m : Int) (x : AV) : List AV := .int .i64 n :: (hc r ++ [.int .i64 i, .str s, .int .i8 m, x])
@[go_sem] theorem rgC_len (n : Int) (r : Hash) (i : Int) (s : List UInt8) (m : Int) (x : AV) : (rgC n r i s m x).length = 37 := by simp [rgC, hc_len]
theorem rgC_at (n : Int) (r : Hash) (i : Int) (s : List UInt8) (m : Int) (x : AV) (k : Nat) : (rgC n r i s m x)[33 + k]? = [AV.int .i64 i, .str s, .int .i8 m, x][k]? := by
  rw [rgC, show 33 + k = (32 + k) + 1 by omega, List.getElem?_cons_succ, List.getElem?_append_right (by rw [hc_len]; omega), hc_len, Nat.add_sub_cancel_left]
@[go_sem] theorem rgC_33 (n : Int) (r : Hash) (i : Int) (s : List UInt8) (m : Int) (x : AV) : (rgC n r i s m x)[33]? = some (.int .i64 i) := rgC_at n r i s m x 0
@[go_sem] theorem rgC_34 (n : Int) (r : Hash) (i : Int) (s : List UInt8) (m : Int) (x : AV) : (rgC n r i s m x)[34]? = some (.str s) := rgC_at n r i s m x 1
@[go_sem] theorem rgC_35 (n : Int) (r : Hash) (i : Int) (s : List UInt8) (m : Int) (x : AV) : (rgC n r i s m x)[35]? = some (.int .i8 m) := rgC_at n r i s m x 2
@[go_sem] theorem rgC_36 (n : Int) (r : Hash) (i : Int) (s : List UInt8) (m : Int) (x : AV) : (rgC n r i s m x)[36]? = some x := rgC_at n r i s m x 3
@[go_sem] theorem rgC_head (n : Int) (r : Hash) (i : Int) (s : List UInt8) (m : Int) (x : AV) : (rgC n r i s m x).take 33 = .int .i64 n :: hc r := by
  rw [rgC, List.take_succ_cons, hc_take_app]
set_option maxHeartbeats 4000000 in
theorem HGreat_to (σ : Store) (n i m : Int) (r : Hash) (s : List UInt8) (l : List Hash) (x : AV) (hx : RdSl σ 32 (hr l) x) :
    ACallsTo TC 30 [.agg (rgC n r i s m x)] σ (.bool (decide (300 < s.length ∨ 40 < l.length))) σ := by
  refine ACallsTo.of_body speculumlaw10_Rough__Great_ok (by simp) fun hw _ => ?_
  have r1 := hx.len
  rw [hr_len] at r1
  unfold rLenSl at r1
  by_cases h1 : (s.length : Int) > 300
  · rw [decide_eq_true (by omega)]
    repeat' (first | refine SWp.seq ?_ | refine SWp.block ?_ | refine SWp.scope ?_ | refine SWp.condT rfl ?_ | refine SWp.condF rfl ?_ | (refine SWp.condD rfl (fun ht => ?_) (fun ht => ?_) <;> try (exfalso; omega)) | ((first | refine SWp.reg ?_ | refine SWp.skip ?_ | refine SWp.exit ?_ | refine SWp.ret ?_ | ((first | apply splitG | apply splitGB | apply splitR | apply splitRB | apply splitE | apply splitEB | apply splitC | apply splitCB) <;> intro ht)); all_goals try simp (disch := first | omega | (simp only [lens, hc_len, hr_len, List.length_reverse, byteEs_len, byteEsC_len, List.length_drop, sgC_len]; first | done | omega)) only [go_sem, Nat.reduceEqDiff, Nat.reduceBEq, Nat.reduceAdd, Nat.reduceMul, Nat.reduceSub, Nat.reduceLeDiff, Int.reduceToNat, Int.reducePow, h1, r1]))
    exact DownV.pure hw rl_bool
  · by_cases h2 : (l.length : Int) > 40
    · rw [decide_eq_true (by omega)]
      repeat' (first | refine SWp.seq ?_ | refine SWp.block ?_ | refine SWp.scope ?_ | refine SWp.condT rfl ?_ | refine SWp.condF rfl ?_ | (refine SWp.condD rfl (fun ht => ?_) (fun ht => ?_) <;> try (exfalso; omega)) | ((first | refine SWp.reg ?_ | refine SWp.skip ?_ | refine SWp.exit ?_ | refine SWp.ret ?_ | ((first | apply splitG | apply splitGB | apply splitR | apply splitRB | apply splitE | apply splitEB | apply splitC | apply splitCB) <;> intro ht)); all_goals try simp (disch := first | omega | (simp only [lens, hc_len, hr_len, List.length_reverse, byteEs_len, byteEsC_len, List.length_drop, sgC_len]; first | done | omega)) only [go_sem, Nat.reduceEqDiff, Nat.reduceBEq, Nat.reduceAdd, Nat.reduceMul, Nat.reduceSub, Nat.reduceLeDiff, Int.reduceToNat, Int.reducePow, h1, h2, r1]))
      exact DownV.pure hw rl_bool
    · rw [decide_eq_false (by omega)]
      repeat' (first | refine SWp.seq ?_ | refine SWp.block ?_ | refine SWp.scope ?_ | refine SWp.condT rfl ?_ | refine SWp.condF rfl ?_ | (refine SWp.condD rfl (fun ht => ?_) (fun ht => ?_) <;> try (exfalso; omega)) | ((first | refine SWp.reg ?_ | refine SWp.skip ?_ | refine SWp.exit ?_ | refine SWp.ret ?_ | ((first | apply splitG | apply splitGB | apply splitR | apply splitRB | apply splitE | apply splitEB | apply splitC | apply splitCB) <;> intro ht)); all_goals try simp (disch := first | omega | (simp only [lens, hc_len, hr_len, List.length_reverse, byteEs_len, byteEsC_len, List.length_drop, sgC_len]; first | done | omega)) only [go_sem, Nat.reduceEqDiff, Nat.reduceBEq, Nat.reduceAdd, Nat.reduceMul, Nat.reduceSub, Nat.reduceLeDiff, Int.reduceToNat, Int.reducePow, h1, h2, r1]))
      exact DownV.pure hw rl_bool
end Am
end Go.Proofs.YthgcooppjhcgcaaDoor
end
section
set_option linter.unusedSimpArgs false
set_option linter.unusedVariables false
/- Heads: contracts: are two signed heads the same? -/
namespace Go.Proofs.YthgcooppjhcgcaaDoor
namespace Am
attribute [local irreducible] ACallsTo ACallsP
set_option maxHeartbeats 8000000 in
theorem sealSame_to (σ : Store) (i j : Int) (s t : List UInt8) (A B : List Hash) (x y : AV) (hx : RdSl σ 32 (hr A) x) (hy : RdSl σ 32 (hr B) y) (hl : A.length < 1000000) (hl2 : B.length < 1000000) :
    ACallsTo TC 46 [.agg [.int .i64 i, .str s, x], .agg [.int .i64 j, .str t, y]] σ (.bool (decide (i = j ∧ s = t ∧ A = B))) σ := by
  have hS := fun z => Same_h (σ ++ z) A B x y hx.app hy.app (by omega) (by omega)
  refine ACallsTo.of_body speculumlaw09_Same_ok (by simp) fun hw _ => ?_
  by_cases h1 : i = j
  · by_cases h2 : s = t
    · by_cases h3 : A = B
      · rw [decide_eq_true ⟨h1, h2, h3⟩]
        rw [decide_eq_true h3] at hS
        repeat' (first | refine SWp.seq ?_ | refine SWp.block ?_ | refine SWp.scope ?_ | refine SWp.condT rfl ?_ | refine SWp.condF rfl ?_ | (refine SWp.condD rfl (fun ht => ?_) (fun ht => ?_) <;> try (exfalso; omega)) | ((first | refine SWp.reg ?_ | refine SWp.skip ?_ | refine SWp.exit ?_ | refine SWp.ret ?_ | (apply callW.mk_pu; (first | exact (fun _ => hS _))) | (apply callW.any; (first | exact (hS _))) | ((first | apply splitG | apply splitGB | apply splitR | apply splitRB | apply splitE | apply splitEB | apply splitC | apply splitCB) <;> intro ht)); all_goals try simp (disch := first | omega | (simp only [lens, hc_len, hr_len, List.length_reverse, byteEs_len, byteEsC_len, List.length_drop, sgC_len]; first | done | omega)) only [go_sem, Nat.reduceEqDiff, Nat.reduceBEq, Nat.reduceAdd, Nat.reduceMul, Nat.reduceSub, Nat.reduceLeDiff, Int.reduceToNat, Int.reducePow, h1, h2]))
        exact DownV.pure hw rl_bool
      · rw [decide_eq_false (fun e => h3 e.2.2)]
        rw [decide_eq_false h3] at hS
        repeat' (first | refine SWp.seq ?_ | refine SWp.block ?_ | refine SWp.scope ?_ | refine SWp.condT rfl ?_ | refine SWp.condF rfl ?_ | (refine SWp.condD rfl (fun ht => ?_) (fun ht => ?_) <;> try (exfalso; omega)) | ((first | refine SWp.reg ?_ | refine SWp.skip ?_ | refine SWp.exit ?_ | refine SWp.ret ?_ | (apply callW.mk_pu; (first | exact (fun _ => hS _))) | (apply callW.any; (first | exact (hS _))) | ((first | apply splitG | apply splitGB | apply splitR | apply splitRB | apply splitE | apply splitEB | apply splitC | apply splitCB) <;> intro ht)); all_goals try simp (disch := first | omega | (simp only [lens, hc_len, hr_len, List.length_reverse, byteEs_len, byteEsC_len, List.length_drop, sgC_len]; first | done | omega)) only [go_sem, Nat.reduceEqDiff, Nat.reduceBEq, Nat.reduceAdd, Nat.reduceMul, Nat.reduceSub, Nat.reduceLeDiff, Int.reduceToNat, Int.reducePow, h1, h2]))
        exact DownV.pure hw rl_bool
    · rw [decide_eq_false (fun e => h2 e.2.1)]
      have e : (s == t) = false := beq_false_of_ne h2
      repeat' (first | refine SWp.seq ?_ | refine SWp.block ?_ | refine SWp.scope ?_ | refine SWp.condT rfl ?_ | refine SWp.condF rfl ?_ | (refine SWp.condD rfl (fun ht => ?_) (fun ht => ?_) <;> try (exfalso; omega)) | ((first | refine SWp.reg ?_ | refine SWp.skip ?_ | refine SWp.exit ?_ | refine SWp.ret ?_ | ((first | apply splitG | apply splitGB | apply splitR | apply splitRB | apply splitE | apply splitEB | apply splitC | apply splitCB) <;> intro ht)); all_goals try simp (disch := first | omega | (simp only [lens, hc_len, hr_len, List.length_reverse, byteEs_len, byteEsC_len, List.length_drop, sgC_len]; first | done | omega)) only [go_sem, Nat.reduceEqDiff, Nat.reduceBEq, Nat.reduceAdd, Nat.reduceMul, Nat.reduceSub, Nat.reduceLeDiff, Int.reduceToNat, Int.reducePow, h1, e]))
      exact DownV.pure hw rl_bool
  · rw [decide_eq_false (fun e => h1 e.1)]
    repeat' (first | refine SWp.seq ?_ | refine SWp.block ?_ | refine SWp.scope ?_ | refine SWp.condT rfl ?_ | refine SWp.condF rfl ?_ | (refine SWp.condD rfl (fun ht => ?_) (fun ht => ?_) <;> try (exfalso; omega)) | ((first | refine SWp.reg ?_ | refine SWp.skip ?_ | refine SWp.exit ?_ | refine SWp.ret ?_ | ((first | apply splitG | apply splitGB | apply splitR | apply splitRB | apply splitE | apply splitEB | apply splitC | apply splitCB) <;> intro ht)); all_goals try simp (disch := first | omega | (simp only [lens, hc_len, hr_len, List.length_reverse, byteEs_len, byteEsC_len, List.length_drop, sgC_len]; first | done | omega)) only [go_sem, Nat.reduceEqDiff, Nat.reduceBEq, Nat.reduceAdd, Nat.reduceMul, Nat.reduceSub, Nat.reduceLeDiff, Int.reduceToNat, Int.reducePow, h1]))
    exact DownV.pure hw rl_bool
@[go_sem] theorem sgC_tail (n : Int) (r : Hash) (i : Int) (s : List UInt8) (x : AV) : (sgC n r i s x).drop 33 = [.int .i64 i, .str s, x] := by
  rw [sgC, List.drop_succ_cons, hc_drop_app]
theorem sg_eq (n m : Int) (a b : Hash) : eqCells (.int .i64 n :: hc a) (.int .i64 m :: hc b) = decide (n = m ∧ a = b) := by
  rw [show eqCells (.int .i64 n :: hc a) (.int .i64 m :: hc b) = (eqCell (.int .i64 n) (.int .i64 m) && eqCells (hc a) (hc b)) from rfl, hc_eq, Bool.eq_iff_iff]
  simp [eqCell]
set_option maxHeartbeats 8000000 in
theorem headSame_to (σ : Store) (n m i j : Int) (a b : Hash) (s t : List UInt8) (A B : List Hash) (x y : AV) (hx : RdSl σ 32 (hr A) x) (hy : RdSl σ 32 (hr B) y) (hl : A.length < 1000000) (hl2 : B.length < 1000000) :
    ACallsTo TC 36 [.agg (sgC n a i s x), .agg (sgC m b j t y)] σ (.bool (decide ((n = m ∧ a = b) ∧ i = j ∧ s = t ∧ A = B))) σ := by
  have hS := fun z => sealSame_to (σ ++ z) i j s t A B x y hx.app hy.app hl hl2
  refine ACallsTo.of_body speculumlaw10_Same_ok (by simp) fun hw _ => ?_
  by_cases h1 : n = m ∧ a = b
  · have e1 := (sg_eq n m a b).trans (decide_eq_true h1)
    by_cases h2 : i = j ∧ s = t ∧ A = B
    · rw [decide_eq_true ⟨h1, h2⟩]
      rw [decide_eq_true h2] at hS
      repeat' (first | refine SWp.seq ?_ | refine SWp.block ?_ | refine SWp.scope ?_ | refine SWp.condT rfl ?_ | refine SWp.condF rfl ?_ | (refine SWp.condD rfl (fun ht => ?_) (fun ht => ?_) <;> try (exfalso; omega)) | ((first | refine SWp.reg ?_ | refine SWp.skip ?_ | refine SWp.exit ?_ | refine SWp.ret ?_ | (apply callW.mk_pu; (first | exact (fun _ => hS _))) | (apply callW.any; (first | exact (hS _))) | ((first | apply splitG | apply splitGB | apply splitR | apply splitRB | apply splitE | apply splitEB | apply splitC | apply splitCB) <;> intro ht)); all_goals try simp (disch := first | omega | (simp only [lens, hc_len, hr_len, List.length_reverse, byteEs_len, byteEsC_len, List.length_drop, sgC_len]; first | done | omega)) only [go_sem, Nat.reduceEqDiff, Nat.reduceBEq, Nat.reduceAdd, Nat.reduceMul, Nat.reduceSub, Nat.reduceLeDiff, Int.reduceToNat, Int.reducePow, e1, kindOf, eq_self, and_self, if_true]))
      exact DownV.pure hw rl_bool
    · rw [decide_eq_false (fun e => h2 e.2)]
      rw [decide_eq_false h2] at hS
      repeat' (first | refine SWp.seq ?_ | refine SWp.block ?_ | refine SWp.scope ?_ | refine SWp.condT rfl ?_ | refine SWp.condF rfl ?_ | (refine SWp.condD rfl (fun ht => ?_) (fun ht => ?_) <;> try (exfalso; omega)) | ((first | refine SWp.reg ?_ | refine SWp.skip ?_ | refine SWp.exit ?_ | refine SWp.ret ?_ | (apply callW.mk_pu; (first | exact (fun _ => hS _))) | (apply callW.any; (first | exact (hS _))) | ((first | apply splitG | apply splitGB | apply splitR | apply splitRB | apply splitE | apply splitEB | apply splitC | apply splitCB) <;> intro ht)); all_goals try simp (disch := first | omega | (simp only [lens, hc_len, hr_len, List.length_reverse, byteEs_len, byteEsC_len, List.length_drop, sgC_len]; first | done | omega)) only [go_sem, Nat.reduceEqDiff, Nat.reduceBEq, Nat.reduceAdd, Nat.reduceMul, Nat.reduceSub, Nat.reduceLeDiff, Int.reduceToNat, Int.reducePow, e1, kindOf, eq_self, and_self, if_true]))
      exact DownV.pure hw rl_bool
  · have e1 := (sg_eq n m a b).trans (decide_eq_false h1)
    rw [decide_eq_false (fun e => h1 e.1)]
    repeat' (first | refine SWp.seq ?_ | refine SWp.block ?_ | refine SWp.scope ?_ | refine SWp.condT rfl ?_ | refine SWp.condF rfl ?_ | (refine SWp.condD rfl (fun ht => ?_) (fun ht => ?_) <;> try (exfalso; omega)) | ((first | refine SWp.reg ?_ | refine SWp.skip ?_ | refine SWp.exit ?_ | refine SWp.ret ?_ | ((first | apply splitG | apply splitGB | apply splitR | apply splitRB | apply splitE | apply splitEB | apply splitC | apply splitCB) <;> intro ht)); all_goals try simp (disch := first | omega | (simp only [lens, hc_len, hr_len, List.length_reverse, byteEs_len, byteEsC_len, List.length_drop, sgC_len]; first | done | omega)) only [go_sem, Nat.reduceEqDiff, Nat.reduceBEq, Nat.reduceAdd, Nat.reduceMul, Nat.reduceSub, Nat.reduceLeDiff, Int.reduceToNat, Int.reducePow, e1, kindOf, eq_self, and_self, if_true]))
    exact DownV.pure hw rl_bool
end Am
end Go.Proofs.YthgcooppjhcgcaaDoor
end
section
set_option linter.unusedSimpArgs false
set_option linter.unusedVariables false
/- Heads: contracts: a rough head is a signed head. -/
namespace Go.Proofs.YthgcooppjhcgcaaDoor
namespace Am
attribute [local irreducible] ACallsTo ACallsP
/-- Again and again. -/
def repF (s : List UInt8) (N : Nat) : Nat → List UInt8 → List UInt8
  | 0, a => a
  | f + 1, a => if 0 < s.length ∧ a.length < N then repF s N f (a ++ s) else a
theorem repF_stop {s a : List UInt8} {N f : Nat} (h : ¬ (0 < s.length ∧ a.length < N)) : repF s N f a = a := by
  cases f with
  | zero => rfl
  | succ f => rw [repF, if_neg h]
theorem rls_sg {k : Nat} {n i : Int} {r : Hash} {s : List UInt8} {x : AV} (h : RL k x) : RLs k (sgC n r i s x) := by
  have := rl_sg (n := n) (i := i) (r := r) (s := s) (e := 0) h
  simp only [RL, RLs] at this
  exact this.1
def sigS (s : List UInt8) (N : Nat) : List UInt8 := (repF s N N []).take N
set_option maxHeartbeats 8000000 in
theorem Signed_to (σ : Store) (n i m : Int) (r : Hash) (s : List UInt8) (l : List Hash) (x : AV) (hx : SlV 32 (hr l) x) (hm : -128 ≤ m ∧ m ≤ 127) (hs : s.length ≤ 300) :
    ACallsTo TC 33 [.agg (rgC n r i s m x)] σ (.agg (sgC n r i (sigS s (16384 + m).toNat) x)) σ := by
  refine ACallsTo.of_body speculumlaw10_Rough__Signed_ok (by simp) fun hw _ => ?_
  have xc := slv_cells hx
  have xl : RL σ.length x := rl_z hx
  have fx : ∀ (cells : List AV) (off : Nat) (rest : List (Nat × Nat × AV)), off + 1 ≤ cells.length → rFill cells ((off, 1, x) :: rest) = rFill (overw cells off [x]) rest := fun cells off rest h => by simp [rFill, xc, h]
  unfold cellsOf at xc
  have d35 : ∀ (a b c : AV), List.drop 35 (hc r ++ [a, b, c]) = [] := fun a b c => List.drop_of_length_le (by simp [hc_len])
  have d36 : List.drop 36 (sgC 0 zeroH 0 [] .nilsl) = [] := rfl
  have dl : List.drop 35 [AV.int .u8 0, AV.int .u8 0, AV.int .u8 0, AV.int .u8 0, AV.int .u8 0, AV.int .u8 0, AV.int .u8 0, AV.int .u8 0, AV.int .u8 0, AV.int .u8 0, AV.int .u8 0, AV.int .u8 0, AV.int .u8 0, AV.int .u8 0, AV.int .u8 0, AV.int .u8 0, AV.int .u8 0, AV.int .u8 0, AV.int .u8 0, AV.int .u8 0, AV.int .u8 0, AV.int .u8 0, AV.int .u8 0, AV.int .u8 0, AV.int .u8 0, AV.int .u8 0, AV.int .u8 0, AV.int .u8 0, AV.int .u8 0, AV.int .u8 0, AV.int .u8 0, AV.int .u8 0, AV.int .i64 0, AV.str [], AV.nilsl] = [] := rfl
  obtain ⟨N, hN⟩ : ∃ N : Nat, N = (16384 + m).toNat := ⟨_, rfl⟩
  have hN2 : 16384 + m = (N : Int) := by omega
  rw [← hN]
  repeat' (first | refine SWp.seq ?_ | refine SWp.block ?_ | refine SWp.scope ?_ | refine SWp.condT rfl ?_ | refine SWp.condF rfl ?_ | (refine SWp.condD rfl (fun ht => ?_) (fun ht => ?_) <;> try (exfalso; omega)) | ((first | refine SWp.reg ?_ | refine SWp.skip ?_ | refine SWp.exit ?_ | refine SWp.ret ?_ | ((first | apply splitG | apply splitGB | apply splitR | apply splitRB | apply splitE | apply splitEB | apply splitC | apply splitCB) <;> intro ht)); all_goals try simp (disch := first | omega | (simp only [lens, hc_len, hr_len, List.length_reverse, byteEs_len, byteEsC_len, List.length_drop, sgC_len, rgC_len, List.length_append]; first | done | omega)) only [go_sem, Nat.reduceEqDiff, Nat.reduceBEq, Nat.reduceAdd, Nat.reduceMul, Nat.reduceSub, Nat.reduceLeDiff, Int.reduceToNat, Int.reducePow, hN2]))
  refine SWp.loop (fun k ρ σ' => ∃ a : List UInt8, a.length + k ≥ N ∧ a.length < N + 301 ∧ repF s N k a = repF s N N [] ∧ σ' = σ ++ [some [rgC n r i s m x], some [sgC 0 zeroH 0 [] .nilsl]] ∧ ρ 1 = .ptr σ.length 0 0 ∧ ρ 2 = .ptr (σ.length + 1) 0 0 ∧ ρ 3 = .int .i64 N ∧ ρ 4 = .str a) N ?_ ?_
  · exact ⟨[], by simp, by simp, rfl, rfl, by simp (disch := first | omega | (simp only [lens, hc_len, hr_len, List.length_reverse, byteEs_len, byteEsC_len, List.length_drop, sgC_len, rgC_len, List.length_append]; first | done | omega)) only [go_sem, Nat.reduceEqDiff, Nat.reduceBEq, Nat.reduceAdd, Nat.reduceMul, Nat.reduceSub, Nat.reduceLeDiff, Int.reduceToNat, Int.reducePow], by simp (disch := first | omega | (simp only [lens, hc_len, hr_len, List.length_reverse, byteEs_len, byteEsC_len, List.length_drop, sgC_len, rgC_len, List.length_append]; first | done | omega)) only [go_sem, Nat.reduceEqDiff, Nat.reduceBEq, Nat.reduceAdd, Nat.reduceMul, Nat.reduceSub, Nat.reduceLeDiff, Int.reduceToNat, Int.reducePow], by simp (disch := first | omega | (simp only [lens, hc_len, hr_len, List.length_reverse, byteEs_len, byteEsC_len, List.length_drop, sgC_len, rgC_len, List.length_append]; first | done | omega)) only [go_sem, Nat.reduceEqDiff, Nat.reduceBEq, Nat.reduceAdd, Nat.reduceMul, Nat.reduceSub, Nat.reduceLeDiff, Int.reduceToNat, Int.reducePow], by simp (disch := first | omega | (simp only [lens, hc_len, hr_len, List.length_reverse, byteEs_len, byteEsC_len, List.length_drop, sgC_len, rgC_len, List.length_append]; first | done | omega)) only [go_sem, Nat.reduceEqDiff, Nat.reduceBEq, Nat.reduceAdd, Nat.reduceMul, Nat.reduceSub, Nat.reduceLeDiff, Int.reduceToNat, Int.reducePow]⟩
  · rintro k ρ σ' ⟨a, hk, hal, hr, rfl, q1, q2, q3, q4⟩
    by_cases c1 : (s.length : Int) > 0
    · by_cases c2 : (a.length : Int) < N
      · have hk1 : ∃ k', k = k' + 1 := ⟨k - 1, by omega⟩
        obtain ⟨k, rfl⟩ := hk1
        rw [repF, if_pos ⟨by omega, by omega⟩] at hr
        repeat' (first | refine SWp.seq ?_ | refine SWp.block ?_ | refine SWp.scope ?_ | refine SWp.condT rfl ?_ | refine SWp.condF rfl ?_ | (refine SWp.condD rfl (fun ht => ?_) (fun ht => ?_) <;> try (exfalso; omega)) | ((first | refine SWp.reg ?_ | refine SWp.skip ?_ | refine SWp.exit ?_ | refine SWp.ret ?_ | ((first | apply splitG | apply splitGB | apply splitR | apply splitRB | apply splitE | apply splitEB | apply splitC | apply splitCB) <;> intro ht)); all_goals try simp (disch := first | omega | (simp only [lens, hc_len, hr_len, List.length_reverse, byteEs_len, byteEsC_len, List.length_drop, sgC_len, rgC_len, List.length_append]; first | done | omega)) only [go_sem, Nat.reduceEqDiff, Nat.reduceBEq, Nat.reduceAdd, Nat.reduceMul, Nat.reduceSub, Nat.reduceLeDiff, Int.reduceToNat, Int.reducePow, q1, q2, q3, q4, c1, c2]))
        exact ⟨k, by omega, a ++ s, by rw [List.length_append]; omega, by rw [List.length_append]; omega, hr, rfl⟩
      · rw [repF_stop (by omega)] at hr
        unfold sigS
        rw [← hr]
        have h0 : (if (N : Int) < (a.length : Int) then (N : Int) else (a.length : Int)) = ((min a.length N : Nat) : Int) := by split <;> omega
        have ht : a.take (min a.length N) = a.take N := by
          rcases Nat.le_total a.length N with h | h
          · rw [Nat.min_eq_left h, List.take_of_length_le (Nat.le_refl _), List.take_of_length_le h]
          · rw [Nat.min_eq_right h]
        have hM : min a.length N ≤ a.length := Nat.min_le_left _ _
        generalize min a.length N = M at *
        repeat' (first | refine SWp.seq ?_ | refine SWp.block ?_ | refine SWp.scope ?_ | refine SWp.condT rfl ?_ | refine SWp.condF rfl ?_ | (refine SWp.condD rfl (fun ht => ?_) (fun ht => ?_) <;> try (exfalso; omega)) | ((first | refine SWp.reg ?_ | refine SWp.skip ?_ | refine SWp.exit ?_ | refine SWp.ret ?_ | ((first | apply splitG | apply splitGB | apply splitR | apply splitRB | apply splitE | apply splitEB | apply splitC | apply splitCB) <;> intro ht)); all_goals try simp (disch := first | omega | (simp only [lens, hc_len, hr_len, List.length_reverse, byteEs_len, byteEsC_len, List.length_drop, sgC_len, rgC_len, List.length_append]; first | done | omega)) only [go_sem, Nat.reduceEqDiff, Nat.reduceBEq, Nat.reduceAdd, Nat.reduceMul, Nat.reduceSub, Nat.reduceLeDiff, Int.reduceToNat, Int.reducePow, q1, q2, q3, q4, c1, c2, xc, fx, d35, d36, dl, h0, ht]))
        exact DownV.pure hw (rl_agg (rls_sg xl))
    · rw [repF_stop (by omega)] at hr
      unfold sigS
      rw [← hr]
      have h0 : (if (N : Int) < (a.length : Int) then (N : Int) else (a.length : Int)) = ((min a.length N : Nat) : Int) := by split <;> omega
      have ht : a.take (min a.length N) = a.take N := by
        rcases Nat.le_total a.length N with h | h
        · rw [Nat.min_eq_left h, List.take_of_length_le (Nat.le_refl _), List.take_of_length_le h]
        · rw [Nat.min_eq_right h]
      have hM : min a.length N ≤ a.length := Nat.min_le_left _ _
      generalize min a.length N = M at *
      repeat' (first | refine SWp.seq ?_ | refine SWp.block ?_ | refine SWp.scope ?_ | refine SWp.condT rfl ?_ | refine SWp.condF rfl ?_ | (refine SWp.condD rfl (fun ht => ?_) (fun ht => ?_) <;> try (exfalso; omega)) | ((first | refine SWp.reg ?_ | refine SWp.skip ?_ | refine SWp.exit ?_ | refine SWp.ret ?_ | ((first | apply splitG | apply splitGB | apply splitR | apply splitRB | apply splitE | apply splitEB | apply splitC | apply splitCB) <;> intro ht)); all_goals try simp (disch := first | omega | (simp only [lens, hc_len, hr_len, List.length_reverse, byteEs_len, byteEsC_len, List.length_drop, sgC_len, rgC_len, List.length_append]; first | done | omega)) only [go_sem, Nat.reduceEqDiff, Nat.reduceBEq, Nat.reduceAdd, Nat.reduceMul, Nat.reduceSub, Nat.reduceLeDiff, Int.reduceToNat, Int.reducePow, q1, q2, q3, q4, c1, xc, fx, d35, d36, dl, h0, ht]))
      exact DownV.pure hw (rl_agg (rls_sg xl))
end Am
end Go.Proofs.YthgcooppjhcgcaaDoor
end
section
set_option linter.unusedSimpArgs false
set_option linter.unusedVariables false
/- Heads: contracts: what may not be has no bytes and is not checked. -/
namespace Go.Proofs.YthgcooppjhcgcaaDoor
namespace Am
attribute [local irreducible] ACallsTo ACallsP
set_option maxHeartbeats 4000000 in
theorem Put_not (σ : Store) (n i : Int) (r : Hash) (s : List UInt8) (l : List Hash) (x : AV) (hx : RdSl σ 32 (hr l) x) (hv : validB n i s l = false) :
    ACallsTo TC 37 [.agg (sgC n r i s x)] σ (.tup [.str [], .int .i64 2]) σ := by
  have hV := Valid_to (σ ++ [some [sgC n r i s x]]) n i r s l x hx.app
  rw [hv] at hV
  refine ACallsTo.of_body heads_Put_ok (by simp) fun hw _ => ?_
  repeat' (first | refine SWp.seq ?_ | refine SWp.block ?_ | refine SWp.scope ?_ | refine SWp.condT rfl ?_ | refine SWp.condF rfl ?_ | (refine SWp.condD rfl (fun ht => ?_) (fun ht => ?_) <;> try (exfalso; omega)) | ((first | refine SWp.reg ?_ | refine SWp.skip ?_ | refine SWp.exit ?_ | refine SWp.ret ?_ | (apply callW.mk_pu; (first | exact (fun _ => hV))) | (apply callW.any; (first | exact (hV))) | ((first | apply splitG | apply splitGB | apply splitR | apply splitRB | apply splitE | apply splitEB | apply splitC | apply splitCB) <;> intro ht)); all_goals try simp (disch := first | omega | (simp only [lens, hc_len, hr_len, List.length_reverse, byteEs_len, byteEsC_len, List.length_drop, sgC_len]; first | done | omega)) only [go_sem, Nat.reduceEqDiff, Nat.reduceBEq, Nat.reduceAdd, Nat.reduceMul, Nat.reduceSub, Nat.reduceLeDiff, Int.reduceToNat, Int.reducePow]))
  exact DownV.pure hw rl_si
set_option maxHeartbeats 4000000 in
theorem Check_not (σ : Store) (k : Hash) (n i : Int) (r : Hash) (s : List UInt8) (l : List Hash) (x : AV) (hx : RdSl σ 32 (hr l) x) (hv : validB n i s l = false) :
    ACallsTo TC 52 [.agg (hc k), .agg (sgC n r i s x)] σ (.int .i64 2) σ := by
  have hV := Valid_to (σ ++ [some [hc k], some [sgC n r i s x]]) n i r s l x hx.app
  rw [hv] at hV
  refine ACallsTo.of_body heads_Check_ok (by simp) fun hw _ => ?_
  repeat' (first | refine SWp.seq ?_ | refine SWp.block ?_ | refine SWp.scope ?_ | refine SWp.condT rfl ?_ | refine SWp.condF rfl ?_ | (refine SWp.condD rfl (fun ht => ?_) (fun ht => ?_) <;> try (exfalso; omega)) | ((first | refine SWp.reg ?_ | refine SWp.skip ?_ | refine SWp.exit ?_ | refine SWp.ret ?_ | (apply callW.mk_pu; (first | exact (fun _ => hV))) | (apply callW.any; (first | exact (hV))) | ((first | apply splitG | apply splitGB | apply splitR | apply splitRB | apply splitE | apply splitEB | apply splitC | apply splitCB) <;> intro ht)); all_goals try simp (disch := first | omega | (simp only [lens, hc_len, hr_len, List.length_reverse, byteEs_len, byteEsC_len, List.length_drop, sgC_len]; first | done | omega)) only [go_sem, Nat.reduceEqDiff, Nat.reduceBEq, Nat.reduceAdd, Nat.reduceMul, Nat.reduceSub, Nat.reduceLeDiff, Int.reduceToNat, Int.reducePow]))
  exact DownV.pure hw rl_int
end Am
end Go.Proofs.YthgcooppjhcgcaaDoor
end
section
set_option linter.unusedSimpArgs false
set_option linter.unusedVariables false
/- Heads: contracts: the head of bytes: the program's. -/
namespace Go.Proofs.YthgcooppjhcgcaaDoor
namespace Am
attribute [local irreducible] ACallsTo ACallsP
theorem Read_nil (σ : Store) : ACallsTo TC 102 [.str []] σ (.tup [.int .u64 0, .str [], .bool false]) σ := codec_Read_to σ [] (by simp)
theorem Unhash_nil (σ : Store) : ACallsTo TC 103 [.str []] σ (.tup [.agg (hc zeroH), .str [], .bool false]) σ := codec_Unhash_to σ [] (by simp)
theorem Cut_nil (σ : Store) : ACallsTo TC 104 [.str []] σ (.tup [.str [], .str [], .bool false]) σ := codec_Cut_to σ [] (by simp)
theorem Unhashes_nil (σ : Store) : ACallsTo TC 105 [.str []] σ (.tup [.nilsl, .str [], .bool false]) σ := codec_Unhashes_to σ [] (by simp)
theorem small_0 (σ : Store) : ACallsTo TC 106 [.int .u64 0] σ (.int .i64 0) σ := small_to σ 0 (by omega)
set_option maxHeartbeats 16000000 in
theorem Get_to (σ : Store) (s : List UInt8) (hs : s.length < 1000000000) : ACallsTo TC 34 [.str s] σ (getV (getH s)) σ := by
  refine ACallsTo.of_body heads_Get_ok (by simp) fun hw _ => ?_
  have h1 := fun σ => codec_Read_to σ s hs
  unfold getH parseH
  cases e1 : readS s with
  | none =>
    rw [e1] at h1
    unfold rdV at h1
    simp only [Option.bind_none, Option.map_none, getV]
    repeat' (first | refine SWp.seq ?_ | refine SWp.block ?_ | refine SWp.scope ?_ | refine SWp.condT rfl ?_ | refine SWp.condF rfl ?_ | (refine SWp.condD rfl (fun ht => ?_) (fun ht => ?_) <;> try (exfalso; omega)) | ((first | refine SWp.reg ?_ | refine SWp.skip ?_ | refine SWp.exit ?_ | refine SWp.ret ?_ | (apply callW.mk_pu; (first | exact (fun _ => h1 _) | exact (fun _ => Read_nil _) | exact (fun _ => Unhash_nil _) | exact (fun _ => Cut_nil _) | exact (fun _ => Unhashes_nil _) | exact (fun _ => small_0 _))) | (apply callW.any; (first | exact (h1 _) | exact (Read_nil _) | exact (Unhash_nil _) | exact (Cut_nil _) | exact (Unhashes_nil _) | exact (small_0 _))) | ((first | apply splitG | apply splitGB | apply splitR | apply splitRB | apply splitE | apply splitEB | apply splitC | apply splitCB) <;> intro ht)); all_goals try simp (disch := first | omega | (simp only [lens, hc_len, hr_len, List.length_reverse, byteEs_len, byteEsC_len, List.length_drop, sgC_len]; first | done | omega)) only [go_sem, Nat.reduceEqDiff, Nat.reduceBEq, Nat.reduceAdd, Nat.reduceMul, Nat.reduceSub, Nat.reduceLeDiff, Int.reduceToNat, Int.reducePow]))
    exact DownV.pure hw rl_sg0
  | some x =>
  obtain ⟨n, t1⟩ := x
  obtain ⟨n1, l1⟩ := readS_lt e1
  rw [e1] at h1
  unfold rdV at h1
  have s1 := fun σ => small_to σ n n1
  have h2 := fun σ => codec_Unhash_to σ t1 (by omega)
  simp only [Option.bind_some]
  cases e2 : unS t1 with
  | none =>
    rw [e2] at h2
    unfold unV at h2
    simp only [Option.bind_none, Option.map_none, getV]
    repeat' (first | refine SWp.seq ?_ | refine SWp.block ?_ | refine SWp.scope ?_ | refine SWp.condT rfl ?_ | refine SWp.condF rfl ?_ | (refine SWp.condD rfl (fun ht => ?_) (fun ht => ?_) <;> try (exfalso; omega)) | ((first | refine SWp.reg ?_ | refine SWp.skip ?_ | refine SWp.exit ?_ | refine SWp.ret ?_ | (apply callW.mk_pu; (first | exact (fun _ => h1 _) | exact (fun _ => h2 _) | exact (fun _ => s1 _) | exact (fun _ => Read_nil _) | exact (fun _ => Unhash_nil _) | exact (fun _ => Cut_nil _) | exact (fun _ => Unhashes_nil _) | exact (fun _ => small_0 _))) | (apply callW.any; (first | exact (h1 _) | exact (h2 _) | exact (s1 _) | exact (Read_nil _) | exact (Unhash_nil _) | exact (Cut_nil _) | exact (Unhashes_nil _) | exact (small_0 _))) | ((first | apply splitG | apply splitGB | apply splitR | apply splitRB | apply splitE | apply splitEB | apply splitC | apply splitCB) <;> intro ht)); all_goals try simp (disch := first | omega | (simp only [lens, hc_len, hr_len, List.length_reverse, byteEs_len, byteEsC_len, List.length_drop, sgC_len]; first | done | omega)) only [go_sem, Nat.reduceEqDiff, Nat.reduceBEq, Nat.reduceAdd, Nat.reduceMul, Nat.reduceSub, Nat.reduceLeDiff, Int.reduceToNat, Int.reducePow]))
    exact DownV.pure hw rl_sg0
  | some y =>
  obtain ⟨r, t2⟩ := y
  have l2 := unS_len e2
  rw [e2] at h2
  unfold unV at h2
  have h3 := fun σ => codec_Read_to σ t2 (by omega)
  simp only [Option.bind_some]
  cases e3 : readS t2 with
  | none =>
    rw [e3] at h3
    unfold rdV at h3
    simp only [Option.bind_none, Option.map_none, getV]
    repeat' (first | refine SWp.seq ?_ | refine SWp.block ?_ | refine SWp.scope ?_ | refine SWp.condT rfl ?_ | refine SWp.condF rfl ?_ | (refine SWp.condD rfl (fun ht => ?_) (fun ht => ?_) <;> try (exfalso; omega)) | ((first | refine SWp.reg ?_ | refine SWp.skip ?_ | refine SWp.exit ?_ | refine SWp.ret ?_ | (apply callW.mk_pu; (first | exact (fun _ => h1 _) | exact (fun _ => h2 _) | exact (fun _ => h3 _) | exact (fun _ => s1 _) | exact (fun _ => Read_nil _) | exact (fun _ => Cut_nil _) | exact (fun _ => Unhashes_nil _) | exact (fun _ => small_0 _))) | (apply callW.any; (first | exact (h1 _) | exact (h2 _) | exact (h3 _) | exact (s1 _) | exact (Read_nil _) | exact (Cut_nil _) | exact (Unhashes_nil _) | exact (small_0 _))) | ((first | apply splitG | apply splitGB | apply splitR | apply splitRB | apply splitE | apply splitEB | apply splitC | apply splitCB) <;> intro ht)); all_goals try simp (disch := first | omega | (simp only [lens, hc_len, hr_len, List.length_reverse, byteEs_len, byteEsC_len, List.length_drop, sgC_len]; first | done | omega)) only [go_sem, Nat.reduceEqDiff, Nat.reduceBEq, Nat.reduceAdd, Nat.reduceMul, Nat.reduceSub, Nat.reduceLeDiff, Int.reduceToNat, Int.reducePow]))
    exact DownV.pure hw rl_sg0
  | some z =>
  obtain ⟨i, t3⟩ := z
  obtain ⟨n3, l3⟩ := readS_lt e3
  rw [e3] at h3
  unfold rdV at h3
  have s3 := fun σ => small_to σ i n3
  have h4 := fun σ => codec_Cut_to σ t3 (by omega)
  simp only [Option.bind_some]
  cases e4 : cutS t3 with
  | none =>
    rw [e4] at h4
    unfold stV at h4
    simp only [Option.bind_none, Option.map_none, getV]
    repeat' (first | refine SWp.seq ?_ | refine SWp.block ?_ | refine SWp.scope ?_ | refine SWp.condT rfl ?_ | refine SWp.condF rfl ?_ | (refine SWp.condD rfl (fun ht => ?_) (fun ht => ?_) <;> try (exfalso; omega)) | ((first | refine SWp.reg ?_ | refine SWp.skip ?_ | refine SWp.exit ?_ | refine SWp.ret ?_ | (apply callW.mk_pu; (first | exact (fun _ => h1 _) | exact (fun _ => h2 _) | exact (fun _ => h3 _) | exact (fun _ => h4 _) | exact (fun _ => s1 _) | exact (fun _ => s3 _) | exact (fun _ => Unhashes_nil _))) | (apply callW.any; (first | exact (h1 _) | exact (h2 _) | exact (h3 _) | exact (h4 _) | exact (s1 _) | exact (s3 _) | exact (Unhashes_nil _))) | ((first | apply splitG | apply splitGB | apply splitR | apply splitRB | apply splitE | apply splitEB | apply splitC | apply splitCB) <;> intro ht)); all_goals try simp (disch := first | omega | (simp only [lens, hc_len, hr_len, List.length_reverse, byteEs_len, byteEsC_len, List.length_drop, sgC_len]; first | done | omega)) only [go_sem, Nat.reduceEqDiff, Nat.reduceBEq, Nat.reduceAdd, Nat.reduceMul, Nat.reduceSub, Nat.reduceLeDiff, Int.reduceToNat, Int.reducePow]))
    exact DownV.pure hw rl_sg0
  | some u =>
  obtain ⟨g, t4⟩ := u
  obtain ⟨l4, l5⟩ := cutS_len e4
  rw [e4] at h4
  unfold stV at h4
  have h5 := fun σ => codec_Unhashes_to σ t4 (by omega)
  simp only [Option.bind_some]
  cases e5 : unsS t4 with
  | none =>
    rw [e5] at h5
    unfold unsV at h5
    simp only [Option.bind_none, Option.map_none, getV]
    repeat' (first | refine SWp.seq ?_ | refine SWp.block ?_ | refine SWp.scope ?_ | refine SWp.condT rfl ?_ | refine SWp.condF rfl ?_ | (refine SWp.condD rfl (fun ht => ?_) (fun ht => ?_) <;> try (exfalso; omega)) | ((first | refine SWp.reg ?_ | refine SWp.skip ?_ | refine SWp.exit ?_ | refine SWp.ret ?_ | (apply callW.mk_pu; (first | exact (fun _ => h1 _) | exact (fun _ => h2 _) | exact (fun _ => h3 _) | exact (fun _ => h4 _) | exact (fun _ => h5 _) | exact (fun _ => s1 _) | exact (fun _ => s3 _))) | (apply callW.any; (first | exact (h1 _) | exact (h2 _) | exact (h3 _) | exact (h4 _) | exact (h5 _) | exact (s1 _) | exact (s3 _))) | ((first | apply splitG | apply splitGB | apply splitR | apply splitRB | apply splitE | apply splitEB | apply splitC | apply splitCB) <;> intro ht)); all_goals try simp (disch := first | omega | (simp only [lens, hc_len, hr_len, List.length_reverse, byteEs_len, byteEsC_len, List.length_drop, sgC_len]; first | done | omega)) only [go_sem, Nat.reduceEqDiff, Nat.reduceBEq, Nat.reduceAdd, Nat.reduceMul, Nat.reduceSub, Nat.reduceLeDiff, Int.reduceToNat, Int.reducePow]))
    exact DownV.pure hw rl_sg0
  | some v =>
  obtain ⟨l, t5⟩ := v
  rw [e5] at h5
  simp only [unsV_some] at h5
  simp only [Option.bind_some, Option.map_some]
  have xc := slVal_cells (sz := 32) (es := hr l)
  have xr : ∀ σ, RdSl σ 32 (hr l) (slVal 32 (hr l)) := fun σ => slVal_r
  have xl : RL σ.length (slVal 32 (hr l)) := rl_slVal (rlss_hr l)
  obtain ⟨x, hx⟩ : ∃ x, x = slVal 32 (hr l) := ⟨_, rfl⟩
  rw [← hx] at xc xl
  simp only [← hx] at xr h5
  have fx : ∀ (cells : List AV) (off : Nat) (rest : List (Nat × Nat × AV)), off + 1 ≤ cells.length → rFill cells ((off, 1, x) :: rest) = rFill (overw cells off [x]) rest := fun cells off rest h => by simp [rFill, xc, h]
  unfold cellsOf at xc
  have d35 : ∀ (a b c : AV), List.drop 35 (hc r ++ [a, b, c]) = [] := fun a b c => List.drop_of_length_le (by simp [hc_len])
  have dl : List.drop 35 [AV.int .u8 0, AV.int .u8 0, AV.int .u8 0, AV.int .u8 0, AV.int .u8 0, AV.int .u8 0, AV.int .u8 0, AV.int .u8 0, AV.int .u8 0, AV.int .u8 0, AV.int .u8 0, AV.int .u8 0, AV.int .u8 0, AV.int .u8 0, AV.int .u8 0, AV.int .u8 0, AV.int .u8 0, AV.int .u8 0, AV.int .u8 0, AV.int .u8 0, AV.int .u8 0, AV.int .u8 0, AV.int .u8 0, AV.int .u8 0, AV.int .u8 0, AV.int .u8 0, AV.int .u8 0, AV.int .u8 0, AV.int .u8 0, AV.int .u8 0, AV.int .u8 0, AV.int .u8 0, AV.int .i64 0, AV.str [], AV.nilsl] = [] := rfl
  have hN : validB ((min n 1073741824 : Nat) : Int) ((min i 1073741824 : Nat) : Int) g l = validB n i g l := by
    unfold validB; rw [decide_eq_decide]; omega
  cases hv : validB n i g l with
  | true =>
    obtain ⟨_, b1, _, b2, _, _⟩ := of_decide_eq_true hv
    have m1 : min n 1073741824 = n := by omega
    have m3 : min i 1073741824 = i := by omega
    simp only [m1] at s1
    simp only [m3] at s3
    have hV := fun σ => Valid_to σ n i r g l x (xr σ)
    rw [hv] at hV
    unfold sgC at hV
    cases t5 with
    | nil =>
      rw [if_pos ⟨rfl, rfl⟩]
      simp only [getV, ← hx]
      repeat' (first | refine SWp.seq ?_ | refine SWp.block ?_ | refine SWp.scope ?_ | refine SWp.condT rfl ?_ | refine SWp.condF rfl ?_ | (refine SWp.condD rfl (fun ht => ?_) (fun ht => ?_) <;> try (exfalso; omega)) | ((first | refine SWp.reg ?_ | refine SWp.skip ?_ | refine SWp.exit ?_ | refine SWp.ret ?_ | (apply callW.mk_pu; (first | exact (fun _ => h1 _) | exact (fun _ => h2 _) | exact (fun _ => h3 _) | exact (fun _ => h4 _) | exact (fun _ => h5 _) | exact (fun _ => s1 _) | exact (fun _ => s3 _) | exact (fun _ => hV _))) | (apply callW.any; (first | exact (h1 _) | exact (h2 _) | exact (h3 _) | exact (h4 _) | exact (h5 _) | exact (s1 _) | exact (s3 _) | exact (hV _))) | ((first | apply splitG | apply splitGB | apply splitR | apply splitRB | apply splitE | apply splitEB | apply splitC | apply splitCB) <;> intro ht)); all_goals try simp (disch := first | omega | (simp only [lens, hc_len, hr_len, List.length_reverse, byteEs_len, byteEsC_len, List.length_drop, sgC_len]; first | done | omega)) only [go_sem, Nat.reduceEqDiff, Nat.reduceBEq, Nat.reduceAdd, Nat.reduceMul, Nat.reduceSub, Nat.reduceLeDiff, Int.reduceToNat, Int.reducePow, xc, fx, d35, dl]))
      exact DownV.pure hw (rl_sg xl)
    | cons c t6 =>
      rw [if_neg (by rintro ⟨e, _⟩; cases e)]
      simp only [getV]
      have hbq : ((c :: t6) == ([] : List UInt8)) = false := rfl
      repeat' (first | refine SWp.seq ?_ | refine SWp.block ?_ | refine SWp.scope ?_ | refine SWp.condT rfl ?_ | refine SWp.condF rfl ?_ | (refine SWp.condD rfl (fun ht => ?_) (fun ht => ?_) <;> try (exfalso; omega)) | ((first | refine SWp.reg ?_ | refine SWp.skip ?_ | refine SWp.exit ?_ | refine SWp.ret ?_ | (apply callW.mk_pu; (first | exact (fun _ => h1 _) | exact (fun _ => h2 _) | exact (fun _ => h3 _) | exact (fun _ => h4 _) | exact (fun _ => h5 _) | exact (fun _ => s1 _) | exact (fun _ => s3 _) | exact (fun _ => hV _))) | (apply callW.any; (first | exact (h1 _) | exact (h2 _) | exact (h3 _) | exact (h4 _) | exact (h5 _) | exact (s1 _) | exact (s3 _) | exact (hV _))) | ((first | apply splitG | apply splitGB | apply splitR | apply splitRB | apply splitE | apply splitEB | apply splitC | apply splitCB) <;> intro ht)); all_goals try simp (disch := first | omega | (simp only [lens, hc_len, hr_len, List.length_reverse, byteEs_len, byteEsC_len, List.length_drop, sgC_len]; first | done | omega)) only [go_sem, Nat.reduceEqDiff, Nat.reduceBEq, Nat.reduceAdd, Nat.reduceMul, Nat.reduceSub, Nat.reduceLeDiff, Int.reduceToNat, Int.reducePow, xc, fx, d35, dl, hbq]))
      exact DownV.pure hw rl_sg0
  | false =>
    rw [if_neg (by rintro ⟨_, e⟩; cases e)]
    simp only [getV]
    have hV := fun σ => Valid_to σ ((min n 1073741824 : Nat) : Int) ((min i 1073741824 : Nat) : Int) r g l x (xr σ)
    rw [hN, hv] at hV
    unfold sgC at hV
    generalize ((min n 1073741824 : Nat) : Int) = N at *
    generalize ((min i 1073741824 : Nat) : Int) = I at *
    cases t5 with
    | nil =>
      repeat' (first | refine SWp.seq ?_ | refine SWp.block ?_ | refine SWp.scope ?_ | refine SWp.condT rfl ?_ | refine SWp.condF rfl ?_ | (refine SWp.condD rfl (fun ht => ?_) (fun ht => ?_) <;> try (exfalso; omega)) | ((first | refine SWp.reg ?_ | refine SWp.skip ?_ | refine SWp.exit ?_ | refine SWp.ret ?_ | (apply callW.mk_pu; (first | exact (fun _ => h1 _) | exact (fun _ => h2 _) | exact (fun _ => h3 _) | exact (fun _ => h4 _) | exact (fun _ => h5 _) | exact (fun _ => s1 _) | exact (fun _ => s3 _) | exact (fun _ => hV _))) | (apply callW.any; (first | exact (h1 _) | exact (h2 _) | exact (h3 _) | exact (h4 _) | exact (h5 _) | exact (s1 _) | exact (s3 _) | exact (hV _))) | ((first | apply splitG | apply splitGB | apply splitR | apply splitRB | apply splitE | apply splitEB | apply splitC | apply splitCB) <;> intro ht)); all_goals try simp (disch := first | omega | (simp only [lens, hc_len, hr_len, List.length_reverse, byteEs_len, byteEsC_len, List.length_drop, sgC_len]; first | done | omega)) only [go_sem, Nat.reduceEqDiff, Nat.reduceBEq, Nat.reduceAdd, Nat.reduceMul, Nat.reduceSub, Nat.reduceLeDiff, Int.reduceToNat, Int.reducePow, xc, fx, d35, dl]))
      exact DownV.pure hw rl_sg0
    | cons c t6 =>
      have hbq : ((c :: t6) == ([] : List UInt8)) = false := rfl
      repeat' (first | refine SWp.seq ?_ | refine SWp.block ?_ | refine SWp.scope ?_ | refine SWp.condT rfl ?_ | refine SWp.condF rfl ?_ | (refine SWp.condD rfl (fun ht => ?_) (fun ht => ?_) <;> try (exfalso; omega)) | ((first | refine SWp.reg ?_ | refine SWp.skip ?_ | refine SWp.exit ?_ | refine SWp.ret ?_ | (apply callW.mk_pu; (first | exact (fun _ => h1 _) | exact (fun _ => h2 _) | exact (fun _ => h3 _) | exact (fun _ => h4 _) | exact (fun _ => h5 _) | exact (fun _ => s1 _) | exact (fun _ => s3 _) | exact (fun _ => hV _))) | (apply callW.any; (first | exact (h1 _) | exact (h2 _) | exact (h3 _) | exact (h4 _) | exact (h5 _) | exact (s1 _) | exact (s3 _) | exact (hV _))) | ((first | apply splitG | apply splitGB | apply splitR | apply splitRB | apply splitE | apply splitEB | apply splitC | apply splitCB) <;> intro ht)); all_goals try simp (disch := first | omega | (simp only [lens, hc_len, hr_len, List.length_reverse, byteEs_len, byteEsC_len, List.length_drop, sgC_len]; first | done | omega)) only [go_sem, Nat.reduceEqDiff, Nat.reduceBEq, Nat.reduceAdd, Nat.reduceMul, Nat.reduceSub, Nat.reduceLeDiff, Int.reduceToNat, Int.reducePow, xc, fx, d35, dl, hbq]))
      exact DownV.pure hw rl_sg0
end Am
end Go.Proofs.YthgcooppjhcgcaaDoor
end
section
set_option linter.unusedSimpArgs false
set_option linter.unusedVariables false
/- Heads: contracts: the program's bytes. -/
namespace Go.Proofs.YthgcooppjhcgcaaDoor
namespace Am
attribute [local irreducible] ACallsTo ACallsP
set_option maxHeartbeats 8000000 in
theorem Put_to (σ : Store) (n i : Int) (r : Hash) (s : List UInt8) (l : List Hash) (x : AV) (hx : RdSl σ 32 (hr l) x) : ACallsTo TC 37 [.agg (sgC n r i s x)] σ (putV n i r s l) σ := by
  have hV := Valid_to (σ ++ [some [sgC n r i s x]]) n i r s l x hx.app
  refine ACallsTo.of_body heads_Put_ok (by simp) fun hw _ => ?_
  unfold putV
  cases hv : validB n i s l with
  | false =>
    rw [hv] at hV
    rw [if_neg (by decide)]
    repeat' (first | refine SWp.seq ?_ | refine SWp.block ?_ | refine SWp.scope ?_ | refine SWp.condT rfl ?_ | refine SWp.condF rfl ?_ | (refine SWp.condD rfl (fun ht => ?_) (fun ht => ?_) <;> try (exfalso; omega)) | ((first | refine SWp.reg ?_ | refine SWp.skip ?_ | refine SWp.exit ?_ | refine SWp.ret ?_ | (apply callW.mk_pu; (first | exact (fun _ => hV))) | (apply callW.any; (first | exact (hV))) | ((first | apply splitG | apply splitGB | apply splitR | apply splitRB | apply splitE | apply splitEB | apply splitC | apply splitCB) <;> intro ht)); all_goals try simp (disch := first | omega | (simp only [lens, hc_len, hr_len, List.length_reverse, byteEs_len, byteEsC_len, List.length_drop, sgC_len]; first | done | omega)) only [go_sem, Nat.reduceEqDiff, Nat.reduceBEq, Nat.reduceAdd, Nat.reduceMul, Nat.reduceSub, Nat.reduceLeDiff, Int.reduceToNat, Int.reducePow]))
    exact DownV.pure hw rl_si
  | true =>
    rw [hv] at hV
    rw [if_pos rfl]
    obtain ⟨N, I, rfl, rfl, h1, h2, h3, h4⟩ := valid_of hv
    have hN := fun σ => codec_Num_to σ N (by omega)
    have hI := fun σ => codec_Num_to σ I (by omega)
    have hH := fun σ => codec_Hash_to σ r.1 r.2
    have hT := fun σ => codec_Text_to σ s (by omega)
    have hL := codec_Hashes_to (σ ++ [some [sgC N r I s x]]) l x hx.app (by omega)
    have l1 := numS_le N
    have l2 := numS_le I
    have l3 := r.2
    have l4 : (textS s).length ≤ 11 + 16384 := by have := numS_le s.length; rw [textS, List.length_append]; omega
    have l5 := hashesS_len (l := l)
    have hcr : hc r = byteEsC r.1 := rfl
    rw [Int.toNat_natCast, Int.toNat_natCast]
    unfold putH
    generalize numS N = sN at *
    generalize numS I = sI at *
    generalize textS s = sT at *
    generalize hashesS l = sH at *
    repeat' (first | refine SWp.seq ?_ | refine SWp.block ?_ | refine SWp.scope ?_ | refine SWp.condT rfl ?_ | refine SWp.condF rfl ?_ | (refine SWp.condD rfl (fun ht => ?_) (fun ht => ?_) <;> try (exfalso; omega)) | ((first | refine SWp.reg ?_ | refine SWp.skip ?_ | refine SWp.exit ?_ | refine SWp.ret ?_ | (apply callW.mk_pu; (first | exact (fun _ => hV) | exact (fun _ => hN _) | exact (fun _ => hI _) | exact (fun _ => hH _) | exact (fun _ => hT _) | exact (fun _ => hL))) | (apply callW.any; (first | exact (hV) | exact (hN _) | exact (hI _) | exact (hH _) | exact (hT _) | exact (hL))) | ((first | apply splitG | apply splitGB | apply splitR | apply splitRB | apply splitE | apply splitEB | apply splitC | apply splitCB) <;> intro ht)); all_goals try simp (disch := first | omega | (simp only [lens, hc_len, hr_len, List.length_reverse, byteEs_len, byteEsC_len, List.length_drop, sgC_len]; first | done | omega)) only [go_sem, Nat.reduceEqDiff, Nat.reduceBEq, Nat.reduceAdd, Nat.reduceMul, Nat.reduceSub, Nat.reduceLeDiff, Int.reduceToNat, Int.reducePow, hcr]))
    exact DownV.pure hw rl_si
end Am
end Go.Proofs.YthgcooppjhcgcaaDoor
end
section
set_option linter.unusedSimpArgs false
set_option linter.unusedVariables false
/- Heads: the chapter's example. -/
namespace Go.Proofs.YthgcooppjhcgcaaDoor
namespace Am
attribute [local irreducible] ACallsTo ACallsP
def oneH : Hash := ⟨1 :: List.replicate 31 0, by simp⟩
set_option maxHeartbeats 16000000 in
set_option maxRecDepth 20000 in
theorem headed_to (σ : Store) : ACallsTo TC 31 [] σ (.bool true) σ := by
  have hz : hc zeroH = [.int .u8 0, .int .u8 0, .int .u8 0, .int .u8 0, .int .u8 0, .int .u8 0, .int .u8 0, .int .u8 0, .int .u8 0, .int .u8 0, .int .u8 0, .int .u8 0, .int .u8 0, .int .u8 0, .int .u8 0, .int .u8 0, .int .u8 0, .int .u8 0, .int .u8 0, .int .u8 0, .int .u8 0, .int .u8 0, .int .u8 0, .int .u8 0, .int .u8 0, .int .u8 0, .int .u8 0, .int .u8 0, .int .u8 0, .int .u8 0, .int .u8 0, .int .u8 0] := rfl
  have ho : hc oneH = [.int .u8 1, .int .u8 0, .int .u8 0, .int .u8 0, .int .u8 0, .int .u8 0, .int .u8 0, .int .u8 0, .int .u8 0, .int .u8 0, .int .u8 0, .int .u8 0, .int .u8 0, .int .u8 0, .int .u8 0, .int .u8 0, .int .u8 0, .int .u8 0, .int .u8 0, .int .u8 0, .int .u8 0, .int .u8 0, .int .u8 0, .int .u8 0, .int .u8 0, .int .u8 0, .int .u8 0, .int .u8 0, .int .u8 0, .int .u8 0, .int .u8 0, .int .u8 0] := rfl
  have hne : ¬ zeroH = oneH := by decide
  have nl : ∀ σ, RdSl σ 32 (hr []) .nilsl := fun σ => .of (.inl ⟨rfl, rfl⟩)
  have hO1 := fun σ => Order_to σ 3 4 zeroH zeroH
  have hO2 := fun σ => Order_to σ 4 4 zeroH oneH
  have hO3 := fun σ => Order_to σ 4 4 zeroH zeroH
  have hO4 := fun σ => Order_to σ 4 3 zeroH zeroH
  have hP := fun σ => Put_not σ 3 0 zeroH [] [] .nilsl (nl σ) (by decide)
  have hC := fun σ => Check_not σ zeroH 3 0 zeroH [] [] .nilsl (nl σ) (by decide)
  have hG := fun σ => Get_to σ [] (by simp)
  rw [show ordV 3 4 zeroH zeroH = 0 from rfl] at hO1
  rw [show ordV 4 4 zeroH oneH = 3 by unfold ordV; simp [hne]] at hO2
  rw [show ordV 4 4 zeroH zeroH = 1 by unfold ordV; simp] at hO3
  rw [show ordV 4 3 zeroH zeroH = 2 from rfl] at hO4
  rw [show getV (getH []) = .tup [.agg (sgC 0 zeroH 0 [] .nilsl), .int .i64 10] from rfl] at hG
  simp only [sgC, hz, ho, List.cons_append, List.nil_append] at hO1 hO2 hO3 hO4 hP hC hG
  refine ACallsTo.of_body speculumlaw10_headed_ok (by simp) fun hw _ => ?_
  repeat' (first | refine SWp.seq ?_ | refine SWp.block ?_ | refine SWp.scope ?_ | refine SWp.condT rfl ?_ | refine SWp.condF rfl ?_ | (refine SWp.condD rfl (fun ht => ?_) (fun ht => ?_) <;> try (exfalso; omega)) | ((first | refine SWp.reg ?_ | refine SWp.skip ?_ | refine SWp.exit ?_ | refine SWp.ret ?_ | (apply callW.mk_pu; (first | exact (fun _ => hO1 _) | exact (fun _ => hO2 _) | exact (fun _ => hO3 _) | exact (fun _ => hO4 _) | exact (fun _ => hP _) | exact (fun _ => hC _) | exact (fun _ => hG _))) | (apply callW.any; (first | exact (hO1 _) | exact (hO2 _) | exact (hO3 _) | exact (hO4 _) | exact (hP _) | exact (hC _) | exact (hG _))) | ((first | apply splitG | apply splitGB | apply splitR | apply splitRB | apply splitE | apply splitEB | apply splitC | apply splitCB) <;> intro ht)); all_goals try simp (disch := first | omega | (simp only [lens, hc_len, hr_len, List.length_reverse, byteEs_len, byteEsC_len, List.length_drop, sgC_len]; first | done | omega)) only [go_sem, Nat.reduceEqDiff, Nat.reduceBEq, Nat.reduceAdd, Nat.reduceMul, Nat.reduceSub, Nat.reduceLeDiff, Int.reduceToNat, Int.reducePow]))
  exact DownV.pure hw (rlB_ok _ rfl)
end Am
end Go.Proofs.YthgcooppjhcgcaaDoor
end
section
set_option linter.unusedSimpArgs false
set_option linter.unusedVariables false
/- Heads: HeadsBack. -/
namespace Go.Proofs.YthgcooppjhcgcaaDoor
namespace Am
attribute [local irreducible] ACallsTo ACallsP
theorem sg0_eq : ([.int .i64 0, .int .u8 0, .int .u8 0, .int .u8 0, .int .u8 0, .int .u8 0, .int .u8 0, .int .u8 0, .int .u8 0, .int .u8 0, .int .u8 0, .int .u8 0, .int .u8 0, .int .u8 0, .int .u8 0, .int .u8 0, .int .u8 0, .int .u8 0, .int .u8 0, .int .u8 0, .int .u8 0, .int .u8 0, .int .u8 0, .int .u8 0, .int .u8 0, .int .u8 0, .int .u8 0, .int .u8 0, .int .u8 0, .int .u8 0, .int .u8 0, .int .u8 0, .int .u8 0, .int .i64 0, .str [], .nilsl] : List AV) = sgC 0 zeroH 0 [] .nilsl := rfl
theorem sgC_d36 (n : Int) (r : Hash) (i : Int) (s : List UInt8) (x : AV) : (sgC n r i s x).drop 36 = [] := List.drop_of_length_le (by rw [sgC_len]; decide)
theorem putH_long (n : Nat) (r : Hash) (i : Nat) (s : List UInt8) (l : List Hash) : s.length < (putH n r i s l).length ∧ (putH n r i s l).length ≤ 90 + s.length + 32 * l.length := by
  unfold putH textS
  have := numS_le n
  have := numS_le i
  have := numS_le s.length
  have := r.2
  have := hashesS_len (l := l)
  simp only [List.length_append]
  omega
set_option maxHeartbeats 32000000 in
set_option maxRecDepth 20000 in
theorem HeadsBack_to (n i m : Int) (r : Hash) (s b : List UInt8) (l : List Hash) (x : AV) (c : Int) (hx : SlV 32 (hr l) x) (hm : -128 ≤ m ∧ m ≤ 127) (hc0 : 0 ≤ c ∧ c ≤ 65535) :
    ACallsTo TC 6 [.agg (rgC n r i s m x), .str b, .int .u16 c] [] (.bool true) [] := by
  have hGr := fun σ => HGreat_to σ n i m r s l x (.of hx)
  refine ACallsTo.of_body speculumlaw10_HeadsBack_ok (by simp) fun hw _ => ?_
  by_cases hg : 300 < s.length ∨ 40 < l.length
  · rw [decide_eq_true hg] at hGr
    repeat' (first | refine SWp.seq ?_ | refine SWp.block ?_ | refine SWp.scope ?_ | refine SWp.condT rfl ?_ | refine SWp.condF rfl ?_ | (refine SWp.condD rfl (fun ht => ?_) (fun ht => ?_) <;> try (exfalso; omega)) | ((first | refine SWp.reg ?_ | refine SWp.skip ?_ | refine SWp.exit ?_ | refine SWp.ret ?_ | (apply callW.mk_pu; (first | exact (fun _ => hGr _) | exact (fun _ => headed_to _))) | (apply callW.any; (first | exact (hGr _) | exact (headed_to _))) | ((first | apply splitG | apply splitGB | apply splitR | apply splitRB | apply splitE | apply splitEB | apply splitC | apply splitCB) <;> intro ht)); all_goals try simp (disch := first | omega | (simp only [lens, hc_len, hr_len, List.length_reverse, byteEs_len, byteEsC_len, List.length_drop, sgC_len, rgC_len]; first | done | omega)) only [go_sem, Nat.reduceEqDiff, Nat.reduceBEq, Nat.reduceAdd, Nat.reduceMul, Nat.reduceSub, Nat.reduceLeDiff, Int.reduceToNat, Int.reducePow]))
    exact DownV.pure (τ := []) hw (rlB_ok _ rfl)
  rw [decide_eq_false hg] at hGr
  by_cases hb : (b.length : Int) > 50
  · repeat' (first | refine SWp.seq ?_ | refine SWp.block ?_ | refine SWp.scope ?_ | refine SWp.condT rfl ?_ | refine SWp.condF rfl ?_ | (refine SWp.condD rfl (fun ht => ?_) (fun ht => ?_) <;> try (exfalso; omega)) | ((first | refine SWp.reg ?_ | refine SWp.skip ?_ | refine SWp.exit ?_ | refine SWp.ret ?_ | (apply callW.mk_pu; (first | exact (fun _ => hGr _) | exact (fun _ => headed_to _))) | (apply callW.any; (first | exact (hGr _) | exact (headed_to _))) | ((first | apply splitG | apply splitGB | apply splitR | apply splitRB | apply splitE | apply splitEB | apply splitC | apply splitCB) <;> intro ht)); all_goals try simp (disch := first | omega | (simp only [lens, hc_len, hr_len, List.length_reverse, byteEs_len, byteEsC_len, List.length_drop, sgC_len, rgC_len]; first | done | omega)) only [go_sem, Nat.reduceEqDiff, Nat.reduceBEq, Nat.reduceAdd, Nat.reduceMul, Nat.reduceSub, Nat.reduceLeDiff, Int.reduceToNat, Int.reducePow, hb]))
    exact DownV.pure (τ := []) hw (rlB_ok _ rfl)
  have hS := fun σ => Signed_to σ n i m r s l x hx hm (by omega)
  generalize sigS s (16384 + m).toNat = G at *
  have hV := fun σ => Valid_to σ n i r G l x (.of hx)
  have hP := fun σ => Put_to σ n i r G l x (.of hx)
  unfold putV at hP
  cases hv : validB n i G l with
  | false =>
    rw [hv] at hV hP
    rw [if_neg (by simp)] at hP
    repeat' (first | refine SWp.seq ?_ | refine SWp.block ?_ | refine SWp.scope ?_ | refine SWp.condT rfl ?_ | refine SWp.condF rfl ?_ | (refine SWp.condD rfl (fun ht => ?_) (fun ht => ?_) <;> try (exfalso; omega)) | ((first | refine SWp.reg ?_ | refine SWp.skip ?_ | refine SWp.exit ?_ | refine SWp.ret ?_ | (apply callW.mk_pu; (first | exact (fun _ => hGr _) | exact (fun _ => hS _) | exact (fun _ => hV _) | exact (fun _ => hP _) | exact (fun _ => headed_to _))) | (apply callW.any; (first | exact (hGr _) | exact (hS _) | exact (hV _) | exact (hP _) | exact (headed_to _))) | ((first | apply splitG | apply splitGB | apply splitR | apply splitRB | apply splitE | apply splitEB | apply splitC | apply splitCB) <;> intro ht)); all_goals try simp (disch := first | omega | (simp only [lens, hc_len, hr_len, List.length_reverse, byteEs_len, byteEsC_len, List.length_drop, sgC_len, rgC_len]; first | done | omega)) only [go_sem, Nat.reduceEqDiff, Nat.reduceBEq, Nat.reduceAdd, Nat.reduceMul, Nat.reduceSub, Nat.reduceLeDiff, Int.reduceToNat, Int.reducePow, hb]))
    exact DownV.pure (τ := []) hw (rlB_ok _ rfl)
  | true =>
    rw [hv] at hV hP
    rw [if_pos rfl] at hP
    obtain ⟨N, I, rfl, rfl, v1, v2, v3, v4⟩ := valid_of hv
    simp only [Int.toNat_natCast] at hP
    have hget := fun t => getH_put (h := ⟨N, r, I, G, l⟩) hv t
    have hcut := fun k (hk : k < (putH N r I G l).length) => getH_cut (h := ⟨N, r, I, G, l⟩) hv hk
    obtain ⟨p1, p2⟩ := putH_long N r I G l
    simp only at hget hcut
    generalize putH N r I G l = T at *
    have hG1 := fun σ => Get_to σ T (by omega)
    have e1 := hget []
    rw [List.append_nil, if_pos rfl] at e1
    rw [e1] at hG1
    simp only [getV] at hG1
    have hT0 : (T.length : Int) ≠ 0 := by omega
    have hT1 : ¬ (T.length : Int) ≤ 16384 := by omega
    have hkl : (c % (T.length : Int)).toNat < T.length := by
      have h1 := Int.emod_nonneg c hT0
      have h2 := Int.emod_lt_of_pos c (b := (T.length : Int)) (by omega)
      omega
    have hk0 : 0 ≤ c % (T.length : Int) ∧ c % (T.length : Int) ≤ T.length := ⟨Int.emod_nonneg c hT0, by omega⟩
    have hG2 := fun σ => Get_to σ (T.take (c % (T.length : Int)).toNat) (by rw [List.length_take]; omega)
    rw [hcut _ hkl] at hG2
    simp only [getV] at hG2
    have hs1 := fun σ => headSame_to σ N N I I r r G G l l (slVal 32 (hr l)) x slVal_r (.of hx) (by omega) (by omega)
    simp only [and_self, decide_true] at hs1
    have nl : ∀ σ, RdSl σ 32 (hr []) .nilsl := fun σ => .of (.inl ⟨rfl, rfl⟩)
    have hs2 := fun σ => headSame_to σ 0 0 0 0 zeroH zeroH [] [] [] [] .nilsl .nilsl (nl σ) (nl σ) (by decide) (by decide)
    simp only [and_self, decide_true] at hs2
    have hs3 := fun σ => headSame_to σ 0 N 0 I zeroH r [] G [] l .nilsl x (nl σ) (.of hx) (by decide) (by omega)
    have hGn : ¬ ([] : List UInt8) = G := by rintro rfl; simp at v3
    rw [decide_eq_false (fun e => hGn e.2.2.1)] at hs3
    have xs := slVal_cells (sz := 32) (es := hr l)
    generalize hz : slVal 32 (hr l) = z at *
    by_cases hb0 : b = []
    · subst hb0
      repeat' (first | refine SWp.seq ?_ | refine SWp.block ?_ | refine SWp.scope ?_ | refine SWp.condT rfl ?_ | refine SWp.condF rfl ?_ | (refine SWp.condD rfl (fun ht => ?_) (fun ht => ?_) <;> try (exfalso; omega)) | ((first | refine SWp.reg ?_ | refine SWp.skip ?_ | refine SWp.exit ?_ | refine SWp.ret ?_ | (apply callW.mk_pu; (first | exact (fun _ => hGr _) | exact (fun _ => hS _) | exact (fun _ => hV _) | exact (fun _ => hP _) | exact (fun _ => hG1 _) | exact (fun _ => hG2 _) | exact (fun _ => hs1 _) | exact (fun _ => hs2 _) | exact (fun _ => headed_to _))) | (apply callW.any; (first | exact (hGr _) | exact (hS _) | exact (hV _) | exact (hP _) | exact (hG1 _) | exact (hG2 _) | exact (hs1 _) | exact (hs2 _) | exact (headed_to _))) | ((first | apply splitG | apply splitGB | apply splitR | apply splitRB | apply splitE | apply splitEB | apply splitC | apply splitCB) <;> intro ht)); all_goals try simp (disch := first | omega | (simp only [lens, hc_len, hr_len, List.length_reverse, byteEs_len, byteEsC_len, List.length_drop, sgC_len, rgC_len]; first | done | omega)) only [go_sem, Nat.reduceEqDiff, Nat.reduceBEq, Nat.reduceAdd, Nat.reduceMul, Nat.reduceSub, Nat.reduceLeDiff, Int.reduceToNat, Int.reducePow, hb, hT0, hT1, hk0, sg0_eq, sgC_d36, List.append_nil]))
      exact DownV.pure (τ := []) hw (rlB_ok _ rfl)
    · have e2 := hget b
      rw [if_neg hb0] at e2
      have hG3 := fun σ => Get_to σ (T ++ b) (by simp at hb ⊢; omega)
      rw [e2] at hG3
      simp only [getV] at hG3
      have hbq : (b == ([] : List UInt8)) = false := by simpa using hb0
      repeat' (first | refine SWp.seq ?_ | refine SWp.block ?_ | refine SWp.scope ?_ | refine SWp.condT rfl ?_ | refine SWp.condF rfl ?_ | (refine SWp.condD rfl (fun ht => ?_) (fun ht => ?_) <;> try (exfalso; omega)) | ((first | refine SWp.reg ?_ | refine SWp.skip ?_ | refine SWp.exit ?_ | refine SWp.ret ?_ | (apply callW.mk_pu; (first | exact (fun _ => hGr _) | exact (fun _ => hS _) | exact (fun _ => hV _) | exact (fun _ => hP _) | exact (fun _ => hG1 _) | exact (fun _ => hG2 _) | exact (fun _ => hG3 _) | exact (fun _ => hs1 _) | exact (fun _ => hs2 _) | exact (fun _ => hs3 _) | exact (fun _ => headed_to _))) | (apply callW.any; (first | exact (hGr _) | exact (hS _) | exact (hV _) | exact (hP _) | exact (hG1 _) | exact (hG2 _) | exact (hG3 _) | exact (hs1 _) | exact (hs2 _) | exact (hs3 _) | exact (headed_to _))) | ((first | apply splitG | apply splitGB | apply splitR | apply splitRB | apply splitE | apply splitEB | apply splitC | apply splitCB) <;> intro ht)); all_goals try simp (disch := first | omega | (simp only [lens, hc_len, hr_len, List.length_reverse, byteEs_len, byteEsC_len, List.length_drop, sgC_len, rgC_len]; first | done | omega)) only [go_sem, Nat.reduceEqDiff, Nat.reduceBEq, Nat.reduceAdd, Nat.reduceMul, Nat.reduceSub, Nat.reduceLeDiff, Int.reduceToNat, Int.reducePow, hb, hT0, hT1, hk0, sg0_eq, sgC_d36, List.append_nil, hbq]))
      exact DownV.pure (τ := []) hw (rlB_ok _ rfl)
end Am
end Go.Proofs.YthgcooppjhcgcaaDoor
end
section
set_option linter.unusedSimpArgs false
set_option linter.unusedVariables false
/- Heads: HeadsGet; the two laws. -/
namespace Go.Proofs.YthgcooppjhcgcaaDoor
namespace Am
attribute [local irreducible] ACallsTo ACallsP
theorem getV_sh (s : List UInt8) : ∃ (n i : Int) (r : Hash) (g : List UInt8) (l : List Hash) (z : AV) (e : Int), getV (getH s) = .tup [.agg (sgC n r i g z), .int .i64 e] ∧ SlV 32 (hr l) z ∧ l.length < 1000000 := by
  cases h : getH s with
  | none => exact ⟨0, 0, zeroH, [], [], .nilsl, 10, rfl, .inl ⟨rfl, rfl⟩, by decide⟩
  | some x =>
    obtain ⟨_, hv⟩ := getH_sound h
    obtain ⟨_, _, _, _, _, _, _, h6⟩ := valid_of hv
    exact ⟨x.n, x.i, x.r, x.g, x.l, slVal 32 (hr x.l), 0, rfl, slVal_is _ _, by omega⟩
def strs (L : List (List UInt8)) : List (List AV) := L.map fun s => [.str s]
theorem strs_len (L : List (List UInt8)) : (strs L).length = L.length := by simp [strs]
theorem strs_get {L : List (List UInt8)} {i : Nat} (h : i < L.length) : (strs L)[i]? = some [.str (L.getD i [])] := by
  simp [strs, List.getElem?_map, List.getElem?_eq_getElem h]
set_option maxHeartbeats 32000000 in
theorem HeadsGet_tail (ρ : Env) (σ : Store) (v : AV) (L : List (List UInt8)) (h9 : ρ 9 = v) (hv : RdSl σ 1 (strs L) v) (hL : ∀ s ∈ L, s.length < 1000000) (hLl : L.length ≤ 100) :
    SWp TC 106 0 speculumlaw10_HeadsGet_c44 (endQ 0 [.t 6] (.bool true) []) ρ σ := by
  have hw : Wf ([] : Store).length [] := fun r o h => by simp at h
  repeat' (first | refine SWp.seq ?_ | refine SWp.block ?_ | refine SWp.scope ?_ | refine SWp.condT rfl ?_ | refine SWp.condF rfl ?_ | (refine SWp.condD rfl (fun ht => ?_) (fun ht => ?_) <;> try (exfalso; omega)) | ((first | refine SWp.reg ?_ | refine SWp.skip ?_ | refine SWp.exit ?_ | refine SWp.ret ?_ | ((first | apply splitG | apply splitGB | apply splitR | apply splitRB | apply splitE | apply splitEB | apply splitC | apply splitCB) <;> intro ht)); all_goals try simp (disch := first | omega | (simp only [lens, hc_len, hr_len, List.length_reverse, byteEs_len, byteEsC_len, List.length_drop, sgC_len, rgC_len, List.length_map]; first | done | omega)) only [go_sem, Nat.reduceEqDiff, Nat.reduceBEq, Nat.reduceAdd, Nat.reduceMul, Nat.reduceSub, Nat.reduceLeDiff, Int.reduceToNat, Int.reducePow, h9]))
  refine SWp.loop (fun m ρ σ' => ∃ i : Nat, m + i = L.length ∧ ρ 9 = v ∧ RdSl σ' 1 (strs L) v ∧ ρ 12 = .int .i64 i) L.length ?_ ?_
  · exact ⟨0, by omega, by simp (disch := first | omega | (simp only [lens, hc_len, hr_len, List.length_reverse, byteEs_len, byteEsC_len, List.length_drop, sgC_len, rgC_len, List.length_map]; first | done | omega)) only [go_sem, Nat.reduceEqDiff, Nat.reduceBEq, Nat.reduceAdd, Nat.reduceMul, Nat.reduceSub, Nat.reduceLeDiff, Int.reduceToNat, Int.reducePow, h9], hv, by simp (disch := first | omega | (simp only [lens, hc_len, hr_len, List.length_reverse, byteEs_len, byteEsC_len, List.length_drop, sgC_len, rgC_len, List.length_map]; first | done | omega)) only [go_sem, Nat.reduceEqDiff, Nat.reduceBEq, Nat.reduceAdd, Nat.reduceMul, Nat.reduceSub, Nat.reduceLeDiff, Int.reduceToNat, Int.reducePow]; rfl⟩
  · clear h9 hv
    rintro m ρ σ' ⟨i, hm, q9, hv, q12⟩
    have r1 := hv.len
    rw [strs_len] at r1
    unfold rLenSl at r1
    by_cases hi : i < L.length
    · have hg := strs_get hi
      have hsl : (L.getD i []).length < 1000000 := by
        rw [List.getD_eq_getElem?_getD, List.getElem?_eq_getElem hi]; exact hL _ (List.getElem_mem hi)
      have h1 := fun σ => Get_to σ (L.getD i []) (by omega)
      have h2 := fun σ => refGet_to σ (L.getD i []) (by omega)
      simp only [getR_eq] at h2
      obtain ⟨n, j, r, g, l, z, e, e1, e2, e3⟩ := getV_sh (L.getD i [])
      simp only [e1] at h1 h2
      have zc := slv_cells e2
      have hs := fun σ => headSame_to σ n n j j r r g g l l z z (.of e2) (.of e2) e3 e3
      simp only [and_self, decide_true] at hs
      generalize L.getD i [] = s at *
      have hll := strs_len L
      rcases hv with (⟨rfl, hn⟩ | ⟨ex, rfl⟩) | ⟨q, off, lim, o, rfl, ho, hlo, hoe⟩
      · rw [hn] at hg; simp at hg
      · repeat' (first | refine SWp.seq ?_ | refine SWp.block ?_ | refine SWp.scope ?_ | refine SWp.condT rfl ?_ | refine SWp.condF rfl ?_ | (refine SWp.condD rfl (fun ht => ?_) (fun ht => ?_) <;> try (exfalso; omega)) | ((first | refine SWp.reg ?_ | refine SWp.skip ?_ | refine SWp.exit ?_ | refine SWp.ret ?_ | (apply callW.mk_pu; (first | exact (fun _ => h1 _) | exact (fun _ => h2 _) | exact (fun _ => hs _))) | (apply callW.any; (first | exact (h1 _) | exact (h2 _) | exact (hs _))) | ((first | apply splitG | apply splitGB | apply splitR | apply splitRB | apply splitE | apply splitEB | apply splitC | apply splitCB) <;> intro ht)); all_goals try simp (disch := first | omega | (simp only [lens, hc_len, hr_len, List.length_reverse, byteEs_len, byteEsC_len, List.length_drop, sgC_len, rgC_len, List.length_map]; first | done | omega)) only [go_sem, Nat.reduceEqDiff, Nat.reduceBEq, Nat.reduceAdd, Nat.reduceMul, Nat.reduceSub, Nat.reduceLeDiff, Int.reduceToNat, Int.reducePow, q9, q12, r1, hg, hll, sg0_eq, sgC_d36, List.append_nil, bne_self_eq_false]))
        exact ⟨L.length - (i + 1), by omega, i + 1, by omega, .inl (.inr ⟨ex, rfl⟩), by simp⟩
      · have hgo : o[off + i]? = some [.str s] := by
          rw [← hoe, List.getElem?_take, if_pos (by rw [hll]; omega), List.getElem?_drop] at hg
          exact hg
        have hq := slen ho
        have hzo : ((off : Int) + i).toNat = off + i := by omega
        repeat' (first | refine SWp.seq ?_ | refine SWp.block ?_ | refine SWp.scope ?_ | refine SWp.condT rfl ?_ | refine SWp.condF rfl ?_ | (refine SWp.condD rfl (fun ht => ?_) (fun ht => ?_) <;> try (exfalso; omega)) | ((first | refine SWp.reg ?_ | refine SWp.skip ?_ | refine SWp.exit ?_ | refine SWp.ret ?_ | (apply callW.mk_pu; (first | exact (fun _ => h1 _) | exact (fun _ => h2 _) | exact (fun _ => hs _))) | (apply callW.any; (first | exact (h1 _) | exact (h2 _) | exact (hs _))) | ((first | apply splitG | apply splitGB | apply splitR | apply splitRB | apply splitE | apply splitEB | apply splitC | apply splitCB) <;> intro ht)); all_goals try simp (disch := first | omega | (simp only [lens, hc_len, hr_len, List.length_reverse, byteEs_len, byteEsC_len, List.length_drop, sgC_len, rgC_len, List.length_map]; first | done | omega)) only [go_sem, Nat.reduceEqDiff, Nat.reduceBEq, Nat.reduceAdd, Nat.reduceMul, Nat.reduceSub, Nat.reduceLeDiff, Int.reduceToNat, Int.reducePow, q9, q12, r1, hgo, ho, hq, hll, sg0_eq, sgC_d36, List.append_nil, bne_self_eq_false]))
        refine ⟨L.length - (i + 1), by omega, i + 1, by omega, .inr ⟨q, off, lim, o, by rw [hll], ?_, hlo, hoe⟩, by simp⟩
        rw [List.getElem?_append_left (by omega)]; exact ho
    · rcases hv with (⟨rfl, hn⟩ | ⟨ex, rfl⟩) | ⟨q, off, lim, o, rfl, ho, hlo, hoe⟩
      · repeat' (first | refine SWp.seq ?_ | refine SWp.block ?_ | refine SWp.scope ?_ | refine SWp.condT rfl ?_ | refine SWp.condF rfl ?_ | (refine SWp.condD rfl (fun ht => ?_) (fun ht => ?_) <;> try (exfalso; omega)) | ((first | refine SWp.reg ?_ | refine SWp.skip ?_ | refine SWp.exit ?_ | refine SWp.ret ?_ | (apply callW.mk_pu; (first | exact (fun _ => headed_to _))) | (apply callW.any; (first | exact (headed_to _))) | ((first | apply splitG | apply splitGB | apply splitR | apply splitRB | apply splitE | apply splitEB | apply splitC | apply splitCB) <;> intro ht)); all_goals try simp (disch := first | omega | (simp only [lens, hc_len, hr_len, List.length_reverse, byteEs_len, byteEsC_len, List.length_drop, sgC_len, rgC_len, List.length_map]; first | done | omega)) only [go_sem, Nat.reduceEqDiff, Nat.reduceBEq, Nat.reduceAdd, Nat.reduceMul, Nat.reduceSub, Nat.reduceLeDiff, Int.reduceToNat, Int.reducePow, q9, q12, r1]))
        exact DownV.pure (τ := []) hw (rlB_ok _ rfl)
      · repeat' (first | refine SWp.seq ?_ | refine SWp.block ?_ | refine SWp.scope ?_ | refine SWp.condT rfl ?_ | refine SWp.condF rfl ?_ | (refine SWp.condD rfl (fun ht => ?_) (fun ht => ?_) <;> try (exfalso; omega)) | ((first | refine SWp.reg ?_ | refine SWp.skip ?_ | refine SWp.exit ?_ | refine SWp.ret ?_ | (apply callW.mk_pu; (first | exact (fun _ => headed_to _))) | (apply callW.any; (first | exact (headed_to _))) | ((first | apply splitG | apply splitGB | apply splitR | apply splitRB | apply splitE | apply splitEB | apply splitC | apply splitCB) <;> intro ht)); all_goals try simp (disch := first | omega | (simp only [lens, hc_len, hr_len, List.length_reverse, byteEs_len, byteEsC_len, List.length_drop, sgC_len, rgC_len, List.length_map]; first | done | omega)) only [go_sem, Nat.reduceEqDiff, Nat.reduceBEq, Nat.reduceAdd, Nat.reduceMul, Nat.reduceSub, Nat.reduceLeDiff, Int.reduceToNat, Int.reducePow, q9, q12, r1]))
        exact DownV.pure (τ := []) hw (rlB_ok _ rfl)
      · repeat' (first | refine SWp.seq ?_ | refine SWp.block ?_ | refine SWp.scope ?_ | refine SWp.condT rfl ?_ | refine SWp.condF rfl ?_ | (refine SWp.condD rfl (fun ht => ?_) (fun ht => ?_) <;> try (exfalso; omega)) | ((first | refine SWp.reg ?_ | refine SWp.skip ?_ | refine SWp.exit ?_ | refine SWp.ret ?_ | (apply callW.mk_pu; (first | exact (fun _ => headed_to _))) | (apply callW.any; (first | exact (headed_to _))) | ((first | apply splitG | apply splitGB | apply splitR | apply splitRB | apply splitE | apply splitEB | apply splitC | apply splitCB) <;> intro ht)); all_goals try simp (disch := first | omega | (simp only [lens, hc_len, hr_len, List.length_reverse, byteEs_len, byteEsC_len, List.length_drop, sgC_len, rgC_len, List.length_map]; first | done | omega)) only [go_sem, Nat.reduceEqDiff, Nat.reduceBEq, Nat.reduceAdd, Nat.reduceMul, Nat.reduceSub, Nat.reduceLeDiff, Int.reduceToNat, Int.reducePow, q9, q12, r1]))
        exact DownV.pure (τ := []) hw (rlB_ok _ rfl)
attribute [local irreducible] speculumlaw10_HeadsGet_c44
set_option maxHeartbeats 32000000 in
set_option maxRecDepth 20000 in
theorem HeadsGet_to (n i m : Int) (r : Hash) (s b : List UInt8) (l : List Hash) (x : AV) (a0 a1 a2 : Int) (hx : SlV 32 (hr l) x) (hm : -128 ≤ m ∧ m ≤ 127) (h0 : 0 ≤ a0 ∧ a0 ≤ 65535) (h1 : 0 ≤ a1 ∧ a1 ≤ 65535) (h2 : 0 ≤ a2 ∧ a2 ≤ 65535) :
    ACallsTo TC 5 [.str b, .agg (rgC n r i s m x), .agg [.int .u16 a0, .int .u16 a1, .int .u16 a2]] [] (.bool true) [] := by
  have hGr := fun σ => HGreat_to σ n i m r s l x (.of hx)
  refine ACallsTo.of_body speculumlaw10_HeadsGet_ok (by simp) fun hw _ => ?_
  by_cases hb : (b.length : Int) > 1000
  · repeat' (first | refine SWp.seq ?_ | refine SWp.block ?_ | refine SWp.scope ?_ | refine SWp.condT rfl ?_ | refine SWp.condF rfl ?_ | (refine SWp.condD rfl (fun ht => ?_) (fun ht => ?_) <;> try (exfalso; omega)) | ((first | refine SWp.reg ?_ | refine SWp.skip ?_ | refine SWp.exit ?_ | refine SWp.ret ?_ | (apply callW.mk_pu; (first | exact (fun _ => hGr _) | exact (fun _ => headed_to _))) | (apply callW.any; (first | exact (hGr _) | exact (headed_to _))) | ((first | apply splitG | apply splitGB | apply splitR | apply splitRB | apply splitE | apply splitEB | apply splitC | apply splitCB) <;> intro ht)); all_goals try simp (disch := first | omega | (simp only [lens, hc_len, hr_len, List.length_reverse, byteEs_len, byteEsC_len, List.length_drop, sgC_len, rgC_len, List.length_map]; first | done | omega)) only [go_sem, Nat.reduceEqDiff, Nat.reduceBEq, Nat.reduceAdd, Nat.reduceMul, Nat.reduceSub, Nat.reduceLeDiff, Int.reduceToNat, Int.reducePow, hb]))
    exact DownV.pure (τ := []) hw (rlB_ok _ rfl)
  by_cases hg : 300 < s.length ∨ 40 < l.length
  · rw [decide_eq_true hg] at hGr
    repeat' (first | refine SWp.seq ?_ | refine SWp.block ?_ | refine SWp.scope ?_ | refine SWp.condT rfl ?_ | refine SWp.condF rfl ?_ | (refine SWp.condD rfl (fun ht => ?_) (fun ht => ?_) <;> try (exfalso; omega)) | ((first | refine SWp.reg ?_ | refine SWp.skip ?_ | refine SWp.exit ?_ | refine SWp.ret ?_ | (apply callW.mk_pu; (first | exact (fun _ => hGr _) | exact (fun _ => headed_to _))) | (apply callW.any; (first | exact (hGr _) | exact (headed_to _))) | ((first | apply splitG | apply splitGB | apply splitR | apply splitRB | apply splitE | apply splitEB | apply splitC | apply splitCB) <;> intro ht)); all_goals try simp (disch := first | omega | (simp only [lens, hc_len, hr_len, List.length_reverse, byteEs_len, byteEsC_len, List.length_drop, sgC_len, rgC_len, List.length_map]; first | done | omega)) only [go_sem, Nat.reduceEqDiff, Nat.reduceBEq, Nat.reduceAdd, Nat.reduceMul, Nat.reduceSub, Nat.reduceLeDiff, Int.reduceToNat, Int.reducePow, hb]))
    exact DownV.pure (τ := []) hw (rlB_ok _ rfl)
  rw [decide_eq_false hg] at hGr
  have hS := fun σ => Signed_to σ n i m r s l x hx hm (by omega)
  generalize sigS s (16384 + m).toNat = G at *
  have hP := fun σ => refPut_to σ n i r G l x (.of hx)
  obtain ⟨T, e, hT, hTl⟩ : ∃ (T : List UInt8) (e : Int), putV n i r G l = .tup [.str T, .int .i64 e] ∧ T.length < 20000 := by
    unfold putV
    split
    · rename_i hv
      obtain ⟨N, I, rfl, rfl, v1, v2, v3, v4⟩ := valid_of hv
      obtain ⟨p1, p2⟩ := putH_long N r I G l
      exact ⟨_, _, rfl, by simp only [Int.toNat_natCast]; omega⟩
    · exact ⟨_, _, rfl, by decide⟩
  simp only [hT] at hP
  have hm0 : 0 ≤ a0 % ((T.length : Int) + 1) ∧ a0 % ((T.length : Int) + 1) ≤ T.length := by
    have k1 := Int.emod_nonneg a0 (b := (T.length : Int) + 1) (by omega)
    have k2 := Int.emod_lt_of_pos a0 (b := (T.length : Int) + 1) (by omega)
    omega
  have hT1 : ((T.length : Int) + 1) ≠ 0 := by omega
  by_cases hz : T = []
  · subst hz
    have hmz : a0 % 1 = 0 := by omega
    have hr0 : intBin .rem .i64 a0 1 = some (.int .i64 0) := by rw [ib_rem]; simp [hmz]
    repeat' (first | refine SWp.seq ?_ | refine SWp.block ?_ | refine SWp.scope ?_ | refine SWp.condT rfl ?_ | refine SWp.condF rfl ?_ | (refine SWp.condD rfl (fun ht => ?_) (fun ht => ?_) <;> try (exfalso; omega)) | ((first | refine SWp.reg ?_ | refine SWp.skip ?_ | refine SWp.exit ?_ | refine SWp.ret ?_ | (apply callW.mk_pu; (first | exact (fun _ => hGr _) | exact (fun _ => hS _) | exact (fun _ => hP _))) | (apply callW.any; (first | exact (hGr _) | exact (hS _) | exact (hP _))) | ((first | apply splitG | apply splitGB | apply splitR | apply splitRB | apply splitE | apply splitEB | apply splitC | apply splitCB) <;> intro ht)); all_goals try simp (disch := first | omega | (simp only [lens, hc_len, hr_len, List.length_reverse, byteEs_len, byteEsC_len, List.length_drop, sgC_len, rgC_len, List.length_map]; first | done | omega)) only [go_sem, Nat.reduceEqDiff, Nat.reduceBEq, Nat.reduceAdd, Nat.reduceMul, Nat.reduceSub, Nat.reduceLeDiff, Int.reduceToNat, Int.reducePow, hb, hT1, hm0, hmz, hr0]))
    exact HeadsGet_tail _ _ (.vsl 1 (strs [b, [], b, []]) true) [b, [], b, []] (by rfl) (.of (.inr ⟨true, rfl⟩)) (by
      intro t ht
      simp only [List.mem_cons, List.not_mem_nil, or_false] at ht
      rcases ht with rfl | rfl | rfl | rfl
      · omega
      · exact Nat.lt_of_le_of_lt (Nat.le_refl 0) (by decide)
      · omega
      · exact Nat.lt_of_le_of_lt (Nat.le_refl 0) (by decide)) (by simp)
  · have hTn : (T.length : Int) > 0 := by
      have : T.length ≠ 0 := by simpa using hz
      omega
    have hTn0 : (T.length : Int) ≠ 0 := by omega
    have hk1 : 0 ≤ a0 % (T.length : Int) ∧ a0 % (T.length : Int) < T.length := ⟨Int.emod_nonneg a0 hTn0, Int.emod_lt_of_pos a0 (by omega)⟩
    obtain ⟨c, hc8⟩ : ∃ c : UInt8, a1 % 256 = c.toNat := ⟨UInt8.ofNat a1.toNat, by rw [UInt8.toNat_ofNat']; omega⟩
    generalize hkk : a0 % (T.length : Int) = k at *
    have hk2 : 0 ≤ k % 60 ∧ k % 60 < T.length := by omega
    repeat' (first | refine SWp.seq ?_ | refine SWp.block ?_ | refine SWp.scope ?_ | refine SWp.condT rfl ?_ | refine SWp.condF rfl ?_ | (refine SWp.condD rfl (fun ht => ?_) (fun ht => ?_) <;> try (exfalso; omega)) | ((first | refine SWp.reg ?_ | refine SWp.skip ?_ | refine SWp.exit ?_ | refine SWp.ret ?_ | (apply callW.mk_pu; (first | exact (fun _ => hGr _) | exact (fun _ => hS _) | exact (fun _ => hP _))) | (apply callW.any; (first | exact (hGr _) | exact (hS _) | exact (hP _))) | ((first | apply splitG | apply splitGB | apply splitR | apply splitRB | apply splitE | apply splitEB | apply splitC | apply splitCB) <;> intro ht)); all_goals try simp (disch := first | omega | (simp only [lens, hc_len, hr_len, List.length_reverse, byteEs_len, byteEsC_len, List.length_drop, sgC_len, rgC_len, List.length_map]; first | done | omega)) only [go_sem, Nat.reduceEqDiff, Nat.reduceBEq, Nat.reduceAdd, Nat.reduceMul, Nat.reduceSub, Nat.reduceLeDiff, Int.reduceToNat, Int.reducePow, hb, hT1, hm0, hTn, hTn0, hk1, hk2, hc8]))
    · refine HeadsGet_tail _ _ (.sl 3 0 5 none 1) [b, T, T ++ b, T.take (a0 % ((T.length : Int) + 1)).toNat, T.set (a0 % (T.length : Int) % 60).toNat (UInt8.ofNat c.toNat)] (by rfl) (.inr ⟨3, 0, none, _, rfl, rfl, by simp [strs], rfl⟩) ?_ (by simp)
      intro t ht
      simp only [List.mem_cons, List.not_mem_nil, or_false] at ht
      rcases ht with rfl | rfl | rfl | rfl | rfl
      · omega
      · omega
      · rw [List.length_append]; omega
      · rw [List.length_take]; omega
      · rw [List.length_set]; omega
    · refine HeadsGet_tail _ _ (.sl 3 0 5 none 1) [b, T, T ++ b, T.take (a0 % ((T.length : Int) + 1)).toNat, T.set (a0 % (T.length : Int)).toNat (UInt8.ofNat c.toNat)] (by rfl) (.inr ⟨3, 0, none, _, rfl, rfl, by simp [strs], rfl⟩) ?_ (by simp)
      intro t ht
      simp only [List.mem_cons, List.not_mem_nil, or_false] at ht
      rcases ht with rfl | rfl | rfl | rfl | rfl
      · omega
      · omega
      · rw [List.length_append]; omega
      · rw [List.length_take]; omega
      · rw [List.length_set]; omega
/-- Arguments. -/
def roughTy : Ty := .row [.row [.int .i64, hashTy], .int .i64, .str, .int .i8, .sl 32 hashTy]
theorem rough_h {a : AV} (h : Sh roughTy a) : ∃ (n i m : Int) (r : Hash) (s : List UInt8) (l : List Hash) (x : AV), a = .agg (rgC n r i s m x) ∧ (-128 ≤ m ∧ m ≤ 127) ∧ SlV 32 (hr l) x ∧ l.length ≤ maxLen ∧ (-9223372036854775808 ≤ n ∧ n ≤ 9223372036854775807) ∧ (-9223372036854775808 ≤ i ∧ i ≤ 9223372036854775807) := by
  simp only [roughTy, Sh] at h
  obtain ⟨cs, rfl, h⟩ := h
  simp only [ShRow] at h
  obtain ⟨A, B, rfl, hA, C, D, rfl, hC, E, F, rfl, hE, G, K, rfl, hG, M, N, rfl, hM, rfl⟩ := h
  simp only [ShC, ShRow] at hA hC hE hG
  obtain ⟨A1, A2, rfl, ⟨n, rfl, n1, n2⟩, A3, A4, rfl, hA3, rfl⟩ := hA
  obtain ⟨r, rfl⟩ := hashC_h hA3
  obtain ⟨i, rfl, i1, i2⟩ := hC
  obtain ⟨s, rfl, _⟩ := hE
  obtain ⟨m, rfl, m1, m2⟩ := hG
  obtain ⟨l, x, rfl, h3, h4⟩ := hslC_h hM
  simp only [IntKind.min, IntKind.max, IntKind.signed, IntKind.bits] at n1 n2 i1 i2 m1 m2
  simp at n1 n2 i1 i2 m1 m2
  exact ⟨n, i, m, r, s, l, x, by simp [rgC], ⟨m1, m2⟩, h3, h4, ⟨n1, n2⟩, ⟨i1, i2⟩⟩
theorem u16_of {a : AV} (h : Sh (.int .u16) a) : ∃ n : Int, a = .int .u16 n ∧ 0 ≤ n ∧ n ≤ 65535 := by
  simp only [Sh, ShC] at h
  obtain ⟨n, h, h1, h2⟩ := h
  cases h
  simp only [IntKind.min, IntKind.max, IntKind.signed, IntKind.bits] at h1 h2
  simp at h1 h2
  exact ⟨n, rfl, h1, h2⟩
theorem strA_of {a : AV} (h : Sh .str a) : ∃ s : List UInt8, a = .str s ∧ s.length ≤ maxLen := by
  simp only [Sh, ShC] at h
  obtain ⟨s, h, h1⟩ := h
  cases h
  exact ⟨s, rfl, h1⟩
theorem HeadsBack_law (avs : List AV) (h : ShAll [roughTy, .str, .int .u16] avs) : ACallsTo TC 6 avs [] (.bool true) [] := by
  simp only [ShAll] at h
  obtain ⟨_, _, rfl, h1, _, _, rfl, h2, _, _, rfl, h3, rfl⟩ := h
  obtain ⟨n, i, m, r, s, l, x, rfl, hm, hx, _⟩ := rough_h h1
  obtain ⟨b, rfl, _⟩ := strA_of h2
  obtain ⟨c, rfl, c1, c2⟩ := u16_of h3
  exact HeadsBack_to n i m r s b l x c hx hm ⟨c1, c2⟩
theorem HeadsGet_law (avs : List AV) (h : ShAll [.str, roughTy, .row [.int .u16, .int .u16, .int .u16]] avs) : ACallsTo TC 5 avs [] (.bool true) [] := by
  simp only [ShAll] at h
  obtain ⟨_, _, rfl, h2, _, _, rfl, h1, _, _, rfl, h3, rfl⟩ := h
  obtain ⟨n, i, m, r, s, l, x, rfl, hm, hx, _⟩ := rough_h h1
  obtain ⟨b, rfl, _⟩ := strA_of h2
  simp only [Sh, ShRow, ShC] at h3
  obtain ⟨_, rfl, _, _, rfl, ⟨c, rfl, c1, c2⟩, _, _, rfl, ⟨d, rfl, d1, d2⟩, _, _, rfl, ⟨e, rfl, e1, e2⟩, rfl⟩ := h3
  simp only [IntKind.min, IntKind.max, IntKind.signed, IntKind.bits] at c1 c2 d1 d2 e1 e2
  simp at c1 c2 d1 d2 e1 e2
  exact HeadsGet_to n i m r s b l x c d e hx hm ⟨c1, c2⟩ ⟨d1, d2⟩ ⟨e1, e2⟩
end Am
end Go.Proofs.YthgcooppjhcgcaaDoor
end
section
set_option linter.unusedSimpArgs false
set_option linter.unusedVariables false
/- What a law with the laid tables of sha begins with. -/
namespace Go.Proofs.YthgcooppjhcgcaaDoor.LawDoor
open Go.ChangeShapes Go.WideShapes Go.ChangeAt Go.RowKit
theorem own : ownKnob Tryd.prog.godebug = none := by kernel_rfl
theorem laidOut : laidOutB Tryd.prog = true := by kernel_rfl
def laidS : List (String × DataW Unit) := [("speculum/sha.first", Rows.laid_speculum_sha_first), ("speculum/sha.rounds", Rows.laid_speculum_sha_rounds)]
set_option maxRecDepth 100000
/-- The door's own heap meets the condition. -/
theorem door_met (os : Os) (args : Array Value) : laidMetH Tryd.prog laidS ((World.doorLaid Tryd.prog 400 os).forCall (fun _ _ => 0) ⟨#[], args, []⟩).memory :=
  laidMetH_of_parts3 (fuel := 8) (laidMet_of_run' 8 (by kernel_rfl) (by kernel_rfl)) (by kernel_rfl) (by kernel_rfl)
/-- What the condition gives the walks: the tables, as_ the machine knows them. -/
theorem rel_of {W : World} (h : laidMetH Tryd.prog laidS W) : Am.Rel Am.TC [] [] W := by
  rw [MakeChecks.laidMetH_plain _ _ _ (by kernel_rfl)] at h
  obtain ⟨ps, ⟨g0, t0, cs0, f0, p0, q0, hg0, ht0, hv0, hd0, ⟨g1, t1, cs1, f1, p1, q1, hg1, ht1, hv1, hd1, _, _⟩, _⟩, _, _⟩ := h
  have v0 := Am.vp_of_var (P := Tryd.prog) (n := "speculum/sha.first") (g := 0) (t := 179) (e := 177) (m := 8) (k := .u32) Am.shaFirst (by kernel_rfl) (by kernel_rfl) (by kernel_rfl) (by kernel_rfl) (by kernel_rfl) (by kernel_rfl) hg0 ht0 hv0 hd0
  have v1 := Am.vp_of_var (P := Tryd.prog) (n := "speculum/sha.rounds") (g := 1) (t := 178) (e := 177) (m := 64) (k := .u32) Am.shaRounds (by kernel_rfl) (by kernel_rfl) (by kernel_rfl) (by kernel_rfl) (by kernel_rfl) (by kernel_rfl) hg1 ht1 hv1 hd1
  refine ⟨rfl, fun r o h => by simp at h, fun r h => by simp at h, fun r r' pl pl' h => by simp at h, fun g cs h => ?_⟩
  simp only [Am.TC] at h
  split at h
  · rename_i hg; subst hg; cases h; exact v0
  · split at h
    · rename_i hg; subst hg; cases h; exact v1
    · cases h
end Go.Proofs.YthgcooppjhcgcaaDoor.LawDoor
end
