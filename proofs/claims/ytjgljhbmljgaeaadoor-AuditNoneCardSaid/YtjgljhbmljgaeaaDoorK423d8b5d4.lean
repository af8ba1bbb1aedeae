import Derived.Test.YtjgljhbmljgaeaaDoorK3bfbe4e78
set_option linter.unusedSimpArgs false
set_option linter.unusedVariables false
open Nat (reduceEqDiff reduceAdd reduceMul reduceSub reduceLeDiff)
open Int (reduceToNat reducePow)
section
/- SHA-256: the reference's Sum: the rounds. -/
namespace Go.Proofs.YtjgljhbmljgaeaaDoor
namespace Am
theorem k_get {i : Nat} (h : i < 64) : gl_sha_rounds[i]? = some (.int .u32 (kAt i).toNat) := by
  have := zfj h
  rwa [List.getElem?_drop, Nat.add_zero] at this
section
variable {k : Nat} {Q : AExit -> Env -> Store -> Prop} {O : Env} {τ : Store} {u : V8} {p : List UInt8} {n : Nat}
set_option maxHeartbeats 8000000 in
theorem zox {q : List UInt8} (K : Rk O τ.length p n)
    (hQ : ∀ O', Rk O' τ.length p n -> Q .normal O' (mkS τ (mixS u q) (ws (zy q 64)))) : zW TC 252 k q6c53 Q O (mkS τ u (ws (zy q 64))) := by
  obtain ⟨R, hR⟩ : ∃ R, R = zy q 64 := ⟨_, rfl⟩
  have hRl : R.length = 64 := by rw [hR, z48]
  have hwR : (ws R).length = 64 := by rw [z3u, hRl]
  have hst : ∀ n, rnds q u (n + 1) = rnd (rnds q u n) (kAt n) (wat R n) := fun n => by rw [rnds, hR]
  obtain ⟨U, hU⟩ : ∃ U, U = rnds q u 64 := ⟨_, rfl⟩
  have hmix : mixS u q = U.add u := by rw [mixS, hU]
  rw [hmix] at hQ
  rw [<- hR] at hQ ⊢
  obtain ⟨k2, k3, k4, k5, k6, k7⟩ := K
  unfold mkS
  refine zW.zs ?_
  (refine zW.regS ?_; (simp (disch:=first|omega|(simp only [lens];first|done|omega)) only [go_sem,reduceEqDiff,Nat.reduceBEq,reduceAdd,reduceMul,reduceSub,reduceLeDiff,reduceToNat,reducePow, k4, V8.c8]))
  (refine zW.slots [2, 3, 4, 5, 6, 7, 13, 14, 15, 16, 17, 18, 19, 20] ?_; intro O1 hs; simp (disch:=first|omega|(simp only [lens];first|done|omega)) only [go_sem,reduceEqDiff,Nat.reduceBEq,reduceAdd,reduceMul,reduceSub,reduceLeDiff,reduceToNat,reducePow, k2, k3, k4, k5, k6, k7] at hs; obtain ⟨s2, s3, s4, s5, s6, s7, s13, s14, s15, s16, s17, s18, s19, s20⟩ := hs)
  refine zW.zs ?_
  refine zW.zs ?_
  (refine zW.regS ?_; (simp (disch:=first|omega|(simp only [lens];first|done|omega)) only [go_sem,reduceEqDiff,Nat.reduceBEq,reduceAdd,reduceMul,reduceSub,reduceLeDiff,reduceToNat,reducePow]))
  refine zW.zb ?_
  refine zW.loop (fun m O Y' => ∃ i : Nat, m + i = 64 /\ Rk O τ.length p n /\ O 21 = .int .i64 i /\ O 13 = .int .u32 (rnds q u i).a.toNat /\ O 14 = .int .u32 (rnds q u i).b.toNat /\ O 15 = .int .u32 (rnds q u i).c.toNat /\ O 16 = .int .u32 (rnds q u i).d.toNat ∧
    O 17 = .int .u32 (rnds q u i).e.toNat /\ O 18 = .int .u32 (rnds q u i).f.toNat /\ O 19 = .int .u32 (rnds q u i).g.toNat /\ O 20 = .int .u32 (rnds q u i).h.toNat /\ Y' = mkS τ u (ws R)) 64 ?_ ?_
  · exact ⟨0, by omega, ⟨by simp (disch:=first|omega|(simp only [lens];first|done|omega)) only [go_sem,reduceEqDiff,Nat.reduceBEq,reduceAdd,reduceMul,reduceSub,reduceLeDiff,reduceToNat,reducePow, s2], by simp (disch:=first|omega|(simp only [lens];first|done|omega)) only [go_sem,reduceEqDiff,Nat.reduceBEq,reduceAdd,reduceMul,reduceSub,reduceLeDiff,reduceToNat,reducePow, s3], by simp (disch:=first|omega|(simp only [lens];first|done|omega)) only [go_sem,reduceEqDiff,Nat.reduceBEq,reduceAdd,reduceMul,reduceSub,reduceLeDiff,reduceToNat,reducePow, s4], by simp (disch:=first|omega|(simp only [lens];first|done|omega)) only [go_sem,reduceEqDiff,Nat.reduceBEq,reduceAdd,reduceMul,reduceSub,reduceLeDiff,reduceToNat,reducePow, s5], by simp (disch:=first|omega|(simp only [lens];first|done|omega)) only [go_sem,reduceEqDiff,Nat.reduceBEq,reduceAdd,reduceMul,reduceSub,reduceLeDiff,reduceToNat,reducePow, s6], by simp (disch:=first|omega|(simp only [lens];first|done|omega)) only [go_sem,reduceEqDiff,Nat.reduceBEq,reduceAdd,reduceMul,reduceSub,reduceLeDiff,reduceToNat,reducePow, s7]⟩, by simp (disch:=first|omega|(simp only [lens];first|done|omega)) only [go_sem,reduceEqDiff,Nat.reduceBEq,reduceAdd,reduceMul,reduceSub,reduceLeDiff,reduceToNat,reducePow]; rfl, by simp (disch:=first|omega|(simp only [lens];first|done|omega)) only [go_sem,reduceEqDiff,Nat.reduceBEq,reduceAdd,reduceMul,reduceSub,reduceLeDiff,reduceToNat,reducePow, s13]; rfl, by simp (disch:=first|omega|(simp only [lens];first|done|omega)) only [go_sem,reduceEqDiff,Nat.reduceBEq,reduceAdd,reduceMul,reduceSub,reduceLeDiff,reduceToNat,reducePow, s14]; rfl, by simp (disch:=first|omega|(simp only [lens];first|done|omega)) only [go_sem,reduceEqDiff,Nat.reduceBEq,reduceAdd,reduceMul,reduceSub,reduceLeDiff,reduceToNat,reducePow, s15]; rfl, by simp (disch:=first|omega|(simp only [lens];first|done|omega)) only [go_sem,reduceEqDiff,Nat.reduceBEq,reduceAdd,reduceMul,reduceSub,reduceLeDiff,reduceToNat,reducePow, s16]; rfl, by simp (disch:=first|omega|(simp only [lens];first|done|omega)) only [go_sem,reduceEqDiff,Nat.reduceBEq,reduceAdd,reduceMul,reduceSub,reduceLeDiff,reduceToNat,reducePow, s17]; rfl, by simp (disch:=first|omega|(simp only [lens];first|done|omega)) only [go_sem,reduceEqDiff,Nat.reduceBEq,reduceAdd,reduceMul,reduceSub,reduceLeDiff,reduceToNat,reducePow, s18]; rfl, by simp (disch:=first|omega|(simp only [lens];first|done|omega)) only [go_sem,reduceEqDiff,Nat.reduceBEq,reduceAdd,reduceMul,reduceSub,reduceLeDiff,reduceToNat,reducePow, s19]; rfl, by simp (disch:=first|omega|(simp only [lens];first|done|omega)) only [go_sem,reduceEqDiff,Nat.reduceBEq,reduceAdd,reduceMul,reduceSub,reduceLeDiff,reduceToNat,reducePow, s20]; rfl, rfl⟩
  · clear s2 s3 s4 s5 s6 s7 s13 s14 s15 s16 s17 s18 s19 s20
    rintro m O Y' ⟨i, hm, ⟨q2, q3, q4, q5, q6, q7⟩, q21, q13, q14, q15, q16, q17, q18, q19, q20, rfl⟩
    by_cases hi : i < 64
    · have hk := k_get hi
      have hw := z7k (w := R) (i := i) (by omega)
      have hst := hst i
      generalize rnds q u i = v at *
      obtain ⟨a, b, c, d, e, f, g, h⟩ := v
      simp only at q13 q14 q15 q16 q17 q18 q19 q20
      generalize kAt i = kk at *
      generalize wat R i = ww at *
      generalize hpb : zh p = pb at *
      unfold mkS
      refine zW.zs ?_
      refine zW.zs ?_
      (refine zW.regS ?_; (simp (disch:=first|omega|(simp only [lens];first|done|omega)) only [go_sem,reduceEqDiff,Nat.reduceBEq,reduceAdd,reduceMul,reduceSub,reduceLeDiff,reduceToNat,reducePow, q21]))
      refine zW.zt rfl ?_
      refine zW.zk ?_
      simp (disch:=first|omega|(simp only [lens];first|done|omega)) only [go_sem,reduceEqDiff,Nat.reduceBEq,reduceAdd,reduceMul,reduceSub,reduceLeDiff,reduceToNat,reducePow]
      refine zW.zs ?_
      refine zW.zb ?_
      refine zW.zs ?_
      (refine zW.regS ?_; (simp (disch:=first|omega|(simp only [lens];first|done|omega)) only [go_sem,reduceEqDiff,Nat.reduceBEq,reduceAdd,reduceMul,reduceSub,reduceLeDiff,reduceToNat,reducePow, q3, q6, q17, q18, q19, q20, q21, hwR, hk, hw, z8c]); repeat' (apply callW.za; (first | exact (zag _ _ _ (by omega))); all_goals try (simp (disch:=first|omega|(simp only [lens];first|done|omega)) only [go_sem,reduceEqDiff,Nat.reduceBEq,reduceAdd,reduceMul,reduceSub,reduceLeDiff,reduceToNat,reducePow, q3, q6, q17, q18, q19, q20, q21, hwR, hk, hw, z8c])))
      (refine zW.slots [2, 3, 4, 5, 6, 7, 13, 14, 15, 16, 17, 18, 19, 20, 21, 22] ?_; intro O2 hs; simp (disch:=first|omega|(simp only [lens];first|done|omega)) only [go_sem,reduceEqDiff,Nat.reduceBEq,reduceAdd,reduceMul,reduceSub,reduceLeDiff,reduceToNat,reducePow, q2, q3, q4, q5, q6, q7, q13, q14, q15, q16, q17, q18, q19, q20, q21] at hs; obtain ⟨s2, s3, s4, s5, s6, s7, s13, s14, s15, s16, s17, s18, s19, s20, s21, s22⟩ := hs)
      refine zW.zs ?_
      (refine zW.regS ?_; (simp (disch:=first|omega|(simp only [lens];first|done|omega)) only [go_sem,reduceEqDiff,Nat.reduceBEq,reduceAdd,reduceMul,reduceSub,reduceLeDiff,reduceToNat,reducePow, s13, s14, s15]); repeat' (apply callW.za; (first | exact (zag _ _ _ (by omega))); all_goals try (simp (disch:=first|omega|(simp only [lens];first|done|omega)) only [go_sem,reduceEqDiff,Nat.reduceBEq,reduceAdd,reduceMul,reduceSub,reduceLeDiff,reduceToNat,reducePow, s13, s14, s15])))
      (refine zW.slots [2, 3, 4, 5, 6, 7, 13, 14, 15, 16, 17, 18, 19, 20, 21, 22, 23] ?_; intro O3 hs; simp (disch:=first|omega|(simp only [lens];first|done|omega)) only [go_sem,reduceEqDiff,Nat.reduceBEq,reduceAdd,reduceMul,reduceSub,reduceLeDiff,reduceToNat,reducePow, s2, s3, s4, s5, s6, s7, s13, s14, s15, s16, s17, s18, s19, s20, s21, s22] at hs; obtain ⟨s2, s3, s4, s5, s6, s7, s13, s14, s15, s16, s17, s18, s19, s20, s21, s22, s23⟩ := hs)
      (refine zW.regS ?_; (simp (disch:=first|omega|(simp only [lens];first|done|omega)) only [go_sem,reduceEqDiff,Nat.reduceBEq,reduceAdd,reduceMul,reduceSub,reduceLeDiff,reduceToNat,reducePow, s13, s14, s15, s16, s17, s18, s19, s22, s23]))
      (refine zW.slots [2, 3, 4, 5, 6, 7, 13, 14, 15, 16, 17, 18, 19, 20, 21] ?_; intro O4 hs; simp (disch:=first|omega|(simp only [lens];first|done|omega)) only [go_sem,reduceEqDiff,Nat.reduceBEq,reduceAdd,reduceMul,reduceSub,reduceLeDiff,reduceToNat,reducePow, s2, s3, s4, s5, s6, s7, s21] at hs; obtain ⟨s2, s3, s4, s5, s6, s7, s13, s14, s15, s16, s17, s18, s19, s20, s21⟩ := hs)
      (refine zW.regS ?_; (simp (disch:=first|omega|(simp only [lens];first|done|omega)) only [go_sem,reduceEqDiff,Nat.reduceBEq,reduceAdd,reduceMul,reduceSub,reduceLeDiff,reduceToNat,reducePow, s21]))
      refine ⟨64 - (i + 1), by omega, i + 1, by omega, ⟨s2, s3, s4, by rw [hpb]; exact s5, s6, s7⟩, by simp, ?_⟩
      rw [hst]
      simp only [rnd, bs1, chW, bs0, majW]
      exact ⟨s13, s14, s15, s16, s17, s18, s19, s20⟩
    · obtain rfl : i = 64 := by omega
      rw [<- hU] at q13 q14 q15 q16 q17 q18 q19 q20
      clear hst hU hmix
      obtain ⟨a, b, c, d, e, f, g, h⟩ := U
      obtain ⟨a', b', c', d', e', f', g', h'⟩ := u
      simp only at q13 q14 q15 q16 q17 q18 q19 q20
      unfold mkS
      unfold mkS at hQ
      simp only [V8.add, V8.c8] at hQ
      simp only [V8.c8]
      generalize hpb : zh p = pb at *
      refine zW.zs ?_
      refine zW.zs ?_
      (refine zW.regS ?_; (simp (disch:=first|omega|(simp only [lens];first|done|omega)) only [go_sem,reduceEqDiff,Nat.reduceBEq,reduceAdd,reduceMul,reduceSub,reduceLeDiff,reduceToNat,reducePow, q21]))
      refine zW.zf rfl ?_
      refine zW.ze ?_
      simp (disch:=first|omega|(simp only [lens];first|done|omega)) only [go_sem,reduceEqDiff,Nat.reduceBEq,reduceAdd,reduceMul,reduceSub,reduceLeDiff,reduceToNat,reducePow]
      (refine zW.regS ?_; (simp (disch:=first|omega|(simp only [lens];first|done|omega)) only [go_sem,reduceEqDiff,Nat.reduceBEq,reduceAdd,reduceMul,reduceSub,reduceLeDiff,reduceToNat,reducePow, q4, q13, q14, q15, q16, q17, q18, q19, q20]))
      rw [BitVec.add_comm a' a, BitVec.add_comm b' b, BitVec.add_comm c' c, BitVec.add_comm d' d, BitVec.add_comm e' e, BitVec.add_comm f' f, BitVec.add_comm g' g, BitVec.add_comm h' h]
      exact hQ _ ⟨by simp (disch:=first|omega|(simp only [lens];first|done|omega)) only [go_sem,reduceEqDiff,Nat.reduceBEq,reduceAdd,reduceMul,reduceSub,reduceLeDiff,reduceToNat,reducePow, q2], by simp (disch:=first|omega|(simp only [lens];first|done|omega)) only [go_sem,reduceEqDiff,Nat.reduceBEq,reduceAdd,reduceMul,reduceSub,reduceLeDiff,reduceToNat,reducePow, q3], by simp (disch:=first|omega|(simp only [lens];first|done|omega)) only [go_sem,reduceEqDiff,Nat.reduceBEq,reduceAdd,reduceMul,reduceSub,reduceLeDiff,reduceToNat,reducePow, q4], (by simp (disch:=first|omega|(simp only [lens];first|done|omega)) only [go_sem,reduceEqDiff,Nat.reduceBEq,reduceAdd,reduceMul,reduceSub,reduceLeDiff,reduceToNat,reducePow, q5]; rw [hpb]), by simp (disch:=first|omega|(simp only [lens];first|done|omega)) only [go_sem,reduceEqDiff,Nat.reduceBEq,reduceAdd,reduceMul,reduceSub,reduceLeDiff,reduceToNat,reducePow, q6], by simp (disch:=first|omega|(simp only [lens];first|done|omega)) only [go_sem,reduceEqDiff,Nat.reduceBEq,reduceAdd,reduceMul,reduceSub,reduceLeDiff,reduceToNat,reducePow, q7]⟩
end
end Am
end Go.Proofs.YtjgljhbmljgaeaaDoor
end
section
/- SHA-256: the reference's Sum. -/
namespace Go.Proofs.YtjgljhbmljgaeaaDoor
namespace Am
theorem sum_r1 {C : Ctx} {K : Env -> Store -> Prop} {H : Hist} {O : Env} {Y : Store} : zi C K q6r1 H O Y = zi C K (q6r1.drop 1) H (upd O 26 (.agg gl_sha_rounds)) Y := by kernel_rfl
theorem zlc {l : List W} {i : Nat} (h : i < 4 * l.length) : (l.flatMap fun x => be 4 x.toNat)[i]? = (be 4 (wat l (i / 4)).toNat)[i % 4]? := by
  induction l generalizing i with
  | nil => simp at h
  | cons x l ih =>
    have hb : (be 4 x.toNat).length = 4 := z36 _ _
    rw [List.flatMap_cons]
    by_cases hi : i < 4
    · rw [List.getElem?_append_left (by omega), Nat.div_eq_of_lt hi, Nat.mod_eq_of_lt hi]; rfl
    · simp only [List.length_cons] at h
      rw [List.getElem?_append_right (by omega), hb, ih (by omega), show i / 4 = (i - 4) / 4 + 1 by omega, show (i - 4) % 4 = i % 4 by omega]
      rfl
theorem zji (x : Nat) {j : Nat} (h : j < 4) : (be 4 x)[j]? = some (UInt8.ofNat (x / 2 ^ (24 - 8 * j))) := by
  have e : be 4 x = [UInt8.ofNat (x / 256 ^ 3), UInt8.ofNat (x / 256 ^ 2), UInt8.ofNat (x / 256 ^ 1), UInt8.ofNat (x / 256 ^ 0)] := by
    simp only [z7y]
    rfl
  rw [e]
  have hj : j = 0 \/ j = 1 \/ j = 2 \/ j = 3 := by omega
  rcases hj with rfl | rfl | rfl | rfl <;> rfl
theorem zo0 (v : V8) {i : Nat} (h : i < 32) : (outV v)[i]? = some (UInt8.ofNat ((wat v.l (i / 4)).toNat / 2 ^ (24 - 8 * (i % 4)))) := by
  unfold outV
  rw [zlc (by simp [V8.l]; omega), zji _ (Nat.mod_lt _ (by decide))]
def z44 (v : V8) (i : Nat) : List AV := z8 ((outV v).take i) ++ List.replicate (32 - i) (.int .u8 0)
theorem zn8 (v : V8) {i : Nat} (h : i <= 32) : (z44 v i).length = 32 := by simp [z44, zn, z4m]; omega
theorem zn9 (v : V8) {i : Nat} (h : i < 32) {b : Int} (hb : b = (((wat v.l (i / 4)).toNat / 2 ^ (24 - 8 * (i % 4)) % 256 : Nat) : Int)) :
    (z44 v i).take i ++ AV.int .u8 b :: (z44 v i).drop (i + 1) = z44 v (i + 1) := by
  have h1 : (z8 ((outV v).take i)).length = i := by rw [zn, List.length_take, z4m]; omega
  have hg := zo0 v h
  have hs : (outV v).take (i + 1) = (outV v).take i ++ [UInt8.ofNat ((wat v.l (i / 4)).toNat / 2 ^ (24 - 8 * (i % 4)))] := by
    rw [List.take_add_one, hg]; rfl
  unfold z44
  rw [List.take_append_of_le_length (by omega), List.take_of_length_le (by omega), List.drop_append, List.drop_of_length_le (by omega), h1, show i + 1 - i = 1 by omega, List.nil_append, hs]
  rw [List.drop_replicate, show 32 - i - 1 = 32 - (i + 1) by omega]
  simp [z8, hb]
set_option maxHeartbeats 8000000 in
theorem z71 (Y : Store) (s : List UInt8) (h : s.length < 900000000) : ACallsTo TC 69 [.str s] Y (.agg (z8 (shaS s))) Y := by
  obtain ⟨p, hp⟩ : ∃ p, p = padS s := ⟨_, rfl⟩
  obtain ⟨hp1, hp2⟩ := zgd s
  rw [<- hp] at hp1 hp2
  obtain ⟨N, hN⟩ : ∃ N, p.length = 64 * N := ⟨p.length / 64, by omega⟩
  obtain ⟨V, hV⟩ : ∃ V, V = blocks N v0 p := ⟨_, rfl⟩
  have hS : shaS s = outV V := by
    unfold shaS
    rw [<- hp, hV]
    have : p.length / 64 = N := by omega
    rw [this]
  rw [hS]
  have hf := fun Y => pad_to Y s (by omega)
  rw [<- hp] at hf
  refine ACallsTo.of_body q6ok (by simp) fun hw _ => ?_
  refine zW.zs ?_
  refine zW.zr ?_
  simp (disch:=first|omega|(simp only [lens];first|done|omega)) only [go_sem,reduceEqDiff,Nat.reduceBEq,reduceAdd,reduceMul,reduceSub,reduceLeDiff,reduceToNat,reducePow]
  refine zW.zs ?_
  refine zW.zr ?_
  rw [sum_r1]
  simp (disch:=first|omega|(simp only [lens];first|done|omega)) only [go_sem,reduceEqDiff,Nat.reduceBEq,reduceAdd,reduceMul,reduceSub,reduceLeDiff,reduceToNat,reducePow, z8c]
  refine zW.zs ?_
  refine zW.zr ?_
  simp (disch:=first|omega|(simp only [lens];first|done|omega)) only [go_sem,reduceEqDiff,Nat.reduceBEq,reduceAdd,reduceMul,reduceSub,reduceLeDiff,reduceToNat,reducePow]
  refine zW.zs ?_
  repeat' (first|refine zW.zs ?_|refine zW.zb ?_|refine zW.zc ?_|refine zW.zt rfl ?_|refine zW.zf rfl ?_|(refine zW.zd rfl (fun ht => ?_) (fun ht => ?_)<;>try (exfalso;omega))|((first|refine zW.zr ?_|refine zW.zk ?_|refine zW.ze ?_|refine zW.zq ?_|(apply callW.mk_pu; (first | exact (fun _ => hf _))) | (apply callW.za; (first | exact (hf _))) | ((first|apply zg0|apply zg1|apply zg2|apply zg3|apply zg4|apply zg5|apply zg6|apply zg7)<;>intro ht));all_goals try simp (disch:=first|omega|(simp only [lens];first|done|omega)) only [go_sem,reduceEqDiff,Nat.reduceBEq,reduceAdd,reduceMul,reduceSub,reduceLeDiff,reduceToNat,reducePow]))
  refine zW.loop (fun m O Y' => ∃ (u : V8) (n : Nat) (cells : List AV), n + 64 * m = p.length /\ Rk O Y.length p n /\ cells.length = 64 /\ blocks m u (p.drop n) = V /\ Y' = mkS Y u cells) N ?_ ?_
  · exact ⟨v0, 0, List.replicate 64 (.int .u32 0), by omega, ⟨by simp (disch:=first|omega|(simp only [lens];first|done|omega)) only [go_sem,reduceEqDiff,Nat.reduceBEq,reduceAdd,reduceMul,reduceSub,reduceLeDiff,reduceToNat,reducePow], by simp (disch:=first|omega|(simp only [lens];first|done|omega)) only [go_sem,reduceEqDiff,Nat.reduceBEq,reduceAdd,reduceMul,reduceSub,reduceLeDiff,reduceToNat,reducePow], by simp (disch:=first|omega|(simp only [lens];first|done|omega)) only [go_sem,reduceEqDiff,Nat.reduceBEq,reduceAdd,reduceMul,reduceSub,reduceLeDiff,reduceToNat,reducePow], by simp (disch:=first|omega|(simp only [lens];first|done|omega)) only [go_sem,reduceEqDiff,Nat.reduceBEq,reduceAdd,reduceMul,reduceSub,reduceLeDiff,reduceToNat,reducePow], by simp (disch:=first|omega|(simp only [lens];first|done|omega)) only [go_sem,reduceEqDiff,Nat.reduceBEq,reduceAdd,reduceMul,reduceSub,reduceLeDiff,reduceToNat,reducePow], by simp (disch:=first|omega|(simp only [lens];first|done|omega)) only [go_sem,reduceEqDiff,Nat.reduceBEq,reduceAdd,reduceMul,reduceSub,reduceLeDiff,reduceToNat,reducePow]; rfl⟩, rfl, by rw [List.drop_zero]; exact hV.symm, rfl⟩
  · rintro m O Y' ⟨u, n, cells, hn, ⟨q2, q3, q4, q5, q6, q7⟩, hc, hb, rfl⟩
    have hpb := z13 p
    cases m with
    | succ m =>
      refine zW.zs ?_
      refine zW.zs ?_
      (refine zW.regS ?_; (simp (disch:=first|omega|(simp only [lens];first|done|omega)) only [go_sem,reduceEqDiff,Nat.reduceBEq,reduceAdd,reduceMul,reduceSub,reduceLeDiff,reduceToNat,reducePow, q5, q7, hpb]))
      refine zW.zt rfl ?_
      refine zW.zk ?_
      simp (disch:=first|omega|(simp only [lens];first|done|omega)) only [go_sem,reduceEqDiff,Nat.reduceBEq,reduceAdd,reduceMul,reduceSub,reduceLeDiff,reduceToNat,reducePow]
      refine zW.zs ?_
      refine zW.zb ?_
      refine zW.zs ?_
      refine zoz (p := p) (n := n) (u := u) (cells := cells) ⟨by simp (disch:=first|omega|(simp only [lens];first|done|omega)) only [go_sem,reduceEqDiff,Nat.reduceBEq,reduceAdd,reduceMul,reduceSub,reduceLeDiff,reduceToNat,reducePow, q2], by simp (disch:=first|omega|(simp only [lens];first|done|omega)) only [go_sem,reduceEqDiff,Nat.reduceBEq,reduceAdd,reduceMul,reduceSub,reduceLeDiff,reduceToNat,reducePow, q3], by simp (disch:=first|omega|(simp only [lens];first|done|omega)) only [go_sem,reduceEqDiff,Nat.reduceBEq,reduceAdd,reduceMul,reduceSub,reduceLeDiff,reduceToNat,reducePow, q4], by simp (disch:=first|omega|(simp only [lens];first|done|omega)) only [go_sem,reduceEqDiff,Nat.reduceBEq,reduceAdd,reduceMul,reduceSub,reduceLeDiff,reduceToNat,reducePow, q5], by simp (disch:=first|omega|(simp only [lens];first|done|omega)) only [go_sem,reduceEqDiff,Nat.reduceBEq,reduceAdd,reduceMul,reduceSub,reduceLeDiff,reduceToNat,reducePow, q6], by simp (disch:=first|omega|(simp only [lens];first|done|omega)) only [go_sem,reduceEqDiff,Nat.reduceBEq,reduceAdd,reduceMul,reduceSub,reduceLeDiff,reduceToNat,reducePow, q7]⟩ (by omega) (by omega) hc ?_
      intro O1 rest hr K1
      refine zW.zs ?_
      refine zoy K1 hr ?_
      intro O2 K2
      refine zox K2 ?_
      intro O3 ⟨t2, t3, t4, t5, t6, t7⟩
      simp only [z29, blkQ]
      (refine zW.regS ?_; (simp (disch:=first|omega|(simp only [lens];first|done|omega)) only [go_sem,reduceEqDiff,Nat.reduceBEq,reduceAdd,reduceMul,reduceSub,reduceLeDiff,reduceToNat,reducePow, t7]))
      refine ⟨m, by omega, mixS u ((p.drop n).take 64), n + 64, ws (zy ((p.drop n).take 64) 64), by omega, ⟨by simp (disch:=first|omega|(simp only [lens];first|done|omega)) only [go_sem,reduceEqDiff,Nat.reduceBEq,reduceAdd,reduceMul,reduceSub,reduceLeDiff,reduceToNat,reducePow, t2], by simp (disch:=first|omega|(simp only [lens];first|done|omega)) only [go_sem,reduceEqDiff,Nat.reduceBEq,reduceAdd,reduceMul,reduceSub,reduceLeDiff,reduceToNat,reducePow, t3], by simp (disch:=first|omega|(simp only [lens];first|done|omega)) only [go_sem,reduceEqDiff,Nat.reduceBEq,reduceAdd,reduceMul,reduceSub,reduceLeDiff,reduceToNat,reducePow, t4], by simp (disch:=first|omega|(simp only [lens];first|done|omega)) only [go_sem,reduceEqDiff,Nat.reduceBEq,reduceAdd,reduceMul,reduceSub,reduceLeDiff,reduceToNat,reducePow, t5], by simp (disch:=first|omega|(simp only [lens];first|done|omega)) only [go_sem,reduceEqDiff,Nat.reduceBEq,reduceAdd,reduceMul,reduceSub,reduceLeDiff,reduceToNat,reducePow, t6], by simp (disch:=first|omega|(simp only [lens];first|done|omega)) only [go_sem,reduceEqDiff,Nat.reduceBEq,reduceAdd,reduceMul,reduceSub,reduceLeDiff,reduceToNat,reducePow]; rw [Int.natCast_add]; rfl⟩, by rw [z3u, z48], ?_, rfl⟩
      rw [<- hb, blocks, List.drop_drop]
    | zero =>
      have hd : p.drop n = [] := List.drop_of_length_le (by omega)
      rw [hd] at hb
      have hu : u = V := hb
      subst hu
      clear hb hd hV
      unfold mkS
      repeat' (first|refine zW.zs ?_|refine zW.zb ?_|refine zW.zc ?_|refine zW.zt rfl ?_|refine zW.zf rfl ?_|(refine zW.zd rfl (fun ht => ?_) (fun ht => ?_)<;>try (exfalso;omega))|((first|refine zW.zr ?_|refine zW.zk ?_|refine zW.ze ?_|refine zW.zq ?_|((first|apply zg0|apply zg1|apply zg2|apply zg3|apply zg4|apply zg5|apply zg6|apply zg7)<;>intro ht));all_goals try simp (disch:=first|omega|(simp only [lens];first|done|omega)) only [go_sem,reduceEqDiff,Nat.reduceBEq,reduceAdd,reduceMul,reduceSub,reduceLeDiff,reduceToNat,reducePow, q5, q7, hpb]))
      refine zW.loop (fun m O Y' => ∃ i : Nat, m + i = 32 /\ O 2 = .ptr Y.length 0 0 /\ O 4 = .ptr (Y.length + 2) 0 0 /\ O 24 = .ptr (Y.length + 4) 0 0 /\ O 25 = .int .i64 i /\ Y' = Y ++ [some [z32], some [gl_sha_rounds], some [u.c8], some [cells], some [z44 u i]]) 32 ?_ ?_
      · exact ⟨0, by omega, by simp (disch:=first|omega|(simp only [lens];first|done|omega)) only [go_sem,reduceEqDiff,Nat.reduceBEq,reduceAdd,reduceMul,reduceSub,reduceLeDiff,reduceToNat,reducePow, q2], by simp (disch:=first|omega|(simp only [lens];first|done|omega)) only [go_sem,reduceEqDiff,Nat.reduceBEq,reduceAdd,reduceMul,reduceSub,reduceLeDiff,reduceToNat,reducePow, q4], by simp (disch:=first|omega|(simp only [lens];first|done|omega)) only [go_sem,reduceEqDiff,Nat.reduceBEq,reduceAdd,reduceMul,reduceSub,reduceLeDiff,reduceToNat,reducePow], by simp (disch:=first|omega|(simp only [lens];first|done|omega)) only [go_sem,reduceEqDiff,Nat.reduceBEq,reduceAdd,reduceMul,reduceSub,reduceLeDiff,reduceToNat,reducePow]; rfl, rfl⟩
      · clear q2 q3 q4 q5 q6 q7
        rintro m O Y' ⟨i, hm, q2, q4, q24, q25, rfl⟩
        have hlen := zn8 u (i := i) (by omega)
        have h8 : u.c8.length = 8 := rfl
        have hz : z32.length = 32 := rfl
        by_cases hi : i < 32
        · have hst := zn9 u hi (b := ((((wat u.l (i / 4)).toNat / 2 ^ (24 - 8 * (i % 4)) % 256 : Nat)) : Int)) rfl
          have hw := z7k (w := u.l) (i := i / 4) (by simp [V8.l]; omega)
          rw [ws_l] at hw
          generalize wat u.l (i / 4) = x at *
          generalize z44 u i = cc at *
          have hd4 : ((i : Int) / 4).toNat = i / 4 := by omega
          have hsh : (24 - 8 * ((i : Int) % 4)).toNat = 24 - 8 * (i % 4) := by omega
          repeat' (first | refine zW.zs ?_ | refine zW.zb ?_ | refine zW.zc ?_ | refine zW.zt rfl ?_ | refine zW.zf rfl ?_ | (refine zW.zd rfl (fun ht => ?_) (fun ht => ?_) <;> try (exfalso; omega)) | ((first | refine zW.regS ?_ | refine zW.zk ?_ | refine zW.ze ?_ | refine zW.zq ?_ | ((first|apply zg0|apply zg1|apply zg2|apply zg3|apply zg4|apply zg5|apply zg6|apply zg7)<;>intro ht));all_goals try simp (disch:=first|omega|(simp only [lens];first|done|omega)) only [go_sem,reduceEqDiff,Nat.reduceBEq,reduceAdd,reduceMul,reduceSub,reduceLeDiff,reduceToNat,reducePow, q2, q4, q24, q25, hlen, h8, hw, hd4, hsh]))
          refine ⟨32 - (i + 1), by omega, i + 1, by omega, by simp, ?_⟩
          rw [BitVec.toNat_ushiftRight, Nat.shiftRight_eq_div_pow, <- hst, Int.natCast_emod]
          rfl
        · obtain rfl : i = 32 := by omega
          have e32 : z44 u 32 = z8 (outV u) := by
            unfold z44
            rw [List.take_of_length_le (by rw [z4m]; decide)]
            exact List.append_nil _
          have hd : List.drop 32 z32 = [] := rfl
          have hl : (z8 (outV u)).length = 32 := by rw [zn, z4m]
          rw [e32] at *
          repeat' (first|refine zW.zs ?_|refine zW.zb ?_|refine zW.zc ?_|refine zW.zt rfl ?_|refine zW.zf rfl ?_|(refine zW.zd rfl (fun ht => ?_) (fun ht => ?_)<;>try (exfalso;omega))|((first|refine zW.zr ?_|refine zW.zk ?_|refine zW.ze ?_|refine zW.zq ?_|((first|apply zg0|apply zg1|apply zg2|apply zg3|apply zg4|apply zg5|apply zg6|apply zg7)<;>intro ht));all_goals try simp (disch:=first|omega|(simp only [lens];first|done|omega)) only [go_sem,reduceEqDiff,Nat.reduceBEq,reduceAdd,reduceMul,reduceSub,reduceLeDiff,reduceToNat,reducePow, q2, q4, q24, q25, hl, h8, hd, hz]))
          exact DownV.pure hw (z2g (z25 _))
end Am
end Go.Proofs.YtjgljhbmljgaeaaDoor
end
section
/- Abstract code. (Printed by wip/gen.) -/
set_option maxRecDepth 10000
namespace Go.Proofs.YtjgljhbmljgaeaaDoor
namespace Am



@[go_sem] def qdr0 : List AIns := [
  ⟨some 1,none,.no,.box (.t 0)⟩,
  ⟨some 2,none,.no,.alloc zZ0⟩]
@[go_sem] def qdr1 : List AIns := [
  ⟨some 4,none,.no,.load false 1 (.t 1)⟩,
  ⟨some 5,none,.no,.lenSl (.t 4)⟩,
  ⟨some 6,none,.no,.bin .eql .none (.t 5) (.v (.int .i64 0))⟩]
@[go_sem] def qdr2 : List AIns := [
  ⟨some 7,none,.no,.call (.v (.fn 46 [])) [(.v (.str []))]⟩,
  ⟨none,none,.no,.store 32 (.t 2) (.t 7)⟩]
def qdc3 : ACode := .seq (.reg qdr2) .ret
def qdc4 : ACode := .cond (.t 6) qdc3 .skip
def qdc5 : ACode := .seq (.reg qdr1) qdc4
@[go_sem] def qdr6 : List AIns := [
  ⟨some 3,none,.no,.alloc [.nilfn]⟩]
@[go_sem] def qdr7 : List AIns := [
  ⟨some 8,none,.no,.mkfn 47 [(.t 1), (.t 3)]⟩,
  ⟨none,none,.no,.store 1 (.t 3) (.t 8)⟩]
@[go_sem] def qdr8 : List AIns := [
  ⟨some 9,none,.no,.load false 1 (.t 3)⟩,
  ⟨some 10,none,.no,.load false 1 (.t 1)⟩,
  ⟨some 11,none,.no,.lenSl (.t 10)⟩,
  ⟨some 12,none,.no,.call (.t 9) [(.v (.int .i64 0)), (.t 11)]⟩,
  ⟨none,none,.no,.store 32 (.t 2) (.t 12)⟩]
def qdc9 : ACode := .seq (.reg qdr8) .ret
def qdc10 : ACode := .seq (.reg qdr7) qdc9
def qdc11 : ACode := .seq (.reg qdr6) qdc10
def qdc12 : ACode := .seq qdc5 qdc11
def qdc13 : ACode := .seq (.reg qdr0) qdc12
theorem qdok : cFn TC 24 = some (13, [.c 2 true 32], qdc13) := by kernel_rfl

@[go_sem] def qer0 : List AIns := [
  ⟨some 2,none,.no,.box (.t 0)⟩,
  ⟨some 3,none,.no,.box (.t 1)⟩,
  ⟨some 4,none,.no,.alloc zZ0⟩]
@[go_sem] def qer1 : List AIns := [
  ⟨some 5, none, .rd, .load true 32 (.t 2)⟩,
  ⟨some 6, none, .ef, .call (.v (.fn 62 [])) [(.t 5)]⟩,
  ⟨some 7,none,.no,.bin .add .none (.v (.str [1])) (.t 6)⟩,
  ⟨some 8, none, .rd, .load true 32 (.t 3)⟩,
  ⟨some 9,none,.no,.call (.v (.fn 62 [])) [(.t 8)]⟩,
  ⟨some 10,none,.no,.bin .add .none (.t 7) (.t 9)⟩,
  ⟨some 11,none,.no,.call (.v (.fn 46 [])) [(.t 10)]⟩,
  ⟨none,none,.no,.store 32 (.t 4) (.t 11)⟩]
def qec2 : ACode := .seq (.reg qer1) .ret
def qec3 : ACode := .seq (.reg qer0) qec2
theorem qeok : cFn TC 49 = some (12, [.c 4 true 32], qec3) := by kernel_rfl

@[go_sem] def qfr0 : List AIns := [
  ⟨some 2,none,.no,.mv (.v (.int .i64 0))⟩]
@[go_sem] def qfr1 : List AIns := [
  ⟨some 4,none,.no,.mv (.t 0)⟩,
  ⟨some 5,none,.no,.bin .lss .none (.t 4) (.v (.int .i64 2))⟩]
@[go_sem] def qfr2 : List AIns := [
  ⟨some 2,none,.no,.mv (.v (.int .i64 0))⟩]
def qfc3 : ACode := .seq (.reg qfr2) .ret
def qfc4 : ACode := .cond (.t 5) qfc3 .skip
def qfc5 : ACode := .seq (.reg qfr1) qfc4
@[go_sem] def qfr6 : List AIns := [
  ⟨some 3,none,.no,.mv (.v (.int .i64 1))⟩]
@[go_sem] def qfr7 : List AIns := [
  ⟨some 6,none,.no,.mv (.t 3)⟩,
  ⟨some 7,none,.no,.mv (.t 0)⟩,
  ⟨some 8,none,.no,.mv (.t 3)⟩,
  ⟨some 9,none,.no,.bin .sub .none (.t 7) (.t 8)⟩,
  ⟨some 10,none,.no,.bin .lss .none (.t 6) (.t 9)⟩]
def qfc8 : ACode := .cond (.t 10) .skip (.exit 0)
def qfc9 : ACode := .seq (.reg qfr7) qfc8
@[go_sem] def qfr10 : List AIns := [
  ⟨some 11,none,.no,.mv (.t 3)⟩,
  ⟨some 12,none,.no,.bin .mul .none (.t 11) (.v (.int .i64 2))⟩,
  ⟨some 3,none,.no,.mv (.t 12)⟩]
def qfc11 : ACode := .block 1 (.reg qfr10)
def qfc12 : ACode := .seq qfc9 qfc11
def qfc13 : ACode := .loop qfc12
@[go_sem] def qfr14 : List AIns := [
  ⟨some 13,none,.no,.mv (.t 3)⟩,
  ⟨some 2,none,.no,.mv (.t 13)⟩]
def qfc15 : ACode := .seq (.reg qfr14) .ret
def qfc16 : ACode := .seq (.block 0 qfc13) qfc15
def qfc17 : ACode := .seq (.reg qfr6) qfc16
def qfc18 : ACode := .seq qfc5 qfc17
def qfc19 : ACode := .seq (.reg qfr0) qfc18
theorem qfok : cFn TC 48 = some (14, [.t 2], qfc19) := by kernel_rfl

@[go_sem] def qgr0 : List AIns := [
  ⟨some 6,none,.no,.alloc zZ0⟩]
@[go_sem] def qgr1 : List AIns := [
  ⟨some 8,none,.no,.mv (.t 1)⟩,
  ⟨some 9,none,.no,.mv (.t 0)⟩,
  ⟨some 10,none,.no,.bin .sub .none (.t 8) (.t 9)⟩,
  ⟨some 11,none,.no,.call (.v (.fn 48 [])) [(.t 10)]⟩,
  ⟨some 7,none,.no,.mv (.t 11)⟩]
@[go_sem] def qgr2 : List AIns := [
  ⟨some 12,none,.no,.mv (.t 7)⟩,
  ⟨some 13,none,.no,.bin .eql .none (.t 12) (.v (.int .i64 0))⟩]
@[go_sem] def qgr3 : List AIns := [
  ⟨some 14,none,.no,.load false 1 (.t 2)⟩,
  ⟨some 15,none,.no,.mv (.t 0)⟩,
  ⟨some 16,none,.no,.iaSl 32 (.t 14) (.t 15)⟩,
  ⟨some 17,none,.no,.load true 32 (.t 16)⟩,
  ⟨none,none,.no,.store 32 (.t 6) (.t 17)⟩]
def qgc4 : ACode := .seq (.reg qgr3) .ret
def qgc5 : ACode := .cond (.t 13) qgc4 .skip
def qgc6 : ACode := .seq (.reg qgr2) qgc5
@[go_sem] def qgr7 : List AIns := [
  ⟨some 18, none, .rd, .load false 1 (.t 3)⟩,
  ⟨some 19,none,.no,.mv (.t 0)⟩,
  ⟨some 20,none,.no,.mv (.t 0)⟩,
  ⟨some 21,none,.no,.mv (.t 7)⟩,
  ⟨some 22,none,.no,.bin .add .none (.t 20) (.t 21)⟩,
  ⟨some 23, none, .ef, .call (.t 18) [(.t 19), (.t 22)]⟩,
  ⟨some 24, none, .rd, .load false 1 (.t 3)⟩,
  ⟨some 25,none,.no,.mv (.t 0)⟩,
  ⟨some 26,none,.no,.mv (.t 7)⟩,
  ⟨some 27,none,.no,.bin .add .none (.t 25) (.t 26)⟩,
  ⟨some 28,none,.no,.mv (.t 1)⟩,
  ⟨some 29,none,.no,.call (.t 24) [(.t 27), (.t 28)]⟩,
  ⟨some 30,none,.no,.call (.v (.fn 49 [])) [(.t 23), (.t 29)]⟩,
  ⟨none,none,.no,.store 32 (.t 6) (.t 30)⟩]
def qgc8 : ACode := .seq (.reg qgr7) .ret
def qgc9 : ACode := .seq qgc6 qgc8
def qgc10 : ACode := .seq (.reg qgr1) qgc9
def qgc11 : ACode := .seq (.reg qgr0) qgc10
theorem qgok : cFn TC 47 = some (31, [.c 6 true 32], qgc11) := by kernel_rfl

@[go_sem] def qhr0 : List AIns := [
  ⟨some 2,none,.no,.alloc zZ0⟩]
@[go_sem] def qhr1 : List AIns := [
  ⟨some 4,none,.no,.mv (.t 0)⟩,
  ⟨some 5,none,.no,.lenSl (.t 4)⟩,
  ⟨some 6,none,.no,.bin .eql .none (.t 5) (.v (.int .i64 0))⟩]
@[go_sem] def qhr2 : List AIns := [
  ⟨some 7,none,.no,.call (.v (.fn 69 [])) [(.v (.str []))]⟩,
  ⟨none,none,.no,.store 32 (.t 2) (.t 7)⟩]
def qhc3 : ACode := .seq (.reg qhr2) .ret
def qhc4 : ACode := .cond (.t 6) qhc3 .skip
def qhc5 : ACode := .seq (.reg qhr1) qhc4
@[go_sem] def qhr6 : List AIns := [
  ⟨some 8,none,.no,.mv (.t 0)⟩,
  ⟨some 9,none,.no,.lenSl (.t 8)⟩,
  ⟨some 10,none,.no,.bin .eql .none (.t 9) (.v (.int .i64 1))⟩]
@[go_sem] def qhr7 : List AIns := [
  ⟨some 11,none,.no,.mv (.t 0)⟩,
  ⟨some 12,none,.no,.iaSl 32 (.t 11) (.v (.int .i64 0))⟩,
  ⟨some 13,none,.no,.load true 32 (.t 12)⟩,
  ⟨none,none,.no,.store 32 (.t 2) (.t 13)⟩]
def qhc8 : ACode := .seq (.reg qhr7) .ret
def qhc9 : ACode := .cond (.t 10) qhc8 .skip
def qhc10 : ACode := .seq (.reg qhr6) qhc9
@[go_sem] def qhr11 : List AIns := [
  ⟨some 14,none,.no,.mv (.t 0)⟩,
  ⟨some 15,none,.no,.lenSl (.t 14)⟩,
  ⟨some 16,none,.no,.call (.v (.fn 70 [])) [(.t 15)]⟩,
  ⟨some 3,none,.no,.mv (.t 16)⟩]
@[go_sem] def qhr12 : List AIns := [
  ⟨some 17,none,.no,.mv (.t 0)⟩,
  ⟨some 18,none,.no,.mv (.t 3)⟩,
  ⟨some 19,none,.no,.slice (.sl 32) (.t 17) none (some (.t 18)) none⟩,
  ⟨some 20,none,.no,.call (.v (.fn 51 [])) [(.t 19)]⟩,
  ⟨some 21,none,.no,.mv (.t 0)⟩,
  ⟨some 22,none,.no,.mv (.t 3)⟩,
  ⟨some 23,none,.no,.slice (.sl 32) (.t 21) (some (.t 22)) none none⟩,
  ⟨some 24,none,.no,.call (.v (.fn 51 [])) [(.t 23)]⟩,
  ⟨some 25,none,.no,.call (.v (.fn 71 [])) [(.t 20), (.t 24)]⟩,
  ⟨none,none,.no,.store 32 (.t 2) (.t 25)⟩]
def qhc13 : ACode := .seq (.reg qhr12) .ret
def qhc14 : ACode := .seq (.reg qhr11) qhc13
def qhc15 : ACode := .seq qhc10 qhc14
def qhc16 : ACode := .seq qhc5 qhc15
def qhc17 : ACode := .seq (.reg qhr0) qhc16
theorem qhok : cFn TC 51 = some (26, [.c 2 true 32], qhc17) := by kernel_rfl

@[go_sem] def qir0 : List AIns := [
  ⟨some 2,none,.no,.box (.t 0)⟩,
  ⟨some 3,none,.no,.box (.t 1)⟩,
  ⟨some 4,none,.no,.alloc zZ0⟩]
@[go_sem] def qir1 : List AIns := [
  ⟨some 5, none, .rd, .load true 32 (.t 2)⟩,
  ⟨some 6, none, .ef, .call (.v (.fn 74 [])) [(.t 5)]⟩,
  ⟨some 7,none,.no,.bin .add .none (.v (.str [1])) (.t 6)⟩,
  ⟨some 8, none, .rd, .load true 32 (.t 3)⟩,
  ⟨some 9,none,.no,.call (.v (.fn 74 [])) [(.t 8)]⟩,
  ⟨some 10,none,.no,.bin .add .none (.t 7) (.t 9)⟩,
  ⟨some 11,none,.no,.call (.v (.fn 69 [])) [(.t 10)]⟩,
  ⟨none,none,.no,.store 32 (.t 4) (.t 11)⟩]
def qic2 : ACode := .seq (.reg qir1) .ret
def qic3 : ACode := .seq (.reg qir0) qic2
theorem qiok : cFn TC 71 = some (12, [.c 4 true 32], qic3) := by kernel_rfl

@[go_sem] def qjr0 : List AIns := [
  ⟨some 1,none,.no,.box (.t 0)⟩,
  ⟨some 2,none,.no,.mv (.v (.str []))⟩]
@[go_sem] def qjr1 : List AIns := [
  ⟨some 3,none,.no,.mv (.v .nilsl)⟩]
@[go_sem] def qjr2 : List AIns := [
  ⟨some 4,none,.no,.mv (.v (.int .i64 0))⟩]
@[go_sem] def qjr3 : List AIns := [
  ⟨some 5,none,.no,.mv (.t 4)⟩,
  ⟨some 6,none,.no,.bin .lss .none (.t 5) (.v (.int .i64 32))⟩]
def qjc4 : ACode := .cond (.t 6) .skip (.exit 0)
def qjc5 : ACode := .seq (.reg qjr3) qjc4
@[go_sem] def qjr6 : List AIns := [
  ⟨some 9,none,.no,.mv (.t 3)⟩,
  ⟨some 10,none,.no,.mv (.t 4)⟩,
  ⟨some 11,none,.no,.iaArr 32 1 (.t 1) (.t 10)⟩,
  ⟨some 12,none,.no,.load false 1 (.t 11)⟩,
  ⟨some 13,none,.no,.lit 1 [(.t 12)]⟩,
  ⟨some 14,none,.no,.appB (.t 9) (.t 13)⟩,
  ⟨some 3,none,.no,.mv (.t 14)⟩]
@[go_sem] def qjr7 : List AIns := [
  ⟨some 7,none,.no,.mv (.t 4)⟩,
  ⟨some 8,none,.no,.bin .add .none (.t 7) (.v (.int .i64 1))⟩,
  ⟨some 4,none,.no,.mv (.t 8)⟩]
def qjc8 : ACode := .seq (.block 1 (.reg qjr6)) (.reg qjr7)
def qjc9 : ACode := .seq qjc5 qjc8
def qjc10 : ACode := .loop qjc9
def qjc11 : ACode := .block 0 qjc10
def qjc12 : ACode := .seq (.reg qjr2) qjc11
@[go_sem] def qjr13 : List AIns := [
  ⟨some 15,none,.no,.mv (.t 3)⟩,
  ⟨some 16,none,.no,.conv .str (.t 15)⟩,
  ⟨some 2,none,.no,.mv (.t 16)⟩]
def qjc14 : ACode := .seq (.reg qjr13) .ret
def qjc15 : ACode := .seq qjc12 qjc14
def qjc16 : ACode := .seq (.reg qjr1) qjc15
def qjc17 : ACode := .seq (.reg qjr0) qjc16
theorem qjok : cFn TC 74 = some (17, [.t 2], qjc17) := by kernel_rfl

@[go_sem] def qkr0 : List AIns := [
  ⟨some 1,none,.no,.box (.t 0)⟩,
  ⟨some 2,none,.no,.mv (.v (.str []))⟩]
@[go_sem] def qkr1 : List AIns := [
  ⟨some 3,none,.no,.slice (.arr 32 1) (.t 1) none none none⟩,
  ⟨some 4,none,.no,.conv .str (.t 3)⟩,
  ⟨some 2,none,.no,.mv (.t 4)⟩]
def qkc2 : ACode := .seq (.reg qkr1) .ret
def qkc3 : ACode := .seq (.reg qkr0) qkc2
theorem qkok : cFn TC 62 = some (5, [.t 2], qkc3) := by kernel_rfl

@[go_sem] def qlr0 : List AIns := [
  ⟨some 2,none,.no,.mv (.v (.int .i64 0))⟩]
@[go_sem] def qlr1 : List AIns := [
  ⟨some 3,none,.no,.mv (.v (.int .i64 0))⟩]
@[go_sem] def qlr2 : List AIns := [
  ⟨some 4,none,.no,.mv (.v (.int .i64 1))⟩]
@[go_sem] def qlr3 : List AIns := [
  ⟨some 5,none,.no,.mv (.t 4)⟩,
  ⟨some 6,none,.no,.mv (.t 0)⟩,
  ⟨some 7,none,.no,.bin .lss .none (.t 5) (.t 6)⟩,
  ⟨some 8,none,.no,.mv (.t 7)⟩,
  ⟨some 9, some (8, true), .no, .mv (.t 4)⟩,
  ⟨some 10, some (8, true), .no, .bin .gtr .none (.t 9) (.v (.int .i64 0))⟩,
  ⟨some 11,none,.no,.pick (.t 8) (.t 10) (.v (.bool false))⟩]
def qlc4 : ACode := .cond (.t 11) .skip (.exit 0)
def qlc5 : ACode := .seq (.reg qlr3) qlc4
@[go_sem] def qlr6 : List AIns := [
  ⟨some 14,none,.no,.mv (.t 4)⟩,
  ⟨some 3,none,.no,.mv (.t 14)⟩]
@[go_sem] def qlr7 : List AIns := [
  ⟨some 12,none,.no,.mv (.t 4)⟩,
  ⟨some 13,none,.no,.bin .mul .none (.t 12) (.v (.int .i64 2))⟩,
  ⟨some 4,none,.no,.mv (.t 13)⟩]
def qlc8 : ACode := .seq (.block 1 (.reg qlr6)) (.reg qlr7)
def qlc9 : ACode := .seq qlc5 qlc8
def qlc10 : ACode := .loop qlc9
def qlc11 : ACode := .block 0 qlc10
def qlc12 : ACode := .seq (.reg qlr2) qlc11
@[go_sem] def qlr13 : List AIns := [
  ⟨some 15,none,.no,.mv (.t 3)⟩,
  ⟨some 2,none,.no,.mv (.t 15)⟩]
def qlc14 : ACode := .seq (.reg qlr13) .ret
def qlc15 : ACode := .seq qlc12 qlc14
def qlc16 : ACode := .seq (.reg qlr1) qlc15
def qlc17 : ACode := .seq (.reg qlr0) qlc16
theorem qlok : cFn TC 70 = some (16, [.t 2], qlc17) := by kernel_rfl
end Am
end Go.Proofs.YtjgljhbmljgaeaaDoor
end
section
/- Trees: contracts: a hash's bytes, Node. -/
namespace Go.Proofs.YtjgljhbmljgaeaaDoor
namespace Am
theorem zct (s : List UInt8) : (shaS s).length = 32 := z4m _
def z1e (a b : List UInt8) : List UInt8 := shaS (1 :: (a ++ b))
theorem z3c (a b : List UInt8) : (z1e a b).length = 32 := zct _
theorem zeo : ∀ (l : List UInt8), chunk 1 l.length (z8 l) = zh l
  | [] => rfl
  | b :: l => by
    have := zeo l
    simp only [z8, zh] at this
    simp [z8, zh, chunk, B8] at this ⊢
    exact this
theorem z88 (Y : Store) (h : List UInt8) (hl : h.length = 32) : ACallsTo TC 62 [.agg (z8 h)] Y (.str h) Y := by
  refine ACallsTo.of_body qkok (by simp) fun hw _ => ?_
  have h1 := zn h
  have hc := zeo h
  rw [hl] at h1 hc
  repeat' (first|refine zW.zs ?_|refine zW.zb ?_|refine zW.zc ?_|refine zW.zt rfl ?_|refine zW.zf rfl ?_|(refine zW.zd rfl (fun ht => ?_) (fun ht => ?_)<;>try (exfalso;omega))|((first|refine zW.zr ?_|refine zW.zk ?_|refine zW.ze ?_|refine zW.zq ?_|((first|apply zg0|apply zg1|apply zg2|apply zg3|apply zg4|apply zg5|apply zg6|apply zg7)<;>intro ht));all_goals try simp (disch:=first|omega|(simp only [lens];first|done|omega)) only [go_sem,reduceEqDiff,Nat.reduceBEq,reduceAdd,reduceMul,reduceSub,reduceLeDiff,reduceToNat,reducePow, h1, hc]))
  exact DownV.pure hw (zz _ rfl)
/-- Own elements behind what was there, or none yet. -/
def OwnN (sz : Nat) (τ Y' : Store) (v : AV) (es : List (List AV)) : Prop :=
  ∃ news, Y' = τ ++ news /\ ((es = [] /\ v = .nilsl) \/ ∃ j, es ≠ [] /\ v = .sl (τ.length + j) 0 es.length none sz /\ news[j]? = some (some es))
theorem OwnN.len {sz : Nat} {τ Y' : Store} {v : AV} {es : List (List AV)} (h : OwnN sz τ Y' v es) : z1k v = some (.int .i64 es.length) := by
  obtain ⟨news, rfl, ⟨rfl, rfl⟩ | ⟨j, _, rfl, h⟩⟩ := h <;> rfl
theorem OwnN.appB {sz : Nat} {τ Y' : Store} {v : AV} {es ys : List (List AV)} (h : OwnN sz τ Y' v es) : z3w Y' v ys = aApp Y' 1 v ys := by
  obtain ⟨news, rfl, ⟨rfl, rfl⟩ | ⟨j, _, rfl, h⟩⟩ := h <;> rfl
theorem OwnN.nil {sz : Nat} {τ news : Store} : OwnN sz τ (τ ++ news) .nilsl [] := ⟨news, rfl, .inl ⟨rfl, rfl⟩⟩
theorem OwnN.ext {sz : Nat} {τ Y' : Store} {v : AV} {es : List (List AV)} (h : OwnN sz τ Y' v es) : ∃ news, Y' = τ ++ news := by
  obtain ⟨news, h, _⟩ := h; exact ⟨news, h⟩
/-- What others append behind leaves it. -/
theorem OwnN.more {sz : Nat} {τ Y' : Store} {v : AV} {es : List (List AV)} (h : OwnN sz τ Y' v es) (y : Store) : OwnN sz τ (Y' ++ y) v es := by
  obtain ⟨news, rfl, h | ⟨j, h0, rfl, h⟩⟩ := h
  · exact ⟨news ++ y, by rw [List.append_assoc], .inl h⟩
  · exact ⟨news ++ y, by rw [List.append_assoc], .inr ⟨j, h0, rfl, by rw [List.getElem?_append_left (List.getElem?_eq_some_iff.1 h).1]; exact h⟩⟩
theorem OwnN.app {sz : Nat} {τ Y' : Store} {v : AV} {es ys : List (List AV)} (h : OwnN sz τ Y' v es) (h0 : ys.length ≠ 0) (hl : es.length + ys.length <= 1073741824) :
    ∃ v' Y'', aApp Y' sz v ys = some (v', Y'') /\ OwnN sz τ Y'' v' (es ++ ys) := by
  have hne : es ++ ys ≠ [] := fun e => h0 (by rw [(List.append_eq_nil_iff.1 e).2]; rfl)
  obtain ⟨news, rfl, ⟨rfl, rfl⟩ | ⟨j, _, rfl, h⟩⟩ := h
  · refine ⟨_, _, by rw [zar, if_neg h0, if_pos (by simpa using hl)], news ++ [some ys], by rw [List.append_assoc], .inr ⟨news.length, hne, by simp, by rw [List.getElem?_append_right (Nat.le_refl _)]; simp⟩⟩
  · have hj := (List.getElem?_eq_some_iff.1 h).1
    have hg : (τ ++ news)[τ.length + j]? = some (some es) := by rw [List.getElem?_append_right (by omega), Nat.add_sub_cancel_left]; exact h
    refine ⟨.sl (τ ++ news).length 0 (es.length + ys.length) none sz, (τ ++ news).set (τ.length + j) none ++ [some (es ++ ys)], ?_, news.set j none ++ [some (es ++ ys)], ?_, .inr ⟨news.length, hne, by simp, by rw [List.getElem?_append_right (by simp)]; simp⟩⟩
    · rw [z9i, if_neg h0, hg]
      simp only
      rw [if_pos ⟨trivial, by omega, by omega⟩, if_neg (by omega), List.drop_zero, List.take_of_length_le (Nat.le_refl _)]
    · rw [List.set_append_right _ _ (by omega), Nat.add_sub_cancel_left, List.append_assoc]
theorem OwnN.sl {sz : Nat} {τ Y' : Store} {v : AV} {es : List (List AV)} (h : OwnN sz τ Y' v es) (h0 : es ≠ []) : ∃ r, v = .sl r 0 es.length none sz /\ Y'[r]? = some (some es) /\ τ.length <= r := by
  obtain ⟨news, rfl, ⟨rfl, rfl⟩ | ⟨j, _, rfl, h⟩⟩ := h
  · exact absurd rfl h0
  · exact ⟨_, rfl, by rw [List.getElem?_append_right (by omega), Nat.add_sub_cancel_left]; exact h, by omega⟩
/-- A slice that nobody writes. -/
def SlV (sz : Nat) (es : List (List AV)) (x : AV) : Prop := (x = .nilsl /\ es = []) \/ ∃ ex, x = .vsl sz es ex
theorem SlV.len {sz : Nat} {es : List (List AV)} {x : AV} (h : SlV sz es x) : z1k x = some (.int .i64 es.length) := by
  rcases h with ⟨rfl, rfl⟩ | ⟨ex, rfl⟩ <;> rfl
theorem SlV.vsl {sz : Nat} {es : List (List AV)} {x : AV} (h : SlV sz es x) (h0 : 0 < es.length) : ∃ ex, x = .vsl sz es ex := by
  rcases h with ⟨rfl, rfl⟩ | h
  · simp at h0
  · exact h
def z11 (sz : Nat) (es : List (List AV)) : AV := if es = [] then .nilsl else .vsl sz es false
theorem z6l (sz : Nat) (es : List (List AV)) : SlV sz es (z11 sz es) := by
  unfold z11
  split
  · rename_i h; exact .inl ⟨rfl, h⟩
  · exact .inr ⟨false, rfl⟩
/-- A new slice for the caller: who, and the store with it. -/
def ownV (Y : Store) (sz : Nat) (es : List (List AV)) : AV := if es = [] then .nilsl else .sl Y.length 0 es.length none sz
def ownS (Y : Store) (es : List (List AV)) : Store := if es = [] then Y else Y ++ [some es]
theorem z9z (Y : Store) (sz : Nat) (es : List (List AV)) : OwnN sz Y (ownS Y es) (ownV Y sz es) es := by
  unfold ownV ownS
  by_cases h : es = []
  · rw [if_pos h, if_pos h]; exact ⟨[], by simp, .inl ⟨h, rfl⟩⟩
  · rw [if_neg h, if_neg h]; exact ⟨[some es], rfl, .inr ⟨0, h, rfl, rfl⟩⟩
/-- At a function's end it is a value .. -/
theorem OwnN.froze {sz : Nat} {Y Y' : Store} {v : AV} {es : List (List AV)} (hw : Wf Y.length Y) (h : OwnN sz Y Y' v es) (hr : RLss Y.length es) : DownV Y.length v Y' (z11 sz es) Y := by
  unfold z11
  obtain ⟨news, rfl, ⟨rfl, rfl⟩ | ⟨j, h0, rfl, h⟩⟩ := h
  · rw [if_pos rfl]; exact DownV.pure hw (zz _ rfl)
  · have e : (es.drop 0).take es.length = es := by rw [List.drop_zero, List.take_of_length_le (Nat.le_refl _)]
    have := DownV.froze (off := 0) (len := es.length) (esz := sz) (lim := none) hw h (by omega) (by rw [e]; exact hr)
    rw [e] at this
    rw [if_neg h0]; exact this
/-- .. or its caller's own. -/
theorem OwnN.own {sz : Nat} {Y Y' : Store} {v : AV} {es : List (List AV)} (hw : Wf Y.length Y) (h : OwnN sz Y Y' v es) (hr : RLss Y.length es) : DownV Y.length v Y' (ownV Y sz es) (ownS Y es) := by
  unfold ownV ownS
  obtain ⟨news, rfl, ⟨rfl, rfl⟩ | ⟨j, h0, rfl, h⟩⟩ := h
  · rw [if_pos rfl, if_pos rfl]; exact DownV.pure hw (zz _ rfl)
  · rw [if_neg h0, if_neg h0]; exact DownV.own (off := 0) (len := es.length) (esz := sz) (lim := none) hw h hr
theorem zjo {l : List UInt8} {i : Nat} (h : i < l.length) : (z8 l)[i]? = some (.int .u8 (l.getD i 0).toNat) := by
  simp [z8, List.getD_eq_getElem?_getD, List.getElem?_eq_getElem h]
set_option maxHeartbeats 4000000 in
theorem z8o (Y : Store) (h : List UInt8) (hl : h.length = 32) : ACallsTo TC 74 [.agg (z8 h)] Y (.str h) Y := by
  refine ACallsTo.of_body qjok (by simp) fun hw _ => ?_
  have h1 := zn h
  rw [hl] at h1
  repeat' (first|refine zW.zs ?_|refine zW.zb ?_|refine zW.zc ?_|refine zW.zt rfl ?_|refine zW.zf rfl ?_|(refine zW.zd rfl (fun ht => ?_) (fun ht => ?_)<;>try (exfalso;omega))|((first|refine zW.zr ?_|refine zW.zk ?_|refine zW.ze ?_|refine zW.zq ?_|((first|apply zg0|apply zg1|apply zg2|apply zg3|apply zg4|apply zg5|apply zg6|apply zg7)<;>intro ht));all_goals try simp (disch:=first|omega|(simp only [lens];first|done|omega)) only [go_sem,reduceEqDiff,Nat.reduceBEq,reduceAdd,reduceMul,reduceSub,reduceLeDiff,reduceToNat,reducePow, h1]))
  refine zW.loop (fun m O Y' => ∃ i : Nat, m + i = 32 /\ O 1 = .ptr Y.length 0 0 /\ O 4 = .int .i64 i /\ OwnN 1 (Y ++ [some [z8 h]]) Y' (O 3) (zh (h.take i))) 32 ?_ ?_
  · refine ⟨0, by omega, by simp (disch:=first|omega|(simp only [lens];first|done|omega)) only [go_sem,reduceEqDiff,Nat.reduceBEq,reduceAdd,reduceMul,reduceSub,reduceLeDiff,reduceToNat,reducePow], by simp (disch:=first|omega|(simp only [lens];first|done|omega)) only [go_sem,reduceEqDiff,Nat.reduceBEq,reduceAdd,reduceMul,reduceSub,reduceLeDiff,reduceToNat,reducePow]; rfl, ?_⟩
    simp (disch:=first|omega|(simp only [lens];first|done|omega)) only [go_sem,reduceEqDiff,Nat.reduceBEq,reduceAdd,reduceMul,reduceSub,reduceLeDiff,reduceToNat,reducePow]
    have := OwnN.nil (sz := 1) (τ := Y ++ [some [z8 h]]) (news := [])
    rwa [List.append_nil] at this
  · rintro m O Y' ⟨i, hm, q1, q4, hO⟩
    by_cases hi : i < 32
    · have hg := zjo (l := h) (i := i) (by omega)
      have hs : h.take (i + 1) = h.take i ++ [h.getD i 0] := by
        rw [List.take_add_one, List.getD_eq_getElem?_getD, List.getElem?_eq_getElem (by omega)]; rfl
      obtain ⟨v', Y2, he, hO2⟩ := hO.app (ys := zh [h.getD i 0]) (by simp [zh]) (by simp [z13]; omega)
      have ho : Y'[Y.length]? = some (some [z8 h]) := by
        obtain ⟨news, rfl, _⟩ := hO
        rw [List.append_assoc, List.getElem?_append_right (Nat.le_refl _), Nat.sub_self]; rfl
      have hb : zh [h.getD i 0] = [[.int .u8 (h.getD i 0).toNat]] := rfl
      rw [hb] at he
      rw [<- hO.appB] at he
      generalize h.getD i 0 = x at *
      generalize hv : O 3 = v at *
      repeat' (first|refine zW.zs ?_|refine zW.zb ?_|refine zW.zc ?_|refine zW.zt rfl ?_|refine zW.zf rfl ?_|(refine zW.zd rfl (fun ht => ?_) (fun ht => ?_)<;>try (exfalso;omega))|((first|refine zW.zr ?_|refine zW.zk ?_|refine zW.ze ?_|refine zW.zq ?_|((first|apply zg0|apply zg1|apply zg2|apply zg3|apply zg4|apply zg5|apply zg6|apply zg7)<;>intro ht));all_goals try simp (disch:=first|omega|(simp only [lens];first|done|omega)) only [go_sem,reduceEqDiff,Nat.reduceBEq,reduceAdd,reduceMul,reduceSub,reduceLeDiff,reduceToNat,reducePow, q1, q4, hv, ho, h1, hg, he]))
      refine ⟨32 - (i + 1), by omega, i + 1, by omega, by simp, ?_⟩
      rw [hs, <- ze6]
      exact hO2
    · obtain rfl : i = 32 := by omega
      rw [List.take_of_length_le (by omega)] at hO
      obtain ⟨r, q3, hg, _⟩ := hO.sl (by intro e; have := z13 h; rw [e] at this; simp at this; omega)
      rw [z13] at q3
      repeat' (first|refine zW.zs ?_|refine zW.zb ?_|refine zW.zc ?_|refine zW.zt rfl ?_|refine zW.zf rfl ?_|(refine zW.zd rfl (fun ht => ?_) (fun ht => ?_)<;>try (exfalso;omega))|((first|refine zW.zr ?_|refine zW.zk ?_|refine zW.ze ?_|refine zW.zq ?_|((first|apply zg0|apply zg1|apply zg2|apply zg3|apply zg4|apply zg5|apply zg6|apply zg7)<;>intro ht));all_goals try simp (disch:=first|omega|(simp only [lens];first|done|omega)) only [go_sem,reduceEqDiff,Nat.reduceBEq,reduceAdd,reduceMul,reduceSub,reduceLeDiff,reduceToNat,reducePow, q1, q4, q3, hg]))
      obtain ⟨news, rfl, _⟩ := hO
      rw [List.append_assoc]
      exact DownV.pure hw (zz _ rfl)
theorem z1q (Y : Store) (a b : List UInt8) (ha : a.length = 32) (hb : b.length = 32) : ACallsTo TC 49 [.agg (z8 a), .agg (z8 b)] Y (.agg (z8 (z1e a b))) Y := by
  refine ACallsTo.of_body qeok (by simp) fun hw _ => ?_
  have h1 := zn a
  have h2 := zn b
  have h3 := zn (z1e a b)
  rw [ha] at h1
  rw [hb] at h2
  rw [z3c] at h3
  obtain ⟨n, hn⟩ : ∃ n, n = z1e a b := ⟨_, rfl⟩
  have hs : ∀ Y, ACallsTo TC 46 [.str (1 :: (a ++ b))] Y (.agg (z8 n)) Y := fun Y => by rw [hn]; exact z7d Y _ (by simp; omega)
  rw [<- hn] at h3 ⊢
  repeat' (first | refine zW.zs ?_ | refine zW.zb ?_ | refine zW.zc ?_ | refine zW.zt rfl ?_ | refine zW.zf rfl ?_ | (refine zW.zd rfl (fun ht => ?_) (fun ht => ?_) <;> try (exfalso; omega)) | ((first | refine zW.regS ?_ | refine zW.zk ?_ | refine zW.ze ?_ | refine zW.zq ?_ | (apply callW.mk_pu; (first | exact (fun _ => z88 _ _ ha) | exact (fun _ => z88 _ _ hb) | exact (fun _ => hs _))) | (apply callW.za; (first | exact (z88 _ _ ha) | exact (z88 _ _ hb) | exact (hs _))) | ((first|apply zg0|apply zg1|apply zg2|apply zg3|apply zg4|apply zg5|apply zg6|apply zg7)<;>intro ht));all_goals try simp (disch:=first|omega|(simp only [lens];first|done|omega)) only [go_sem,reduceEqDiff,Nat.reduceBEq,reduceAdd,reduceMul,reduceSub,reduceLeDiff,reduceToNat,reducePow, h1, h2, h3]))
  exact DownV.pure hw (z2g (z25 _))
theorem zgm (Y : Store) (a b : List UInt8) (ha : a.length = 32) (hb : b.length = 32) : ACallsTo TC 71 [.agg (z8 a), .agg (z8 b)] Y (.agg (z8 (z1e a b))) Y := by
  refine ACallsTo.of_body qiok (by simp) fun hw _ => ?_
  have h1 := zn a
  have h2 := zn b
  have h3 := zn (z1e a b)
  rw [ha] at h1
  rw [hb] at h2
  rw [z3c] at h3
  obtain ⟨n, hn⟩ : ∃ n, n = z1e a b := ⟨_, rfl⟩
  have hs : ∀ Y, ACallsTo TC 69 [.str (1 :: (a ++ b))] Y (.agg (z8 n)) Y := fun Y => by rw [hn]; exact z71 Y _ (by simp; omega)
  rw [<- hn] at h3 ⊢
  repeat' (first | refine zW.zs ?_ | refine zW.zb ?_ | refine zW.zc ?_ | refine zW.zt rfl ?_ | refine zW.zf rfl ?_ | (refine zW.zd rfl (fun ht => ?_) (fun ht => ?_) <;> try (exfalso; omega)) | ((first | refine zW.regS ?_ | refine zW.zk ?_ | refine zW.ze ?_ | refine zW.zq ?_ | (apply callW.mk_pu; (first | exact (fun _ => z8o _ _ ha) | exact (fun _ => z8o _ _ hb) | exact (fun _ => hs _))) | (apply callW.za; (first | exact (z8o _ _ ha) | exact (z8o _ _ hb) | exact (hs _))) | ((first|apply zg0|apply zg1|apply zg2|apply zg3|apply zg4|apply zg5|apply zg6|apply zg7)<;>intro ht));all_goals try simp (disch:=first|omega|(simp only [lens];first|done|omega)) only [go_sem,reduceEqDiff,Nat.reduceBEq,reduceAdd,reduceMul,reduceSub,reduceLeDiff,reduceToNat,reducePow, h1, h2, h3]))
  exact DownV.pure hw (z2g (z25 _))
end Am
end Go.Proofs.YtjgljhbmljgaeaaDoor
end
section
/- Trees: contracts: Split, Root. -/
namespace Go.Proofs.YtjgljhbmljgaeaaDoor
namespace Am
def zj (n : Nat) : Nat := if n < 2 then 0 else 2 ^ Nat.log2 (n - 1)
theorem z5k {n : Nat} (h : 2 <= n) : zj n < n /\ n <= 2 * zj n /\ 0 < zj n := by
  unfold zj
  rw [if_neg (by omega)]
  have h1 := Nat.log2_self_le (n := n - 1) (by omega)
  have h2 := Nat.lt_log2_self (n := n - 1)
  rw [Nat.pow_succ] at h2
  have h3 : 0 < 2 ^ Nat.log2 (n - 1) := Nat.pow_pos (by decide)
  omega
theorem zac {n j : Nat} (h1 : 2 ^ j < n) (h2 : n <= 2 ^ (j + 1)) : zj n = 2 ^ j := by
  have h3 : 0 < 2 ^ j := Nat.pow_pos (by decide)
  unfold zj
  rw [if_neg (by omega)]
  have h4 := Nat.log2_self_le (n := n - 1) (by omega)
  have h5 := Nat.lt_log2_self (n := n - 1)
  congr 1
  generalize Nat.log2 (n - 1) = i at *
  have a1 : 2 ^ j < 2 ^ (i + 1) := by omega
  have a2 : 2 ^ i < 2 ^ (j + 1) := by omega
  have b1 := (Nat.pow_lt_pow_iff_right (by decide : 1 < 2)).1 a1
  have b2 := (Nat.pow_lt_pow_iff_right (by decide : 1 < 2)).1 a2
  omega
theorem z8y (Y : Store) (n : Nat) (h : n < 1000000000000) : ACallsTo TC 48 [.int .i64 n] Y (.int .i64 (zj n)) Y := by
  refine ACallsTo.of_body qfok (by simp) fun hw _ => ?_
  by_cases h2 : n < 2
  · have e : zj n = 0 := by unfold zj; rw [if_pos h2]
    rw [e]
    repeat' (first|refine zW.zs ?_|refine zW.zb ?_|refine zW.zc ?_|refine zW.zt rfl ?_|refine zW.zf rfl ?_|(refine zW.zd rfl (fun ht => ?_) (fun ht => ?_)<;>try (exfalso;omega))|((first|refine zW.zr ?_|refine zW.zk ?_|refine zW.ze ?_|refine zW.zq ?_|((first|apply zg0|apply zg1|apply zg2|apply zg3|apply zg4|apply zg5|apply zg6|apply zg7)<;>intro ht));all_goals try simp (disch:=first|omega|(simp only [lens];first|done|omega)) only [go_sem,reduceEqDiff,Nat.reduceBEq,reduceAdd,reduceMul,reduceSub,reduceLeDiff,reduceToNat,reducePow]))
    exact DownV.same hw (zz _ rfl)
  · repeat' (first|refine zW.zs ?_|refine zW.zb ?_|refine zW.zc ?_|refine zW.zt rfl ?_|refine zW.zf rfl ?_|(refine zW.zd rfl (fun ht => ?_) (fun ht => ?_)<;>try (exfalso;omega))|((first|refine zW.zr ?_|refine zW.zk ?_|refine zW.ze ?_|refine zW.zq ?_|((first|apply zg0|apply zg1|apply zg2|apply zg3|apply zg4|apply zg5|apply zg6|apply zg7)<;>intro ht));all_goals try simp (disch:=first|omega|(simp only [lens];first|done|omega)) only [go_sem,reduceEqDiff,Nat.reduceBEq,reduceAdd,reduceMul,reduceSub,reduceLeDiff,reduceToNat,reducePow]))
    refine zW.loop (fun m O Y' => ∃ j : Nat, m = n - 2 ^ j /\ 2 ^ j < n /\ O 0 = .int .i64 n /\ O 3 = .int .i64 ((2 ^ j : Nat) : Int) /\ Y' = Y) (n - 1) ?_ ?_
    · exact ⟨0, rfl, by omega, by simp (disch:=first|omega|(simp only [lens];first|done|omega)) only [go_sem,reduceEqDiff,Nat.reduceBEq,reduceAdd,reduceMul,reduceSub,reduceLeDiff,reduceToNat,reducePow], by simp (disch:=first|omega|(simp only [lens];first|done|omega)) only [go_sem,reduceEqDiff,Nat.reduceBEq,reduceAdd,reduceMul,reduceSub,reduceLeDiff,reduceToNat,reducePow]; rfl, rfl⟩
    · rintro m O Y' ⟨j, hm, hj, q0, q3, rfl⟩
      have hp : 0 < 2 ^ j := Nat.pow_pos (by decide)
      have hs : 2 ^ (j + 1) = 2 ^ j * 2 := Nat.pow_succ ..
      generalize hk : 2 ^ j = k at *
      by_cases hc : (k : Int) < n - k
      · repeat' (first|refine zW.zs ?_|refine zW.zb ?_|refine zW.zc ?_|refine zW.zt rfl ?_|refine zW.zf rfl ?_|(refine zW.zd rfl (fun ht => ?_) (fun ht => ?_)<;>try (exfalso;omega))|((first|refine zW.zr ?_|refine zW.zk ?_|refine zW.ze ?_|refine zW.zq ?_|((first|apply zg0|apply zg1|apply zg2|apply zg3|apply zg4|apply zg5|apply zg6|apply zg7)<;>intro ht));all_goals try simp (disch:=first|omega|(simp only [lens];first|done|omega)) only [go_sem,reduceEqDiff,Nat.reduceBEq,reduceAdd,reduceMul,reduceSub,reduceLeDiff,reduceToNat,reducePow, q0, q3]))
        exact ⟨n - k * 2, by omega, j + 1, by rw [hs], by omega, by rw [hs]; rfl⟩
      · have e : zj n = k := by rw [<- hk]; exact zac (by omega) (by omega)
        rw [e]
        repeat' (first|refine zW.zs ?_|refine zW.zb ?_|refine zW.zc ?_|refine zW.zt rfl ?_|refine zW.zf rfl ?_|(refine zW.zd rfl (fun ht => ?_) (fun ht => ?_)<;>try (exfalso;omega))|((first|refine zW.zr ?_|refine zW.zk ?_|refine zW.ze ?_|refine zW.zq ?_|((first|apply zg0|apply zg1|apply zg2|apply zg3|apply zg4|apply zg5|apply zg6|apply zg7)<;>intro ht));all_goals try simp (disch:=first|omega|(simp only [lens];first|done|omega)) only [go_sem,reduceEqDiff,Nat.reduceBEq,reduceAdd,reduceMul,reduceSub,reduceLeDiff,reduceToNat,reducePow, q0, q3]))
        exact DownV.same hw (zz _ rfl)
theorem zow (Y : Store) (n : Nat) (h : n < 1000000000000) : ACallsTo TC 70 [.int .i64 n] Y (.int .i64 (zj n)) Y := by
  refine ACallsTo.of_body qlok (by simp) fun hw _ => ?_
  repeat' (first|refine zW.zs ?_|refine zW.zb ?_|refine zW.zc ?_|refine zW.zt rfl ?_|refine zW.zf rfl ?_|(refine zW.zd rfl (fun ht => ?_) (fun ht => ?_)<;>try (exfalso;omega))|((first|refine zW.zr ?_|refine zW.zk ?_|refine zW.ze ?_|refine zW.zq ?_|((first|apply zg0|apply zg1|apply zg2|apply zg3|apply zg4|apply zg5|apply zg6|apply zg7)<;>intro ht));all_goals try simp (disch:=first|omega|(simp only [lens];first|done|omega)) only [go_sem,reduceEqDiff,Nat.reduceBEq,reduceAdd,reduceMul,reduceSub,reduceLeDiff,reduceToNat,reducePow]))
  refine zW.loop (fun m O Y' => ∃ j k : Nat, m = n - 2 ^ j /\ ((j = 0 /\ k = 0) \/ (k < n /\ 2 ^ j = k * 2 /\ ∃ i, k = 2 ^ i)) /\ O 0 = .int .i64 n /\ O 3 = .int .i64 k /\ O 4 = .int .i64 ((2 ^ j : Nat) : Int) /\ Y' = Y) (n - 1) ?_ ?_
  · exact ⟨0, 0, rfl, .inl ⟨rfl, rfl⟩, by simp (disch:=first|omega|(simp only [lens];first|done|omega)) only [go_sem,reduceEqDiff,Nat.reduceBEq,reduceAdd,reduceMul,reduceSub,reduceLeDiff,reduceToNat,reducePow], by simp (disch:=first|omega|(simp only [lens];first|done|omega)) only [go_sem,reduceEqDiff,Nat.reduceBEq,reduceAdd,reduceMul,reduceSub,reduceLeDiff,reduceToNat,reducePow]; rfl, by simp (disch:=first|omega|(simp only [lens];first|done|omega)) only [go_sem,reduceEqDiff,Nat.reduceBEq,reduceAdd,reduceMul,reduceSub,reduceLeDiff,reduceToNat,reducePow]; rfl, rfl⟩
  · rintro m O Y' ⟨j, k, hm, hk, q0, q3, q4, rfl⟩
    have hp : 0 < 2 ^ j := Nat.pow_pos (by decide)
    have hs : 2 ^ (j + 1) = 2 ^ j * 2 := Nat.pow_succ ..
    by_cases hc : 2 ^ j < n
    · generalize hmm : 2 ^ j = mm at *
      repeat' (first|refine zW.zs ?_|refine zW.zb ?_|refine zW.zc ?_|refine zW.zt rfl ?_|refine zW.zf rfl ?_|(refine zW.zd rfl (fun ht => ?_) (fun ht => ?_)<;>try (exfalso;omega))|((first|refine zW.zr ?_|refine zW.zk ?_|refine zW.ze ?_|refine zW.zq ?_|((first|apply zg0|apply zg1|apply zg2|apply zg3|apply zg4|apply zg5|apply zg6|apply zg7)<;>intro ht));all_goals try simp (disch:=first|omega|(simp only [lens];first|done|omega)) only [go_sem,reduceEqDiff,Nat.reduceBEq,reduceAdd,reduceMul,reduceSub,reduceLeDiff,reduceToNat,reducePow, q0, q3, q4]))
      clear hk
      exact ⟨n - mm * 2, by omega, j + 1, mm, by rw [hs], .inr ⟨hc, hs, j, hmm.symm⟩, rfl, by rw [hs]; rfl⟩
    · have e : zj n = k := by
        rcases hk with ⟨rfl, rfl⟩ | ⟨h1, h2, i, rfl⟩
        · unfold zj; rw [if_pos (by simp at hc; omega)]
        · exact zac h1 (by rw [Nat.pow_succ]; omega)
      rw [e]
      clear e hk hs
      generalize hmm : 2 ^ j = mm at *
      repeat' (first|refine zW.zs ?_|refine zW.zb ?_|refine zW.zc ?_|refine zW.zt rfl ?_|refine zW.zf rfl ?_|(refine zW.zd rfl (fun ht => ?_) (fun ht => ?_)<;>try (exfalso;omega))|((first|refine zW.zr ?_|refine zW.zk ?_|refine zW.ze ?_|refine zW.zq ?_|((first|apply zg0|apply zg1|apply zg2|apply zg3|apply zg4|apply zg5|apply zg6|apply zg7)<;>intro ht));all_goals try simp (disch:=first|omega|(simp only [lens];first|done|omega)) only [go_sem,reduceEqDiff,Nat.reduceBEq,reduceAdd,reduceMul,reduceSub,reduceLeDiff,reduceToNat,reducePow, q0, q3, q4]))
      exact DownV.same hw (zz _ rfl)
def z6i : Nat -> List (List UInt8) -> List UInt8
  | 0, _ => []
  | _ + 1, [] => shaS []
  | _ + 1, [h] => h
  | f + 1, a :: b :: l => z1e (z6i f ((a :: b :: l).take (zj (l.length + 2)))) (z6i f ((a :: b :: l).drop (zj (l.length + 2))))
theorem za6 : ∀ (f g : Nat) (l : List (List UInt8)), l.length < f -> l.length < g -> z6i f l = z6i g l
  | 0, _, _, h, _ => by omega
  | _ + 1, 0, _, _, h => by omega
  | f + 1, g + 1, [], _, _ => rfl
  | f + 1, g + 1, [_], _, _ => rfl
  | f + 1, g + 1, a :: b :: l, h, h' => by
    obtain ⟨s1, s2, s3⟩ := z5k (n := l.length + 2) (by omega)
    simp only [List.length_cons] at h h'
    simp only [z6i]
    rw [za6 f g ((a :: b :: l).take (zj (l.length + 2))) (by rw [List.length_take]; simp; omega) (by rw [List.length_take]; simp; omega),
      za6 f g ((a :: b :: l).drop (zj (l.length + 2))) (by rw [List.length_drop]; simp; omega) (by rw [List.length_drop]; simp; omega)]
/-- The root of leaves. -/
def zw (l : List (List UInt8)) : List UInt8 := z6i (l.length + 1) l
theorem zcf : zw [] = shaS [] := rfl
theorem zp2 (h : List UInt8) : zw [h] = h := rfl
theorem z78 {l : List (List UInt8)} (h : 2 <= l.length) : zw l = z1e (zw (l.take (zj l.length))) (zw (l.drop (zj l.length))) := by
  match l, h with
  | a :: b :: l, _ =>
    obtain ⟨s1, s2, s3⟩ := z5k (n := l.length + 2) (by omega)
    unfold zw
    simp only [z6i, List.length_cons]
    congr 1
    · refine za6 _ _ _ ?_ (Nat.lt_succ_self _)
      rw [List.length_take]
      simp only [List.length_cons]
      omega
    · refine za6 _ _ _ ?_ (Nat.lt_succ_self _)
      rw [List.length_drop]
      simp only [List.length_cons]
      omega
def H32 (l : List (List UInt8)) : Prop := ∀ h ∈ l, h.length = 32
theorem H32.take {l : List (List UInt8)} (h : H32 l) (n : Nat) : H32 (l.take n) := fun x hx => h x (List.mem_of_mem_take hx)
theorem H32.drop {l : List (List UInt8)} (h : H32 l) (n : Nat) : H32 (l.drop n) := fun x hx => h x (List.mem_of_mem_drop hx)
theorem z2h {l : List (List UInt8)} (h : H32 l) : (zw l).length = 32 := by
  match l, h with
  | [], _ => exact zct _
  | [x], h => exact h x (by simp)
  | a :: b :: l, _ => rw [z78 (by simp)]; exact z3c _ _
end Am
end Go.Proofs.YtjgljhbmljgaeaaDoor
end
section
/- Trees: contracts: Root. -/
namespace Go.Proofs.YtjgljhbmljgaeaaDoor
namespace Am
/-- Hashes as_ rows. -/
def zm (l : List (List UInt8)) : List (List AV) := l.map z8
theorem z2k (l : List (List UInt8)) : (zm l).length = l.length := by simp [zm]
theorem zfd (l : List (List UInt8)) (n : Nat) : (zm l).take n = zm (l.take n) := by simp [zm, List.map_take]
theorem zfc (l : List (List UInt8)) (n : Nat) : (zm l).drop n = zm (l.drop n) := by simp [zm, List.map_drop]
theorem hrows_nil {l : List (List UInt8)} : zm l = [] ↔ l = [] := by simp [zm]
theorem z77 {k : Nat} : ∀ (l : List (List UInt8)), RLss k (zm l)
  | [] => by simp [zm, RLss]
  | h :: l => by have := z77 (k := k) l; simp only [zm] at this; simp [zm, RLss, this, z25]
set_option maxHeartbeats 4000000 in
theorem zit (hs : List (List UInt8)) (hH : H32 hs) (hl : hs.length < 1000000000) (ex : Bool) (r1 r3 : Nat) :
    ∀ (d : Nat) (Y : Store) (a : Nat), 0 < d -> a + d <= hs.length -> Y[r1]? = some (some [[.vsl 32 (zm hs) ex]]) -> Y[r3]? = some (some [[.fn 47 [.ptr r1 0 0, .ptr r3 0 0]]]) ->
      ACallsTo TC 47 [.int .i64 a, .int .i64 ((a + d : Nat) : Int), .ptr r1 0 0, .ptr r3 0 0] Y (.agg (z8 (zw ((hs.drop a).take d)))) Y := by
  intro d
  induction d using Nat.strongRecOn with
  | _ d ih =>
    intro Y a h0 had hg1 hg3
    have hr1 := (List.getElem?_eq_some_iff.1 hg1).1
    have hr3 := (List.getElem?_eq_some_iff.1 hg3).1
    obtain ⟨L, hL⟩ : ∃ L, L = (hs.drop a).take d := ⟨_, rfl⟩
    have hLl : L.length = d := by rw [hL, List.length_take, List.length_drop]; omega
    have hLH : H32 L := by rw [hL]; exact (hH.drop a).take d
    have hn := z2h hLH
    have hc := zn (zw L)
    rw [hn] at hc
    rw [<- hL]
    have hsub : ((a + d : Nat) : Int) - a = d := by omega
    by_cases h1 : d = 1
    · have e0 : zj d = 0 := by unfold zj; rw [if_pos (by omega)]
      have hsp := fun Y => z8y Y d (by omega)
      rw [e0] at hsp
      obtain ⟨x, hx⟩ : ∃ x, hs[a]? = some x := ⟨_, List.getElem?_eq_getElem (by omega)⟩
      have hgr : (zm hs)[a]? = some (z8 x) := by simp [zm, hx]
      have eL : zw L = x := by
        have : L = [x] := by
          rw [hL, h1]
          apply List.ext_getElem?
          intro i
          cases i with
          | zero => simp [List.getElem?_take, List.getElem?_drop, hx]
          | succ i => simp [List.getElem?_take]
        rw [this]; rfl
      rw [eL] at hc ⊢
      have hrl := z2k hs
      clear eL
      generalize zm hs = rows at *
      refine ACallsTo.of_body qgok (by simp) fun hw _ => ?_
      repeat' (first|refine zW.zs ?_|refine zW.zb ?_|refine zW.zc ?_|refine zW.zt rfl ?_|refine zW.zf rfl ?_|(refine zW.zd rfl (fun ht => ?_) (fun ht => ?_)<;>try (exfalso;omega))|((first|refine zW.zr ?_|refine zW.zk ?_|refine zW.ze ?_|refine zW.zq ?_|(apply callW.mk_pu; (first | exact (fun _ => hsp _))) | (apply callW.za; (first | exact (hsp _))) | ((first|apply zg0|apply zg1|apply zg2|apply zg3|apply zg4|apply zg5|apply zg6|apply zg7)<;>intro ht));all_goals try simp (disch:=first|omega|(simp only [lens];first|done|omega)) only [go_sem,reduceEqDiff,Nat.reduceBEq,reduceAdd,reduceMul,reduceSub,reduceLeDiff,reduceToNat,reducePow, hsub, hg1, hgr, hc]))
      exact DownV.pure hw (z2g (z25 _))
    · obtain ⟨s1, s2, s3⟩ := z5k (n := d) (by omega)
      have hsp := fun Y => z8y Y d (by omega)
      have eL := z78 (l := L) (by omega)
      rw [hLl] at eL
      have t1 : L.take (zj d) = (hs.drop a).take (zj d) := by rw [hL, List.take_take, Nat.min_eq_left (by omega)]
      have t2 : L.drop (zj d) = (hs.drop (a + zj d)).take (d - zj d) := by rw [hL, List.drop_take, List.drop_drop]
      generalize hk : zj d = k at *
      have i1 := fun y => ih k (by omega) (Y ++ y) a (by omega) (by omega) (by rw [gapp hr1]; exact hg1) (by rw [gapp hr3]; exact hg3)
      have i2 := fun y => ih (d - k) (by omega) (Y ++ y) (a + k) (by omega) (by omega) (by rw [gapp hr1]; exact hg1) (by rw [gapp hr3]; exact hg3)
      rw [<- t1] at i1
      rw [<- t2] at i2
      rw [show a + k + (d - k) = a + d by omega] at i2
      have n1 := z2h (hLH.take k)
      have n2 := z2h (hLH.drop k)
      have e1 : ((a : Int) + k) = ((a + k : Nat) : Int) := by omega
      rw [eL] at hc ⊢
      generalize zw (L.take k) = A at *
      generalize zw (L.drop k) = B at *
      have k0 : ¬ (k : Int) = 0 := by omega
      refine ACallsTo.of_body qgok (by simp) fun hw _ => ?_
      repeat' (first | refine zW.zs ?_ | refine zW.zb ?_ | refine zW.zc ?_ | refine zW.zt rfl ?_ | refine zW.zf rfl ?_ | (refine zW.zd rfl (fun ht => ?_) (fun ht => ?_) <;> try (exfalso; omega)) | ((first | refine zW.regS ?_ | refine zW.zk ?_ | refine zW.ze ?_ | refine zW.zq ?_ | (apply callW.mk_pu; (first | exact (fun _ => hsp _) | exact (fun _ => i1 _) | exact (fun _ => i2 _) | exact (fun _ => z1q _ _ _ n1 n2))) | (apply callW.za; (first | exact (hsp _) | exact (i1 _) | exact (i2 _) | exact (z1q _ _ _ n1 n2))) | ((first|apply zg0|apply zg1|apply zg2|apply zg3|apply zg4|apply zg5|apply zg6|apply zg7)<;>intro ht));all_goals try simp (disch:=first|omega|(simp only [lens];first|done|omega)) only [go_sem,reduceEqDiff,Nat.reduceBEq,reduceAdd,reduceMul,reduceSub,reduceLeDiff,reduceToNat,reducePow, hsub, hg1, hg3, hc, e1]))
      exact DownV.pure hw (z2g (z25 _))
theorem z8x (Y : Store) (hs : List (List UInt8)) (x : AV) (hx : SlV 32 (zm hs) x) (hH : H32 hs) (hl : hs.length < 1000000000) : ACallsTo TC 24 [x] Y (.agg (z8 (zw hs))) Y := by
  have hc := zn (zw hs)
  rw [z2h hH] at hc
  have hrl := z2k hs
  by_cases h0 : hs = []
  · subst h0
    have hx' := hx.len
    unfold z1k at hx'
    refine ACallsTo.of_body qdok (by simp) fun hw _ => ?_
    rw [zcf] at hc ⊢
    rcases hx with ⟨rfl, h⟩ | ⟨ex, rfl⟩
    · repeat' (first|refine zW.zs ?_|refine zW.zb ?_|refine zW.zc ?_|refine zW.zt rfl ?_|refine zW.zf rfl ?_|(refine zW.zd rfl (fun ht => ?_) (fun ht => ?_)<;>try (exfalso;omega))|((first|refine zW.zr ?_|refine zW.zk ?_|refine zW.ze ?_|refine zW.zq ?_|(apply callW.mk_pu; (first | exact (fun _ => z7d _ [] (by simp)))) | (apply callW.za; (first | exact (z7d _ [] (by simp)))) | ((first|apply zg0|apply zg1|apply zg2|apply zg3|apply zg4|apply zg5|apply zg6|apply zg7)<;>intro ht));all_goals try simp (disch:=first|omega|(simp only [lens];first|done|omega)) only [go_sem,reduceEqDiff,Nat.reduceBEq,reduceAdd,reduceMul,reduceSub,reduceLeDiff,reduceToNat,reducePow, hc]))
      exact DownV.pure hw (z2g (z25 _))
    · repeat' (first|refine zW.zs ?_|refine zW.zb ?_|refine zW.zc ?_|refine zW.zt rfl ?_|refine zW.zf rfl ?_|(refine zW.zd rfl (fun ht => ?_) (fun ht => ?_)<;>try (exfalso;omega))|((first|refine zW.zr ?_|refine zW.zk ?_|refine zW.ze ?_|refine zW.zq ?_|(apply callW.mk_pu; (first | exact (fun _ => z7d _ [] (by simp)))) | (apply callW.za; (first | exact (z7d _ [] (by simp)))) | ((first|apply zg0|apply zg1|apply zg2|apply zg3|apply zg4|apply zg5|apply zg6|apply zg7)<;>intro ht));all_goals try simp (disch:=first|omega|(simp only [lens];first|done|omega)) only [go_sem,reduceEqDiff,Nat.reduceBEq,reduceAdd,reduceMul,reduceSub,reduceLeDiff,reduceToNat,reducePow, hc, hrl]))
      exact DownV.pure hw (z2g (z25 _))
  · have hpos : 0 < hs.length := List.length_pos_iff.2 h0
    obtain ⟨ex, rfl⟩ := hx.vsl (by rw [hrl]; exact hpos)
    have h1 := zit hs hH hl ex Y.length (Y.length + 2) hs.length
    refine ACallsTo.of_body qdok (by simp) fun hw _ => ?_
    have h1 := fun Y' => h1 Y' 0 hpos (by omega)
    simp only [Nat.zero_add, List.drop_zero, List.take_length] at h1
    generalize zw hs = R at *
    generalize zm hs = rows at *
    repeat' (first|refine zW.zs ?_|refine zW.zb ?_|refine zW.zc ?_|refine zW.zt rfl ?_|refine zW.zf rfl ?_|(refine zW.zd rfl (fun ht => ?_) (fun ht => ?_)<;>try (exfalso;omega))|((first|refine zW.zr ?_|refine zW.zk ?_|refine zW.ze ?_|refine zW.zq ?_|(apply callW.mk_pu; (first | exact (fun _ => h1 _ (by simp) (by simp)))) | (apply callW.za; (first | exact (h1 _ (by simp) (by simp)))) | ((first|apply zg0|apply zg1|apply zg2|apply zg3|apply zg4|apply zg5|apply zg6|apply zg7)<;>intro ht));all_goals try simp (disch:=first|omega|(simp only [lens];first|done|omega)) only [go_sem,reduceEqDiff,Nat.reduceBEq,reduceAdd,reduceMul,reduceSub,reduceLeDiff,reduceToNat,reducePow, hc, hrl]))
    exact DownV.pure hw (z2g (z25 _))
set_option maxHeartbeats 4000000 in
theorem zov (f : Nat) : ∀ (Y : Store) (hs : List (List UInt8)) (ex : Bool), hs.length < f -> H32 hs -> hs.length < 1000000000 -> ACallsTo TC 51 [.vsl 32 (zm hs) ex] Y (.agg (z8 (zw hs))) Y := by
  induction f with
  | zero => intro Y hs ex h; omega
  | succ f ih =>
    intro Y hs ex hf hH hl
    have hc := zn (zw hs)
    rw [z2h hH] at hc
    have hrl := z2k hs
    by_cases h0 : hs.length = 0
    · obtain rfl : hs = [] := List.eq_nil_of_length_eq_zero h0
      rw [zcf] at hc ⊢
      refine ACallsTo.of_body qhok (by simp) fun hw _ => ?_
      repeat' (first|refine zW.zs ?_|refine zW.zb ?_|refine zW.zc ?_|refine zW.zt rfl ?_|refine zW.zf rfl ?_|(refine zW.zd rfl (fun ht => ?_) (fun ht => ?_)<;>try (exfalso;omega))|((first|refine zW.zr ?_|refine zW.zk ?_|refine zW.ze ?_|refine zW.zq ?_|(apply callW.mk_pu; (first | exact (fun _ => z71 _ [] (by simp)))) | (apply callW.za; (first | exact (z71 _ [] (by simp)))) | ((first|apply zg0|apply zg1|apply zg2|apply zg3|apply zg4|apply zg5|apply zg6|apply zg7)<;>intro ht));all_goals try simp (disch:=first|omega|(simp only [lens];first|done|omega)) only [go_sem,reduceEqDiff,Nat.reduceBEq,reduceAdd,reduceMul,reduceSub,reduceLeDiff,reduceToNat,reducePow, hc, hrl]))
      exact DownV.pure hw (z2g (z25 _))
    · by_cases h1 : hs.length = 1
      · obtain ⟨x, rfl⟩ := List.length_eq_one_iff.1 h1
        rw [zp2] at hc ⊢
        refine ACallsTo.of_body qhok (by simp) fun hw _ => ?_
        simp only [zm, List.map_cons, List.map_nil]
        repeat' (first|refine zW.zs ?_|refine zW.zb ?_|refine zW.zc ?_|refine zW.zt rfl ?_|refine zW.zf rfl ?_|(refine zW.zd rfl (fun ht => ?_) (fun ht => ?_)<;>try (exfalso;omega))|((first|refine zW.zr ?_|refine zW.zk ?_|refine zW.ze ?_|refine zW.zq ?_|((first|apply zg0|apply zg1|apply zg2|apply zg3|apply zg4|apply zg5|apply zg6|apply zg7)<;>intro ht));all_goals try simp (disch:=first|omega|(simp only [lens];first|done|omega)) only [go_sem,reduceEqDiff,Nat.reduceBEq,reduceAdd,reduceMul,reduceSub,reduceLeDiff,reduceToNat,reducePow, hc]))
        exact DownV.pure hw (z2g (z25 _))
      · obtain ⟨s1, s2, s3⟩ := z5k (n := hs.length) (by omega)
        have hsp := fun Y => zow Y hs.length (by omega)
        have eL := z78 (l := hs) (by omega)
        have n1 := z2h (hH.take (zj hs.length))
        have n2 := z2h (hH.drop (zj hs.length))
        have i1 := fun Y ex => ih Y (hs.take (zj hs.length)) ex (by rw [List.length_take]; omega) (hH.take _) (by rw [List.length_take]; omega)
        have i2 := fun Y ex => ih Y (hs.drop (zj hs.length)) ex (by rw [List.length_drop]; omega) (hH.drop _) (by rw [List.length_drop]; omega)
        rw [eL] at hc ⊢
        have tk := zfd hs (zj hs.length)
        have dk := zfc hs (zj hs.length)
        generalize zw (hs.take (zj hs.length)) = A at *
        generalize zw (hs.drop (zj hs.length)) = B at *
        generalize zm (hs.take (zj hs.length)) = ra at *
        generalize zm (hs.drop (zj hs.length)) = rb at *
        generalize zm hs = rows at *
        generalize zj hs.length = k at *
        have k0 : ¬ (hs.length : Int) = 0 := by omega
        have k1 : ¬ (hs.length : Int) = 1 := by omega
        refine ACallsTo.of_body qhok (by simp) fun hw _ => ?_
        repeat' (first | refine zW.zs ?_ | refine zW.zb ?_ | refine zW.zc ?_ | refine zW.zt rfl ?_ | refine zW.zf rfl ?_ | (refine zW.zd rfl (fun ht => ?_) (fun ht => ?_) <;> try (exfalso; omega)) | ((first | refine zW.regS ?_ | refine zW.zk ?_ | refine zW.ze ?_ | refine zW.zq ?_ | (apply callW.mk_pu; (first | exact (fun _ => hsp _) | exact (fun _ => i1 _ _) | exact (fun _ => i2 _ _) | exact (fun _ => zgm _ _ _ n1 n2))) | (apply callW.za; (first | exact (hsp _) | exact (i1 _ _) | exact (i2 _ _) | exact (zgm _ _ _ n1 n2))) | ((first|apply zg0|apply zg1|apply zg2|apply zg3|apply zg4|apply zg5|apply zg6|apply zg7)<;>intro ht));all_goals try simp (disch:=first|omega|(simp only [lens];first|done|omega)) only [go_sem,reduceEqDiff,Nat.reduceBEq,reduceAdd,reduceMul,reduceSub,reduceLeDiff,reduceToNat,reducePow, hc, hrl, tk, dk]))
        exact DownV.pure hw (z2g (z25 _))
theorem zou (Y : Store) (hs : List (List UInt8)) (x : AV) (hx : SlV 32 (zm hs) x) (hH : H32 hs) (hl : hs.length < 1000000000) : ACallsTo TC 51 [x] Y (.agg (z8 (zw hs))) Y := by
  rcases hx with ⟨rfl, h⟩ | ⟨ex, rfl⟩
  · obtain rfl := hrows_nil.1 h
    have hc := zn (zw [])
    rw [z2h hH] at hc
    rw [zcf] at hc ⊢
    refine ACallsTo.of_body qhok (by simp) fun hw _ => ?_
    repeat' (first|refine zW.zs ?_|refine zW.zb ?_|refine zW.zc ?_|refine zW.zt rfl ?_|refine zW.zf rfl ?_|(refine zW.zd rfl (fun ht => ?_) (fun ht => ?_)<;>try (exfalso;omega))|((first|refine zW.zr ?_|refine zW.zk ?_|refine zW.ze ?_|refine zW.zq ?_|(apply callW.mk_pu; (first | exact (fun _ => z71 _ [] (by simp)))) | (apply callW.za; (first | exact (z71 _ [] (by simp)))) | ((first|apply zg0|apply zg1|apply zg2|apply zg3|apply zg4|apply zg5|apply zg6|apply zg7)<;>intro ht));all_goals try simp (disch:=first|omega|(simp only [lens];first|done|omega)) only [go_sem,reduceEqDiff,Nat.reduceBEq,reduceAdd,reduceMul,reduceSub,reduceLeDiff,reduceToNat,reducePow, hc]))
    exact DownV.pure hw (z2g (z25 _))
  · exact zov (hs.length + 1) Y hs ex (by omega) hH hl
end Am
end Go.Proofs.YtjgljhbmljgaeaaDoor
end
section
/- Slices that are read: values, or own rows lent; Same; Some. -/
namespace Go.Proofs.YtjgljhbmljgaeaaDoor
namespace Am
/-- A slice that is read: a value, or an own row. -/
def RdSl (Y : Store) (sz : Nat) (es : List (List AV)) (x : AV) : Prop :=
  SlV sz es x \/ ∃ r off lim o, x = .sl r off es.length lim sz /\ Y[r]? = some (some o) /\ off + es.length <= o.length /\ (o.drop off).take es.length = es
theorem RdSl.of {Y : Store} {sz : Nat} {es : List (List AV)} {x : AV} (h : SlV sz es x) : RdSl Y sz es x := .inl h
theorem OwnN.rd {sz : Nat} {τ Y' : Store} {v : AV} {es : List (List AV)} (h : OwnN sz τ Y' v es) : RdSl Y' sz es v := by
  by_cases h0 : es = []
  · obtain ⟨news, rfl, ⟨rfl, rfl⟩ | ⟨j, h1, _⟩⟩ := h
    · exact .inl (.inl ⟨rfl, rfl⟩)
    · exact absurd h0 h1
  · obtain ⟨r, rfl, hg, _⟩ := h.sl h0
    exact .inr ⟨r, 0, none, es, rfl, hg, by omega, by rw [List.drop_zero, List.take_of_length_le (Nat.le_refl _)]⟩
theorem RdSl.app {Y y : Store} {sz : Nat} {es : List (List AV)} {x : AV} (h : RdSl Y sz es x) : RdSl (Y ++ y) sz es x := by
  rcases h with h | ⟨r, off, lim, o, rfl, hg, h1, h2⟩
  · exact .inl h
  · exact .inr ⟨r, off, lim, o, rfl, by rw [gapp (List.getElem?_eq_some_iff.1 hg).1]; exact hg, h1, h2⟩
theorem RdSl.len {Y : Store} {sz : Nat} {es : List (List AV)} {x : AV} (h : RdSl Y sz es x) : z1k x = some (.int .i64 es.length) := by
  rcases h with h | ⟨r, off, lim, o, rfl, _⟩
  · exact h.len
  · rfl
theorem RdSl.lend {Y : Store} {sz : Nat} {es : List (List AV)} {x : AV} (h : RdSl Y sz es x) (hr : RLss 0 es) : ∃ x0, SlV sz es x0 /\ DR (z3g Y) x0 x := by
  rcases h with h | ⟨r, off, lim, o, rfl, hg, h1, h2⟩
  · refine ⟨x, h, DR.refl (k := 0) (by omega) x ?_⟩
    rcases h with ⟨rfl, _⟩ | ⟨ex, rfl⟩
    · simp [RL]
    · simpa only [RL] using hr
  · refine ⟨.vsl sz es false, .inr ⟨false, rfl⟩, ?_⟩
    simp only [DR, z3g]
    exact .inr (.inl ⟨r, off, lim, o, rfl, trivial, hg, h1, by simp, by rw [h2]; exact DRss.refl (k := 0) (by omega) es hr⟩)
/-- A slice of an array in memory, lent. -/
theorem zmq {Y : Store} {r i off cap esz : Nat} {o es : List (List AV)} {cs rest : List AV} (hg : Y[r]? = some (some o)) (hi : o[i]? = some cs) (ho : off <= cs.length) (hd : cs.drop off = es.flatten ++ rest) (he : ∀ e ∈ es, e.length = esz) (hn : es.length ≠ 0) (hr : RLss 0 es) :
    DR (z3g Y) (.vsl esz es false) (.asl r i off es.length cap esz) := by
  simp only [DR, z3g]
  exact .inr (.inr ⟨r, i, off, cap, o, cs, es, rest, rfl, trivial, hg, hi, ho, hd, he, hn, by simp, DRss.refl (k := 0) (by omega) es hr⟩)
theorem rl0 {a : AV} (h : RL 0 a) (Y : Store) : DR (z3g Y) a a := DR.refl (k := 0) (by omega) a h
theorem drs1 {D : DC} {a b : AV} (h : DR D a b) : DRs D [a] [b] := by simp only [DRs]; exact ⟨b, [], rfl, h, rfl⟩
theorem drsc {D : DC} {a b : AV} {l m : List AV} (h : DR D a b) (h2 : DRs D l m) : DRs D (a :: l) (b :: m) := by simp only [DRs]; exact ⟨b, m, rfl, h, h2⟩
theorem zcu (k : Nat) : ∀ (l : List UInt8), shs k (z8 l) = z8 l
  | [] => rfl
  | b :: l => by have := zcu k l; simp only [z8] at this; simp [z8, shs, sh, this]
theorem zh6 (k : Nat) (l : List UInt8) : sh k (.agg (z8 l)) = .agg (z8 l) := by simp only [sh, zcu]
theorem z7c (k : Nat) : shS k [] = [] := rfl
theorem zqp (Y : Store) (hs : List (List UInt8)) (x : AV) (hx : RdSl Y 32 (zm hs) x) (hH : H32 hs) (hl : hs.length < 1000000000) : ACallsTo TC 24 [x] Y (.agg (z8 (zw hs))) Y := by
  obtain ⟨x0, h0, hd⟩ := hx.lend (z77 hs)
  have := ACallsTo.lend glok (z8x [] hs x0 h0 hH hl) (drs1 hd)
  rwa [zh6, z7c, List.append_nil] at this
theorem zot (Y : Store) (hs : List (List UInt8)) (x : AV) (hx : RdSl Y 32 (zm hs) x) (hH : H32 hs) (hl : hs.length < 1000000000) : ACallsTo TC 51 [x] Y (.agg (z8 (zw hs))) Y := by
  obtain ⟨x0, h0, hd⟩ := hx.lend (z77 hs)
  have := ACallsTo.lend glok (zou [] hs x0 h0 hH hl) (drs1 hd)
  rwa [zh6, z7c, List.append_nil] at this
theorem z6b : ∀ (a b : List UInt8), z1y (z8 a) (z8 b) = decide (a = b)
  | [], [] => rfl
  | [], _ :: _ => rfl
  | _ :: _, [] => rfl
  | a :: l, b :: m => by
    have ih := z6b l m
    simp only [z8, List.map_cons, z1y, z8a] at ih ⊢
    rw [ih, Bool.eq_iff_iff]
    simp [<- UInt8.toNat_inj]
    intro _
    omega
theorem zfk : ∀ (l : List UInt8), (z8 l).map z1i = List.replicate l.length (some (LK.i .u8))
  | [] => rfl
  | _ :: l => by have := zfk l; simp only [z8] at this; simp [z8, z1i, this, List.replicate_succ]
theorem z42 {l : List UInt8} (h : l.length = 32) : (z8 l).map z1i = (List.replicate 32 (LK.i .u8)).map some := by rw [zfk, h]; rfl
end Am
end Go.Proofs.YtjgljhbmljgaeaaDoor
end
section
/- Abstract code. (Printed by wip/gen.) -/
set_option maxRecDepth 10000
namespace Go.Proofs.YtjgljhbmljgaeaaDoor
namespace Am



@[go_sem] def qmr0 : List AIns := [
  ⟨some 4,none,.no,.mv (.v .nilsl)⟩,
  ⟨some 5,none,.no,.mv (.v (.int .i64 0))⟩]
@[go_sem] def qmr1 : List AIns := [
  ⟨some 9,none,.no,.mv (.t 1)⟩,
  ⟨some 10,none,.no,.bin .lss .none (.t 9) (.v (.int .i64 0))⟩,
  ⟨some 11,none,.no,.mv (.t 10)⟩,
  ⟨some 12, some (11, false), .no, .mv (.t 1)⟩,
  ⟨some 13, some (11, false), .no, .mv (.t 0)⟩,
  ⟨some 14, some (11, false), .no, .lenSl (.t 13)⟩,
  ⟨some 15, some (11, false), .no, .bin .gtr .none (.t 12) (.t 14)⟩,
  ⟨some 16,none,.no,.pick (.t 11) (.v (.bool true)) (.t 15)⟩,
  ⟨some 8,none,.no,.mv (.t 16)⟩]
@[go_sem] def qmr2 : List AIns := [
  ⟨some 4,none,.no,.mv (.v .nilsl)⟩,
  ⟨some 5,none,.no,.mv (.v (.int .i64 2))⟩]
def qmc3 : ACode := .seq (.reg qmr2) .ret
@[go_sem] def qmr4 : List AIns := [
  ⟨some 18,none,.no,.mv (.t 1)⟩,
  ⟨some 19,none,.no,.bin .eql .none (.t 18) (.v (.int .i64 0))⟩,
  ⟨some 20,none,.no,.mv (.t 19)⟩,
  ⟨some 21, some (20, false), .no, .mv (.t 1)⟩,
  ⟨some 22, some (20, false), .no, .mv (.t 0)⟩,
  ⟨some 23, some (20, false), .no, .lenSl (.t 22)⟩,
  ⟨some 24, some (20, false), .no, .bin .eql .none (.t 21) (.t 23)⟩,
  ⟨some 25,none,.no,.pick (.t 20) (.v (.bool true)) (.t 24)⟩,
  ⟨some 17,none,.no,.mv (.t 25)⟩]
@[go_sem] def qmr5 : List AIns := [
  ⟨some 4,none,.no,.mv (.v .nilsl)⟩,
  ⟨some 5,none,.no,.mv (.v (.int .i64 0))⟩]
def qmc6 : ACode := .seq (.reg qmr5) .ret
def qmc7 : ACode := .cond (.t 17) qmc6 .skip
def qmc8 : ACode := .seq (.reg qmr4) qmc7
def qmc9 : ACode := .cond (.t 8) qmc3 qmc8
def qmc10 : ACode := .seq (.reg qmr1) qmc9
@[go_sem] def qmr11 : List AIns := [
  ⟨some 6,none,.no,.alloc [.nilsl]⟩]
@[go_sem] def qmr12 : List AIns := [
  ⟨some 7,none,.no,.alloc [.nilfn]⟩]
@[go_sem] def qmr13 : List AIns := [
  ⟨some 26,none,.no,.mkfn 50 [(.t 6), (.t 7)]⟩,
  ⟨none,none,.no,.store 1 (.t 7) (.t 26)⟩]
@[go_sem] def qmr14 : List AIns := [
  ⟨some 27,none,.no,.load false 1 (.t 7)⟩,
  ⟨some 28,none,.no,.mv (.t 0)⟩,
  ⟨some 29,none,.no,.mv (.t 1)⟩,
  ⟨some 30,none,.no,.call (.t 27) [(.t 28), (.t 29), (.v (.bool true))]⟩]
@[go_sem] def qmr15 : List AIns := [
  ⟨some 31,none,.no,.load false 1 (.t 6)⟩,
  ⟨some 4,none,.no,.mv (.t 31)⟩,
  ⟨some 5,none,.no,.mv (.v (.int .i64 0))⟩]
def qmc16 : ACode := .seq (.reg qmr15) .ret
def qmc17 : ACode := .seq (.reg qmr14) qmc16
def qmc18 : ACode := .seq (.reg qmr13) qmc17
def qmc19 : ACode := .seq (.reg qmr12) qmc18
def qmc20 : ACode := .seq (.reg qmr11) qmc19
def qmc21 : ACode := .seq (.block 0 qmc10) qmc20
def qmc22 : ACode := .seq (.reg qmr0) qmc21
theorem qmok : cFn TC 26 = some (32, [.t 4, .t 5], qmc22) := by kernel_rfl

@[go_sem] def qnr0 : List AIns := [
  ⟨some 7,none,.no,.box (.t 2)⟩,
  ⟨some 8,none,.no,.box (.t 3)⟩,
  ⟨some 9,none,.no,.box (.t 4)⟩,
  ⟨some 10,none,.no,.mv (.v (.int .i64 0))⟩]
@[go_sem] def qnr1 : List AIns := [
  ⟨some 21,none,.no,.mv (.t 1)⟩,
  ⟨some 22,none,.no,.bin .lss .none (.t 21) (.v (.int .i64 0))⟩,
  ⟨some 23,none,.no,.mv (.t 22)⟩,
  ⟨some 24, some (23, false), .no, .mv (.t 1)⟩,
  ⟨some 25, some (23, false), .no, .bin .gtr .none (.t 24) (.v (.int .i64 4096))⟩,
  ⟨some 26,none,.no,.pick (.t 23) (.v (.bool true)) (.t 25)⟩,
  ⟨some 27,none,.no,.mv (.t 26)⟩,
  ⟨some 28, some (27, false), .no, .mv (.t 0)⟩,
  ⟨some 29, some (27, false), .no, .bin .lss .none (.t 28) (.v (.int .i64 0))⟩,
  ⟨some 30,none,.no,.pick (.t 27) (.v (.bool true)) (.t 29)⟩,
  ⟨some 31,none,.no,.mv (.t 30)⟩,
  ⟨some 32, some (31, false), .no, .mv (.t 0)⟩,
  ⟨some 33, some (31, false), .no, .mv (.t 1)⟩,
  ⟨some 34, some (31, false), .no, .bin .gtr .none (.t 32) (.t 33)⟩,
  ⟨some 35,none,.no,.pick (.t 31) (.v (.bool true)) (.t 34)⟩,
  ⟨some 20,none,.no,.mv (.t 35)⟩]
@[go_sem] def qnr2 : List AIns := [
  ⟨some 10,none,.no,.mv (.v (.int .i64 2))⟩]
def qnc3 : ACode := .seq (.reg qnr2) .ret
@[go_sem] def qnr4 : List AIns := [
  ⟨some 37,none,.no,.mv (.t 0)⟩,
  ⟨some 38,none,.no,.bin .eql .none (.t 37) (.v (.int .i64 0))⟩,
  ⟨some 36,none,.no,.mv (.t 38)⟩]
@[go_sem] def qnr5 : List AIns := [
  ⟨some 39,none,.no,.load false 1 (.t 9)⟩,
  ⟨some 40,none,.no,.lenSl (.t 39)⟩,
  ⟨some 41,none,.no,.bin .eql .none (.t 40) (.v (.int .i64 0))⟩,
  ⟨some 42,none,.no,.mv (.t 41)⟩,
  ⟨some 43, some (42, true), .rd, .load true 32 (.t 7)⟩,
  ⟨some 44, some (42, true), .ef, .call (.v (.fn 24 [])) [(.v .nilsl)]⟩,
  ⟨some 45, some (42, true), .no, .bin .eql (.agg (List.replicate 32 (.i .u8) ++ [])) (.t 43) (.t 44)⟩,
  ⟨some 46,none,.no,.pick (.t 42) (.t 45) (.v (.bool false))⟩,
  ⟨some 47,none,.no,.mv (.t 46)⟩,
  ⟨some 48, some (47, true), .no, .mv (.t 1)⟩,
  ⟨some 49, some (47, true), .no, .bin .gtr .none (.t 48) (.v (.int .i64 0))⟩,
  ⟨some 50, some (47, true), .no, .mv (.t 49)⟩,
  ⟨some 51, some (50, false), .rd, .load true 32 (.t 8)⟩,
  ⟨some 52, some (50, false), .rd, .load true 32 (.t 7)⟩,
  ⟨some 53, some (50, false), .no, .bin .eql (.agg (List.replicate 32 (.i .u8) ++ [])) (.t 51) (.t 52)⟩,
  ⟨some 54, some (47, true), .no, .pick (.t 50) (.v (.bool true)) (.t 53)⟩,
  ⟨some 55,none,.no,.pick (.t 47) (.t 54) (.v (.bool false))⟩,
  ⟨some 56,none,.no,.call (.v (.fn 56 [])) [(.t 55)]⟩,
  ⟨some 10,none,.no,.mv (.t 56)⟩]
def qnc6 : ACode := .seq (.reg qnr5) .ret
@[go_sem] def qnr7 : List AIns := [
  ⟨some 58,none,.no,.mv (.t 0)⟩,
  ⟨some 59,none,.no,.mv (.t 1)⟩,
  ⟨some 60,none,.no,.bin .eql .none (.t 58) (.t 59)⟩,
  ⟨some 57,none,.no,.mv (.t 60)⟩]
@[go_sem] def qnr8 : List AIns := [
  ⟨some 61,none,.no,.load false 1 (.t 9)⟩,
  ⟨some 62,none,.no,.lenSl (.t 61)⟩,
  ⟨some 63,none,.no,.bin .eql .none (.t 62) (.v (.int .i64 0))⟩,
  ⟨some 64,none,.no,.mv (.t 63)⟩,
  ⟨some 65, some (64, true), .no, .load true 32 (.t 7)⟩,
  ⟨some 66, some (64, true), .no, .load true 32 (.t 8)⟩,
  ⟨some 67, some (64, true), .no, .bin .eql (.agg (List.replicate 32 (.i .u8) ++ [])) (.t 65) (.t 66)⟩,
  ⟨some 68,none,.no,.pick (.t 64) (.t 67) (.v (.bool false))⟩,
  ⟨some 69,none,.no,.call (.v (.fn 56 [])) [(.t 68)]⟩,
  ⟨some 10,none,.no,.mv (.t 69)⟩]
def qnc9 : ACode := .seq (.reg qnr8) .ret
def qnc10 : ACode := .cond (.t 57) qnc9 .skip
def qnc11 : ACode := .seq (.reg qnr7) qnc10
def qnc12 : ACode := .cond (.t 36) qnc6 qnc11
def qnc13 : ACode := .seq (.reg qnr4) qnc12
def qnc14 : ACode := .cond (.t 20) qnc3 qnc13
def qnc15 : ACode := .seq (.reg qnr1) qnc14
@[go_sem] def qnr16 : List AIns := [
  ⟨some 70,none,.no,.mv (.t 0)⟩,
  ⟨some 71,none,.no,.bin .sub .none (.t 70) (.v (.int .i64 1))⟩,
  ⟨some 72,none,.no,.mv (.t 1)⟩,
  ⟨some 73,none,.no,.bin .sub .none (.t 72) (.v (.int .i64 1))⟩,
  ⟨some 11,none,.no,.mv (.t 71)⟩,
  ⟨some 12,none,.no,.mv (.t 73)⟩]
@[go_sem] def qnr17 : List AIns := [
  ⟨some 74,none,.no,.mv (.t 11)⟩,
  ⟨some 75,none,.no,.bin .rem .none (.t 74) (.v (.int .i64 2))⟩,
  ⟨some 76,none,.no,.bin .eql .none (.t 75) (.v (.int .i64 1))⟩]
def qnc18 : ACode := .cond (.t 76) .skip (.exit 1)
def qnc19 : ACode := .seq (.reg qnr17) qnc18
@[go_sem] def qnr20 : List AIns := [
  ⟨some 77,none,.no,.mv (.t 11)⟩,
  ⟨some 78,none,.no,.bin .quo .none (.t 77) (.v (.int .i64 2))⟩,
  ⟨some 79,none,.no,.mv (.t 12)⟩,
  ⟨some 80,none,.no,.bin .quo .none (.t 79) (.v (.int .i64 2))⟩,
  ⟨some 11,none,.no,.mv (.t 78)⟩,
  ⟨some 12,none,.no,.mv (.t 80)⟩]
def qnc21 : ACode := .block 2 (.reg qnr20)
def qnc22 : ACode := .seq qnc19 qnc21
def qnc23 : ACode := .loop qnc22
@[go_sem] def qnr24 : List AIns := [
  ⟨some 81,none,.no,.mkfn 57 [(.t 9)]⟩,
  ⟨some 13,none,.no,.mv (.t 81)⟩]
@[go_sem] def qnr25 : List AIns := [
  ⟨some 82, none, .rd, .load true 32 (.t 7)⟩,
  ⟨some 83, none, .rd, .load true 32 (.t 7)⟩,
  ⟨some 14, none, .ef, .alloc zZ0⟩,
  ⟨some 15, none, .ef, .alloc zZ0⟩,
  ⟨none, none, .ef, .store 32 (.t 14) (.t 82)⟩,
  ⟨none,none,.no,.store 32 (.t 15) (.t 83)⟩]
@[go_sem] def qnr26 : List AIns := [
  ⟨some 82, none, .rd, .load true 32 (.t 7)⟩,
  ⟨some 83, none, .rd, .load true 32 (.t 7)⟩,
  ⟨some 15, none, .ef, .alloc zZ0⟩,
  ⟨some 14, none, .ef, .alloc zZ0⟩,
  ⟨none, none, .ef, .store 32 (.t 14) (.t 82)⟩,
  ⟨none,none,.no,.store 32 (.t 15) (.t 83)⟩]
@[go_sem] def qnr27 : List AIns := [
  ⟨some 84,none,.no,.mv (.t 11)⟩,
  ⟨some 85,none,.no,.bin .gtr .none (.t 84) (.v (.int .i64 0))⟩]
@[go_sem] def qnr28 : List AIns := [
  ⟨some 87,none,.no,.mv (.t 13)⟩,
  ⟨some 88,none,.no,.call (.t 87) []⟩,
  ⟨some 86,none,.no,.mv (.t 88)⟩,
  ⟨some 89,none,.no,.ext 0 (.t 86)⟩,
  ⟨some 90,none,.no,.ext 1 (.t 86)⟩,
  ⟨some 16,none,.no,.alloc zZ0⟩,
  ⟨none,none,.no,.store 32 (.t 16) (.t 89)⟩,
  ⟨some 17,none,.no,.mv (.t 90)⟩]
@[go_sem] def qnr29 : List AIns := [
  ⟨some 91,none,.no,.mv (.t 17)⟩,
  ⟨some 92,none,.no,.un .not (.t 91)⟩]
@[go_sem] def qnr30 : List AIns := [
  ⟨some 10,none,.no,.mv (.v (.int .i64 80))⟩]
def qnc31 : ACode := .seq (.reg qnr30) .ret
def qnc32 : ACode := .cond (.t 92) qnc31 .skip
def qnc33 : ACode := .seq (.reg qnr29) qnc32
@[go_sem] def qnr34 : List AIns := [
  ⟨some 93, none, .rd, .load true 32 (.t 16)⟩,
  ⟨some 94, none, .rd2, .load true 32 (.t 16)⟩,
  ⟨none, none, .ef2, .store 32 (.t 14) (.t 93)⟩,
  ⟨none,none,.no,.store 32 (.t 15) (.t 94)⟩]
def qnc35 : ACode := .seq qnc33 (.reg qnr34)
def qnc36 : ACode := .seq (.reg qnr28) qnc35
def qnc37 : ACode := .cond (.t 85) qnc36 .skip
def qnc38 : ACode := .seq (.reg qnr27) qnc37
@[go_sem] def qnr39 : List AIns := [
  ⟨some 95,none,.no,.mv (.t 12)⟩,
  ⟨some 96,none,.no,.bin .gtr .none (.t 95) (.v (.int .i64 0))⟩]
def qnc40 : ACode := .cond (.t 96) .skip (.exit 3)
def qnc41 : ACode := .seq (.reg qnr39) qnc40
@[go_sem] def qnr42 : List AIns := [
  ⟨some 98,none,.no,.mv (.t 13)⟩,
  ⟨some 99,none,.no,.call (.t 98) []⟩,
  ⟨some 97,none,.no,.mv (.t 99)⟩,
  ⟨some 100,none,.no,.ext 0 (.t 97)⟩,
  ⟨some 101,none,.no,.ext 1 (.t 97)⟩,
  ⟨some 18,none,.no,.alloc zZ0⟩,
  ⟨none,none,.no,.store 32 (.t 18) (.t 100)⟩,
  ⟨some 19,none,.no,.mv (.t 101)⟩]
@[go_sem] def qnr43 : List AIns := [
  ⟨some 106,none,.no,.mv (.t 19)⟩,
  ⟨some 107,none,.no,.un .not (.t 106)⟩,
  ⟨some 105,none,.no,.mv (.t 107)⟩]
@[go_sem] def qnr44 : List AIns := [
  ⟨some 10,none,.no,.mv (.v (.int .i64 80))⟩]
def qnc45 : ACode := .seq (.reg qnr44) .ret
@[go_sem] def qnr46 : List AIns := [
  ⟨some 109,none,.no,.mv (.t 11)⟩,
  ⟨some 110,none,.no,.bin .rem .none (.t 109) (.v (.int .i64 2))⟩,
  ⟨some 111,none,.no,.bin .eql .none (.t 110) (.v (.int .i64 1))⟩,
  ⟨some 112,none,.no,.mv (.t 111)⟩,
  ⟨some 113, some (112, false), .no, .mv (.t 11)⟩,
  ⟨some 114, some (112, false), .no, .mv (.t 12)⟩,
  ⟨some 115, some (112, false), .no, .bin .eql .none (.t 113) (.t 114)⟩,
  ⟨some 116,none,.no,.pick (.t 112) (.v (.bool true)) (.t 115)⟩,
  ⟨some 108,none,.no,.mv (.t 116)⟩]
@[go_sem] def qnr47 : List AIns := [
  ⟨some 117, none, .rd, .load true 32 (.t 18)⟩,
  ⟨some 118, none, .rd, .load true 32 (.t 14)⟩,
  ⟨some 119, none, .ef, .call (.v (.fn 49 [])) [(.t 117), (.t 118)]⟩,
  ⟨some 120, none, .rd, .load true 32 (.t 18)⟩,
  ⟨some 121, none, .rd, .load true 32 (.t 15)⟩,
  ⟨some 122,none,.no,.call (.v (.fn 49 [])) [(.t 120), (.t 121)]⟩,
  ⟨none,none,.no,.store 32 (.t 14) (.t 119)⟩,
  ⟨none,none,.no,.store 32 (.t 15) (.t 122)⟩]
@[go_sem] def qnr48 : List AIns := [
  ⟨some 123,none,.no,.mv (.t 11)⟩,
  ⟨some 124,none,.no,.bin .rem .none (.t 123) (.v (.int .i64 2))⟩,
  ⟨some 125,none,.no,.bin .eql .none (.t 124) (.v (.int .i64 0))⟩,
  ⟨some 126,none,.no,.mv (.t 125)⟩,
  ⟨some 127, some (126, true), .no, .mv (.t 11)⟩,
  ⟨some 128, some (126, true), .no, .bin .gtr .none (.t 127) (.v (.int .i64 0))⟩,
  ⟨some 129,none,.no,.pick (.t 126) (.t 128) (.v (.bool false))⟩]
def qnc49 : ACode := .cond (.t 129) .skip (.exit 6)
def qnc50 : ACode := .seq (.reg qnr48) qnc49
@[go_sem] def qnr51 : List AIns := [
  ⟨some 130,none,.no,.mv (.t 11)⟩,
  ⟨some 131,none,.no,.bin .quo .none (.t 130) (.v (.int .i64 2))⟩,
  ⟨some 132,none,.no,.mv (.t 12)⟩,
  ⟨some 133,none,.no,.bin .quo .none (.t 132) (.v (.int .i64 2))⟩,
  ⟨some 11,none,.no,.mv (.t 131)⟩,
  ⟨some 12,none,.no,.mv (.t 133)⟩]
def qnc52 : ACode := .block 7 (.reg qnr51)
def qnc53 : ACode := .seq qnc50 qnc52
def qnc54 : ACode := .loop qnc53
def qnc55 : ACode := .block 6 qnc54
def qnc56 : ACode := .seq (.reg qnr47) qnc55
@[go_sem] def qnr57 : List AIns := [
  ⟨some 102,none,.no,.load true 32 (.t 15)⟩,
  ⟨some 103,none,.no,.load true 32 (.t 18)⟩,
  ⟨some 104,none,.no,.call (.v (.fn 49 [])) [(.t 102), (.t 103)]⟩,
  ⟨none,none,.no,.store 32 (.t 15) (.t 104)⟩]
def qnc58 : ACode := .cond (.t 108) qnc56 (.reg qnr57)
def qnc59 : ACode := .seq (.reg qnr46) qnc58
def qnc60 : ACode := .cond (.t 105) qnc45 qnc59
def qnc61 : ACode := .seq (.reg qnr43) qnc60
def qnc62 : ACode := .block 5 qnc61
def qnc63 : ACode := .seq (.reg qnr42) qnc62
@[go_sem] def qnr64 : List AIns := [
  ⟨some 134,none,.no,.mv (.t 11)⟩,
  ⟨some 135,none,.no,.bin .quo .none (.t 134) (.v (.int .i64 2))⟩,
  ⟨some 136,none,.no,.mv (.t 12)⟩,
  ⟨some 137,none,.no,.bin .quo .none (.t 136) (.v (.int .i64 2))⟩,
  ⟨some 11,none,.no,.mv (.t 135)⟩,
  ⟨some 12,none,.no,.mv (.t 137)⟩]
def qnc65 : ACode := .seq qnc63 (.reg qnr64)
def qnc66 : ACode := .block 4 qnc65
def qnc67 : ACode := .seq qnc41 qnc66
def qnc68 : ACode := .loop qnc67
@[go_sem] def qnr69 : List AIns := [
  ⟨some 138,none,.no,.load false 1 (.t 9)⟩,
  ⟨some 139,none,.no,.lenSl (.t 138)⟩,
  ⟨some 140,none,.no,.bin .eql .none (.t 139) (.v (.int .i64 0))⟩,
  ⟨some 141,none,.no,.mv (.t 140)⟩,
  ⟨some 142, some (141, true), .no, .load true 32 (.t 14)⟩,
  ⟨some 143, some (141, true), .no, .load true 32 (.t 7)⟩,
  ⟨some 144, some (141, true), .no, .bin .eql (.agg (List.replicate 32 (.i .u8) ++ [])) (.t 142) (.t 143)⟩,
  ⟨some 145,none,.no,.pick (.t 141) (.t 144) (.v (.bool false))⟩,
  ⟨some 146,none,.no,.mv (.t 145)⟩,
  ⟨some 147, some (146, true), .no, .load true 32 (.t 15)⟩,
  ⟨some 148, some (146, true), .no, .load true 32 (.t 8)⟩,
  ⟨some 149, some (146, true), .no, .bin .eql (.agg (List.replicate 32 (.i .u8) ++ [])) (.t 147) (.t 148)⟩,
  ⟨some 150,none,.no,.pick (.t 146) (.t 149) (.v (.bool false))⟩,
  ⟨some 151,none,.no,.call (.v (.fn 56 [])) [(.t 150)]⟩,
  ⟨some 10,none,.no,.mv (.t 151)⟩]
def qnc70 : ACode := .seq (.reg qnr69) .ret
def zc6 : ACode := .seq (.block 3 qnc68) qnc70
def qnc72 : ACode := .seq qnc38 zc6
def qnc73 : ACode := .seq (.reg2 qnr25 qnr26) qnc72
def qnc74 : ACode := .seq (.reg qnr24) qnc73
def qnc75 : ACode := .seq (.block 1 qnc23) qnc74
def qnc76 : ACode := .seq (.reg qnr16) qnc75
def qnc77 : ACode := .seq (.block 0 qnc15) qnc76
def qnc78 : ACode := .seq (.reg qnr0) qnc77
theorem qnok : cFn TC 35 = some (152, [.t 10], qnc78) := by kernel_rfl

@[go_sem] def qor0 : List AIns := [
  ⟨some 9,none,.no,.mv (.t 1)⟩,
  ⟨some 10,none,.no,.mv (.t 0)⟩,
  ⟨some 11,none,.no,.lenSl (.t 10)⟩,
  ⟨some 12,none,.no,.bin .eql .none (.t 9) (.t 11)⟩]
@[go_sem] def qor1 : List AIns := [
  ⟨some 13,none,.no,.mv (.t 2)⟩,
  ⟨some 14,none,.no,.un .not (.t 13)⟩]
@[go_sem] def qor2 : List AIns := [
  ⟨some 15, none, .rd, .load false 1 (.t 3)⟩,
  ⟨some 16,none,.no,.mv (.t 0)⟩,
  ⟨some 17, none, .ef, .call (.v (.fn 24 [])) [(.t 16)]⟩,
  ⟨some 18,none,.no,.lit 32 [(.t 17)]⟩,
  ⟨some 19,none,.no,.app 32 (.t 15) (.t 18)⟩,
  ⟨none,none,.no,.store 1 (.t 3) (.t 19)⟩]
def qoc3 : ACode := .cond (.t 14) (.reg qor2) .skip
def qoc4 : ACode := .seq (.reg qor1) qoc3
def qoc5 : ACode := .seq qoc4 .ret
def qoc6 : ACode := .cond (.t 12) qoc5 .skip
def qoc7 : ACode := .seq (.reg qor0) qoc6
@[go_sem] def qor8 : List AIns := [
  ⟨some 20,none,.no,.mv (.t 0)⟩,
  ⟨some 21,none,.no,.lenSl (.t 20)⟩,
  ⟨some 22,none,.no,.call (.v (.fn 48 [])) [(.t 21)]⟩,
  ⟨some 8,none,.no,.mv (.t 22)⟩]
@[go_sem] def qor9 : List AIns := [
  ⟨some 23,none,.no,.mv (.t 1)⟩,
  ⟨some 24,none,.no,.mv (.t 8)⟩,
  ⟨some 25,none,.no,.bin .leq .none (.t 23) (.t 24)⟩]
@[go_sem] def qor10 : List AIns := [
  ⟨some 26,none,.no,.load false 1 (.t 4)⟩,
  ⟨some 27,none,.no,.mv (.t 0)⟩,
  ⟨some 28,none,.no,.mv (.t 8)⟩,
  ⟨some 29,none,.no,.slice (.sl 32) (.t 27) none (some (.t 28)) none⟩,
  ⟨some 30,none,.no,.mv (.t 1)⟩,
  ⟨some 31,none,.no,.mv (.t 2)⟩,
  ⟨some 32,none,.no,.call (.t 26) [(.t 29), (.t 30), (.t 31)]⟩]
@[go_sem] def qor11 : List AIns := [
  ⟨some 33, none, .rd, .load false 1 (.t 3)⟩,
  ⟨some 34,none,.no,.mv (.t 0)⟩,
  ⟨some 35,none,.no,.mv (.t 8)⟩,
  ⟨some 36,none,.no,.slice (.sl 32) (.t 34) (some (.t 35)) none none⟩,
  ⟨some 37, none, .ef, .call (.v (.fn 24 [])) [(.t 36)]⟩,
  ⟨some 38,none,.no,.lit 32 [(.t 37)]⟩,
  ⟨some 39,none,.no,.app 32 (.t 33) (.t 38)⟩,
  ⟨none,none,.no,.store 1 (.t 3) (.t 39)⟩]
def qoc12 : ACode := .seq (.reg qor11) .ret
def qoc13 : ACode := .seq (.reg qor10) qoc12
def qoc14 : ACode := .cond (.t 25) qoc13 .skip
def qoc15 : ACode := .seq (.reg qor9) qoc14
@[go_sem] def qor16 : List AIns := [
  ⟨some 40,none,.no,.load false 1 (.t 4)⟩,
  ⟨some 41,none,.no,.mv (.t 0)⟩,
  ⟨some 42,none,.no,.mv (.t 8)⟩,
  ⟨some 43,none,.no,.slice (.sl 32) (.t 41) (some (.t 42)) none none⟩,
  ⟨some 44,none,.no,.mv (.t 1)⟩,
  ⟨some 45,none,.no,.mv (.t 8)⟩,
  ⟨some 46,none,.no,.bin .sub .none (.t 44) (.t 45)⟩,
  ⟨some 47,none,.no,.call (.t 40) [(.t 43), (.t 46), (.v (.bool false))]⟩]
@[go_sem] def qor17 : List AIns := [
  ⟨some 48, none, .rd, .load false 1 (.t 3)⟩,
  ⟨some 49,none,.no,.mv (.t 0)⟩,
  ⟨some 50,none,.no,.mv (.t 8)⟩,
  ⟨some 51,none,.no,.slice (.sl 32) (.t 49) none (some (.t 50)) none⟩,
  ⟨some 52, none, .ef, .call (.v (.fn 24 [])) [(.t 51)]⟩,
  ⟨some 53,none,.no,.lit 32 [(.t 52)]⟩,
  ⟨some 54,none,.no,.app 32 (.t 48) (.t 53)⟩,
  ⟨none,none,.no,.store 1 (.t 3) (.t 54)⟩]
def qoc18 : ACode := .seq (.reg qor16) (.reg qor17)
def qoc19 : ACode := .seq qoc15 qoc18
def qoc20 : ACode := .seq (.reg qor8) qoc19
def qoc21 : ACode := .seq qoc7 qoc20
theorem qook : cFn TC 50 = some (55, [], qoc21) := by kernel_rfl

@[go_sem] def qpr0 : List AIns := [
  ⟨some 2,none,.no,.mv (.v (.int .i64 0))⟩]
@[go_sem] def qpr1 : List AIns := [
  ⟨some 3,none,.no,.mv (.t 0)⟩,
  ⟨some 4,none,.no,.un .not (.t 3)⟩]
@[go_sem] def qpr2 : List AIns := [
  ⟨some 2,none,.no,.mv (.v (.int .i64 80))⟩]
def qpc3 : ACode := .seq (.reg qpr2) .ret
def qpc4 : ACode := .cond (.t 4) qpc3 .skip
def qpc5 : ACode := .seq (.reg qpr1) qpc4
@[go_sem] def qpr6 : List AIns := [
  ⟨some 2,none,.no,.mv (.v (.int .i64 0))⟩]
def qpc7 : ACode := .seq (.reg qpr6) .ret
def qpc8 : ACode := .seq qpc5 qpc7
def qpc9 : ACode := .seq (.reg qpr0) qpc8
theorem qpok : cFn TC 56 = some (5, [.t 2], qpc9) := by kernel_rfl

@[go_sem] def qqr0 : List AIns := [
  ⟨some 1,none,.no,.alloc zZ0⟩,
  ⟨some 2,none,.no,.mv (.v (.bool false))⟩]
@[go_sem] def qqr1 : List AIns := [
  ⟨some 3,none,.no,.load false 1 (.t 0)⟩,
  ⟨some 4,none,.no,.lenSl (.t 3)⟩,
  ⟨some 5,none,.no,.bin .eql .none (.t 4) (.v (.int .i64 0))⟩]
@[go_sem] def qqr2 : List AIns := [
  ⟨some 6,none,.no,.load true 32 (.t 1)⟩,
  ⟨none,none,.no,.store 32 (.t 1) (.t 6)⟩,
  ⟨some 2,none,.no,.mv (.v (.bool false))⟩]
def qqc3 : ACode := .seq (.reg qqr2) .ret
def qqc4 : ACode := .cond (.t 5) qqc3 .skip
def qqc5 : ACode := .seq (.reg qqr1) qqc4
@[go_sem] def qqr6 : List AIns := [
  ⟨some 7, none, .rd, .load false 1 (.t 0)⟩,
  ⟨some 8,none,.no,.iaSl 32 (.t 7) (.v (.int .i64 0))⟩,
  ⟨some 9, none, .rd, .load true 32 (.t 8)⟩,
  ⟨some 10, none, .rd2, .load false 1 (.t 0)⟩,
  ⟨some 11,none,.no,.slice (.sl 32) (.t 10) (some (.v (.int .i64 1))) none none⟩,
  ⟨none, none, .ef2, .store 32 (.t 1) (.t 9)⟩,
  ⟨none,none,.no,.store 1 (.t 0) (.t 11)⟩]
@[go_sem] def qqr7 : List AIns := [
  ⟨some 12,none,.no,.load true 32 (.t 1)⟩,
  ⟨none,none,.no,.store 32 (.t 1) (.t 12)⟩,
  ⟨some 2,none,.no,.mv (.v (.bool true))⟩]
def qqc8 : ACode := .seq (.reg qqr7) .ret
def qqc9 : ACode := .seq (.reg qqr6) qqc8
def qqc10 : ACode := .seq qqc5 qqc9
def qqc11 : ACode := .seq (.reg qqr0) qqc10
theorem qqok : cFn TC 57 = some (13, [.c 1 true 32, .t 2], qqc11) := by kernel_rfl

end Am
end Go.Proofs.YtjgljhbmljgaeaaDoor
end
section
/- Proofs: contracts: Proof of the program. -/
namespace Go.Proofs.YtjgljhbmljgaeaaDoor
namespace Am
/-- A sub-proof. -/
def subF : Nat -> List (List UInt8) -> Nat -> Bool -> List (List UInt8)
  | 0, _, _, _ => []
  | f + 1, l, m, known =>
    if m = l.length then (if known then [] else [zw l])
    else if m <= zj l.length then subF f (l.take (zj l.length)) m known ++ [zw (l.drop (zj l.length))]
    else subF f (l.drop (zj l.length)) (m - zj l.length) false ++ [zw (l.take (zj l.length))]
theorem zae : ∀ (f g : Nat) (l : List (List UInt8)) (m : Nat) (kn : Bool), l.length < f -> l.length < g -> 0 < m -> m <= l.length -> subF f l m kn = subF g l m kn
  | 0, _, _, _, _, h, _, _, _ => by omega
  | _ + 1, 0, _, _, _, _, h, _, _ => by omega
  | f + 1, g + 1, l, m, kn, h, h', h0, hm => by
    simp only [subF]
    by_cases h1 : m = l.length
    · rw [if_pos h1, if_pos h1]
    · obtain ⟨s1, s2, s3⟩ := z5k (n := l.length) (by omega)
      rw [if_neg h1, if_neg h1]
      by_cases h2 : m <= zj l.length
      · rw [if_pos h2, if_pos h2, zae f g (l.take (zj l.length)) m kn (by rw [List.length_take]; omega) (by rw [List.length_take]; omega) h0 (by rw [List.length_take]; omega)]
      · rw [if_neg h2, if_neg h2, zae f g (l.drop (zj l.length)) (m - zj l.length) false (by rw [List.length_drop]; omega) (by rw [List.length_drop]; omega) (by omega) (by rw [List.length_drop]; omega)]
def subS (l : List (List UInt8)) (m : Nat) (known : Bool) : List (List UInt8) := subF (l.length + 1) l m known
theorem zhk (l : List (List UInt8)) (kn : Bool) : subS l l.length kn = if kn then [] else [zw l] := by
  unfold subS subF; rw [if_pos rfl]
theorem zhl {l : List (List UInt8)} {m : Nat} {kn : Bool} (h0 : 0 < m) (h1 : m < l.length) (h2 : m <= zj l.length) :
    subS l m kn = subS (l.take (zj l.length)) m kn ++ [zw (l.drop (zj l.length))] := by
  obtain ⟨s1, s2, s3⟩ := z5k (n := l.length) (by omega)
  unfold subS
  rw [subF, if_neg (by omega), if_pos h2]
  congr 1
  exact zae _ _ _ _ _ (by rw [List.length_take]; omega) (Nat.lt_succ_self _) h0 (by rw [List.length_take]; omega)
theorem zhm {l : List (List UInt8)} {m : Nat} {kn : Bool} (h1 : m < l.length) (h2 : ¬ m <= zj l.length) :
    subS l m kn = subS (l.drop (zj l.length)) (m - zj l.length) false ++ [zw (l.take (zj l.length))] := by
  obtain ⟨s1, s2, s3⟩ := z5k (n := l.length) (by omega)
  unfold subS
  rw [subF, if_neg (by omega), if_neg h2]
  congr 1
  exact zae _ _ _ _ _ (by rw [List.length_drop]; omega) (Nat.lt_succ_self _) (by omega) (by rw [List.length_drop]; omega)
theorem zad : ∀ (f : Nat) (l : List (List UInt8)) (m : Nat) (kn : Bool), H32 l -> H32 (subF f l m kn) /\ (subF f l m kn).length <= f
  | 0, _, _, _, _ => ⟨by intro h hh; simp [subF] at hh, by simp [subF]⟩
  | f + 1, l, m, kn, hH => by
    simp only [subF]
    have one : ∀ {x : List UInt8}, x.length = 32 -> H32 [x] := fun hx h hh => by simp at hh; subst hh; exact hx
    have app : ∀ {a b : List (List UInt8)}, H32 a -> H32 b -> H32 (a ++ b) := fun h1 h2 h hh => (List.mem_append.1 hh).elim (h1 h) (h2 h)
    split
    · split
      · exact ⟨fun h hh => by simp at hh, by simp⟩
      · exact ⟨one (z2h hH), by simp⟩
    · split
      · obtain ⟨i1, i2⟩ := zad f (l.take (zj l.length)) m kn (hH.take _)
        exact ⟨app i1 (one (z2h (hH.drop _))), by simp; omega⟩
      · obtain ⟨i1, i2⟩ := zad f (l.drop (zj l.length)) (m - zj l.length) false (hH.drop _)
        exact ⟨app i1 (one (z2h (hH.take _))), by simp; omega⟩
theorem subS_H {l : List (List UInt8)} {m : Nat} {kn : Bool} (hH : H32 l) : H32 (subS l m kn) := (zad _ l m kn hH).1
theorem zd7 {l : List (List UInt8)} {m : Nat} {kn : Bool} (hH : H32 l) : (subS l m kn).length <= l.length + 1 := (zad _ l m kn hH).2
/-- What Proof has in memory: its own proof, itself, and rows of its own. -/
structure PrS (Y0 Y' : Store) (v : AV) (es : List (List AV)) : Prop where
  out : Y'[Y0.length]? = some (some [[v]])
  fn : Y'[Y0.length + 1]? = some (some [[.fn 50 [.ptr Y0.length 0 0, .ptr (Y0.length + 1) 0 0]]])
  keep : ∀ q, q < Y0.length -> Y'[q]? = Y0[q]?
  sl : (es = [] /\ v = .nilsl) \/ ∃ r, Y0.length + 2 <= r /\ es ≠ [] /\ v = .sl r 0 es.length none 32 /\ Y'[r]? = some (some es)
theorem PrS.lt {Y0 Y' : Store} {v : AV} {es : List (List AV)} (h : PrS Y0 Y' v es) : Y0.length + 2 <= Y'.length := by
  have := (List.getElem?_eq_some_iff.1 h.fn).1; omega
/-- One more. -/
theorem PrS.add {Y0 Y' : Store} {v : AV} {es : List (List AV)} (h : PrS Y0 Y' v es) (row : List AV) (hl : es.length + 1 <= 1073741824) :
    ∃ r Y2, aApp Y' 32 v [row] = some (.sl r 0 (es.length + 1) none 32, Y2) /\ Y2[Y0.length]? = some (some [[v]]) /\ PrS Y0 (Y2.set Y0.length (some [[.sl r 0 (es.length + 1) none 32]])) (.sl r 0 (es.length + 1) none 32) (es ++ [row]) := by
  have hlt := h.lt
  obtain ⟨h1, h2, h3, ⟨rfl, rfl⟩ | ⟨r, hr, h0, rfl, hg⟩⟩ := h
  · refine ⟨Y'.length, Y' ++ [some [row]], rfl, by rw [gapp (by omega)]; exact h1, ⟨?_, ?_, ?_, .inr ⟨Y'.length, by omega, by simp, by simp, ?_⟩⟩⟩
    · rw [z2d (by simp; omega)]
    · rw [z18 (by omega), gapp (by omega)]; exact h2
    · intro q hq; rw [z18 (by omega), gapp (by omega)]; exact h3 q hq
    · rw [z18 (by omega), z1n (Nat.le_refl _), Nat.sub_self]; rfl
  · have hrl := (List.getElem?_eq_some_iff.1 hg).1
    refine ⟨Y'.length, Y'.set r none ++ [some (es ++ [row])], ?_, ?_, ⟨?_, ?_, ?_, .inr ⟨Y'.length, by omega, by simp, by simp, ?_⟩⟩⟩
    · rw [z9i, if_neg (by simp), hg]
      simp only [List.length_cons, List.length_nil]
      rw [if_pos ⟨trivial, by omega, by omega⟩, if_neg (by omega), List.drop_zero, List.take_of_length_le (Nat.le_refl _)]
    · rw [gapp (by simp; omega), z18 (by omega)]; exact h1
    · rw [z2d (by simp; omega)]
    · rw [z18 (by omega), gapp (by simp; omega), z18 (by omega)]; exact h2
    · intro q hq; rw [z18 (by omega), gapp (by simp; omega), z18 (by omega)]; exact h3 q hq
    · rw [z18 (by omega), z1n (by simp), List.length_set, Nat.sub_self]; rfl
theorem PrS.ex (Y0 : Store) (es : List (List AV)) : ∃ v Y', PrS Y0 Y' v es := by
  by_cases h : es = []
  · exact ⟨.nilsl, Y0 ++ [some [[.nilsl]], some [[.fn 50 [.ptr Y0.length 0 0, .ptr (Y0.length + 1) 0 0]]]], by simp, by simp, fun q hq => gapp hq, .inl ⟨h, rfl⟩⟩
  · exact ⟨.sl (Y0.length + 2) 0 es.length none 32, Y0 ++ [some [[.sl (Y0.length + 2) 0 es.length none 32]], some [[.fn 50 [.ptr Y0.length 0 0, .ptr (Y0.length + 1) 0 0]]], some es], by simp, by simp, fun q hq => gapp hq, .inr ⟨_, Nat.le_refl _, h, rfl, by simp⟩⟩
set_option maxHeartbeats 8000000 in
theorem zil (Y0 : Store) : ∀ (f : Nat) (hs : List (List UInt8)) (ex : Bool) (m : Nat) (kn : Bool) (Y : Store) (v : AV) (es : List (List AV)), hs.length < f -> H32 hs -> hs.length < 1000000 -> 0 < m -> m <= hs.length -> es.length + hs.length < 10000000 -> PrS Y0 Y v es ->
    ACallsP TC 50 [.vsl 32 (zm hs) ex, .int .i64 m, .bool kn, .ptr Y0.length 0 0, .ptr (Y0.length + 1) 0 0] Y (fun r Y' => r = .tup [] /\ ∃ v', PrS Y0 Y' v' (es ++ zm (subS hs m kn))) := by
  intro f
  induction f with
  | zero => intro hs ex m kn Y v es h; omega
  | succ f ih =>
    intro hs ex m kn Y v es hf hH hl h0 hm hel hP
    have hrl := z2k hs
    have ho := hP.out
    have hfn := hP.fn
    have hlt := hP.lt
    by_cases h1 : m = hs.length
    · subst h1
      rw [zhk]
      cases kn with
      | true =>
        refine ACallsP.of_keep qook (by simp) ?_
        repeat' (first|refine zW.zs ?_|refine zW.zb ?_|refine zW.zc ?_|refine zW.zt rfl ?_|refine zW.zf rfl ?_|(refine zW.zd rfl (fun ht => ?_) (fun ht => ?_)<;>try (exfalso;omega))|((first|refine zW.zr ?_|refine zW.zk ?_|refine zW.ze ?_|refine zW.zq ?_|((first|apply zg0|apply zg1|apply zg2|apply zg3|apply zg4|apply zg5|apply zg6|apply zg7)<;>intro ht));all_goals try simp (disch:=first|omega|(simp only [lens];first|done|omega)) only [go_sem,reduceEqDiff,Nat.reduceBEq,reduceAdd,reduceMul,reduceSub,reduceLeDiff,reduceToNat,reducePow, hrl]))
        exact ⟨v, by simpa [zm] using hP⟩
      | false =>
        obtain ⟨r, Y2, he, hg, hP2⟩ := hP.add (z8 (zw hs)) (by omega)
        have hR := z8x Y hs (.vsl 32 (zm hs) ex) (.inr ⟨ex, rfl⟩) hH (by omega)
        have hc := zn (zw hs)
        rw [z2h hH] at hc
        have hgo : zm (if false = true then [] else [zw hs]) = [z8 (zw hs)] := rfl
        rw [hgo]
        generalize z8 (zw hs) = row at *
        generalize zm hs = rows at *
        refine ACallsP.of_keep qook (by simp) ?_
        repeat' (first | refine zW.zs ?_ | refine zW.zb ?_ | refine zW.zc ?_ | refine zW.zt rfl ?_ | refine zW.zf rfl ?_ | (refine zW.zd rfl (fun ht => ?_) (fun ht => ?_) <;> try (exfalso; omega)) | ((first | refine zW.regS ?_ | refine zW.zk ?_ | refine zW.ze ?_ | refine zW.zq ?_ | (apply callW.mk_pu; (first | exact (fun _ => hR))) | (apply callW.za; (first | exact (hR))) | ((first|apply zg0|apply zg1|apply zg2|apply zg3|apply zg4|apply zg5|apply zg6|apply zg7)<;>intro ht));all_goals try simp (disch:=first|omega|(simp only [lens];first|done|omega)) only [go_sem,reduceEqDiff,Nat.reduceBEq,reduceAdd,reduceMul,reduceSub,reduceLeDiff,reduceToNat,reducePow, hrl, ho, he, hg, hc]))
        exact ⟨_, hP2⟩
    · obtain ⟨s1, s2, s3⟩ := z5k (n := hs.length) (by omega)
      have hsp := fun Y => z8y Y hs.length (by omega)
      obtain ⟨k, hkd⟩ : ∃ k, zj hs.length = k := ⟨_, rfl⟩
      have tk := zfd hs k
      have dk := zfc hs k
      rw [hkd] at s1 s2 s3 hsp
      have hm1 : ¬ (m : Int) = hs.length := by omega
      by_cases h2 : m <= k
      · have e := zhl (l := hs) (m := m) (kn := kn) h0 (by omega) (by rw [hkd]; exact h2)
        rw [hkd] at e
        have i1 := fun b => ih (hs.take k) b m kn Y v es (by rw [List.length_take]; omega) (hH.take _) (by rw [List.length_take]; omega) (by omega) (by rw [List.length_take]; omega) (by rw [List.length_take]; omega) hP
        have hR := fun Y b => z8x Y (hs.drop k) (.vsl 32 (zm (hs.drop k)) b) (.inr ⟨b, rfl⟩) (hH.drop _) (by rw [List.length_drop]; omega)
        have hc := zn (zw (hs.drop k))
        rw [z2h (hH.drop _)] at hc
        have hcat : zm (subS hs m kn) = zm (subS (hs.take k) m kn) ++ [z8 (zw (hs.drop k))] := by rw [e]; simp [zm]
        have hsl := zd7 (m := m) (kn := kn) (hH.take k)
        have hsr := z2k (subS (hs.take k) m kn)
        rw [hcat, <- List.append_assoc]
        rw [List.length_take] at hsl
        generalize z8 (zw (hs.drop k)) = row at *
        generalize zm (subS (hs.take k) m kn) = es1 at *
        generalize zm (hs.take k) = ra at *
        generalize zm (hs.drop k) = rb at *
        generalize zm hs = rows at *
        refine ACallsP.of_keep qook (by simp) ?_
        repeat' (first | refine zW.zs ?_ | refine zW.zb ?_ | refine zW.zc ?_ | refine zW.zt rfl ?_ | refine zW.zf rfl ?_ | (refine zW.zd rfl (fun ht => ?_) (fun ht => ?_) <;> try (exfalso; omega)) | ((first | refine zW.regS ?_ | refine zW.zk ?_ | refine zW.ze ?_ | refine zW.zq ?_ | (apply callW.mk_pu; (first | exact (fun _ => hsp _))) | (apply callW.za; (first | exact (hsp _))) | ((first|apply zg0|apply zg1|apply zg2|apply zg3|apply zg4|apply zg5|apply zg6|apply zg7)<;>intro ht));all_goals try simp (disch:=first|omega|(simp only [lens];first|done|omega)) only [go_sem,reduceEqDiff,Nat.reduceBEq,reduceAdd,reduceMul,reduceSub,reduceLeDiff,reduceToNat,reducePow, hrl, ho, hfn, hm1, tk, dk]))
        refine callW.mkP (i1 _) (by obtain ⟨v', Y', h⟩ := PrS.ex Y0 (es ++ es1); exact ⟨_, Y', rfl, v', h⟩) ?_
        rintro r1 Y1 ⟨rfl, v1, hP1⟩
        have ho1 := hP1.out
        obtain ⟨r, Y2, he, hg, hP2⟩ := hP1.add row (by rw [List.length_append]; omega)
        repeat' (first | refine zW.zs ?_ | refine zW.zb ?_ | refine zW.zc ?_ | refine zW.zt rfl ?_ | refine zW.zf rfl ?_ | (refine zW.zd rfl (fun ht => ?_) (fun ht => ?_) <;> try (exfalso; omega)) | ((first | refine zW.regS ?_ | refine zW.zk ?_ | refine zW.ze ?_ | refine zW.zq ?_ | (apply callW.mk_pu; (first | exact (fun _ => hR _ _))) | (apply callW.za; (first | exact (hR _ _))) | ((first|apply zg0|apply zg1|apply zg2|apply zg3|apply zg4|apply zg5|apply zg6|apply zg7)<;>intro ht));all_goals try simp (disch:=first|omega|(simp only [lens];first|done|omega)) only [go_sem,reduceEqDiff,Nat.reduceBEq,reduceAdd,reduceMul,reduceSub,reduceLeDiff,reduceToNat,reducePow, hrl, ho1, he, hg, hc, tk, dk]))
        rw [List.length_append, List.append_assoc] at hP2
        exact ⟨_, hP2⟩
      · have e := zhm (l := hs) (m := m) (kn := kn) (by omega) (by rw [hkd]; exact h2)
        rw [hkd] at e
        have hms : (m : Int) - k = ((m - k : Nat) : Int) := by omega
        have i1 := fun b => ih (hs.drop k) b (m - k) false Y v es (by rw [List.length_drop]; omega) (hH.drop _) (by rw [List.length_drop]; omega) (by omega) (by rw [List.length_drop]; omega) (by rw [List.length_drop]; omega) hP
        have hR := fun Y b => z8x Y (hs.take k) (.vsl 32 (zm (hs.take k)) b) (.inr ⟨b, rfl⟩) (hH.take _) (by rw [List.length_take]; omega)
        have hc := zn (zw (hs.take k))
        rw [z2h (hH.take _)] at hc
        have hcat : zm (subS hs m kn) = zm (subS (hs.drop k) (m - k) false) ++ [z8 (zw (hs.take k))] := by rw [e]; simp [zm]
        have hsl := zd7 (m := (m - k)) (kn := false) (hH.drop k)
        have hsr := z2k (subS (hs.drop k) (m - k) false)
        rw [hcat, <- List.append_assoc]
        rw [List.length_drop] at hsl
        generalize z8 (zw (hs.take k)) = row at *
        generalize zm (subS (hs.drop k) (m - k) false) = es1 at *
        generalize zm (hs.take k) = ra at *
        generalize zm (hs.drop k) = rb at *
        generalize zm hs = rows at *
        refine ACallsP.of_keep qook (by simp) ?_
        repeat' (first | refine zW.zs ?_ | refine zW.zb ?_ | refine zW.zc ?_ | refine zW.zt rfl ?_ | refine zW.zf rfl ?_ | (refine zW.zd rfl (fun ht => ?_) (fun ht => ?_) <;> try (exfalso; omega)) | ((first | refine zW.regS ?_ | refine zW.zk ?_ | refine zW.ze ?_ | refine zW.zq ?_ | (apply callW.mk_pu; (first | exact (fun _ => hsp _))) | (apply callW.za; (first | exact (hsp _))) | ((first|apply zg0|apply zg1|apply zg2|apply zg3|apply zg4|apply zg5|apply zg6|apply zg7)<;>intro ht));all_goals try simp (disch:=first|omega|(simp only [lens];first|done|omega)) only [go_sem,reduceEqDiff,Nat.reduceBEq,reduceAdd,reduceMul,reduceSub,reduceLeDiff,reduceToNat,reducePow, hrl, ho, hfn, hm1, tk, dk, hms]))
        refine callW.mkP (i1 _) (by obtain ⟨v', Y', h⟩ := PrS.ex Y0 (es ++ es1); exact ⟨_, Y', rfl, v', h⟩) ?_
        rintro r1 Y1 ⟨rfl, v1, hP1⟩
        have ho1 := hP1.out
        obtain ⟨r, Y2, he, hg, hP2⟩ := hP1.add row (by rw [List.length_append]; omega)
        repeat' (first | refine zW.zs ?_ | refine zW.zb ?_ | refine zW.zc ?_ | refine zW.zt rfl ?_ | refine zW.zf rfl ?_ | (refine zW.zd rfl (fun ht => ?_) (fun ht => ?_) <;> try (exfalso; omega)) | ((first | refine zW.regS ?_ | refine zW.zk ?_ | refine zW.ze ?_ | refine zW.zq ?_ | (apply callW.mk_pu; (first | exact (fun _ => hR _ _))) | (apply callW.za; (first | exact (hR _ _))) | ((first|apply zg0|apply zg1|apply zg2|apply zg3|apply zg4|apply zg5|apply zg6|apply zg7)<;>intro ht));all_goals try simp (disch:=first|omega|(simp only [lens];first|done|omega)) only [go_sem,reduceEqDiff,Nat.reduceBEq,reduceAdd,reduceMul,reduceSub,reduceLeDiff,reduceToNat,reducePow, hrl, ho1, he, hg, hc, tk, dk]))
        rw [List.length_append, List.append_assoc] at hP2
        exact ⟨_, hP2⟩
theorem DownV.tup2 {k : Nat} {v v2 : AV} {Y Y2 : Store} {i : IntKind} {e : Int} (h : DownV k v Y v2 Y2) : DownV k (.tup [v, .int i e]) Y (.tup [v2, .int i e]) Y2 := by
  obtain ⟨D, a, b, c⟩ := h
  exact ⟨D, a, b, by simp only [DR, DRs]; exact ⟨_, rfl, _, _, rfl, c, _, _, rfl, rfl, rfl⟩⟩
theorem zb9 {Y Y' : Store} (h : Y.length <= Y'.length) (h2 : ∀ q, q < Y.length -> Y'[q]? = Y[q]?) : ∃ y, Y' = Y ++ y := by
  refine ⟨Y'.drop Y.length, ?_⟩
  have e : Y'.take Y.length = Y := by
    refine List.ext_getElem? fun i => ?_
    by_cases hi : i < Y.length
    · rw [List.getElem?_take_of_lt hi]; exact h2 i hi
    · rw [List.getElem?_eq_none (by simp; omega), List.getElem?_eq_none (by omega)]
  calc Y' = Y'.take Y.length ++ Y'.drop Y.length := (List.take_append_drop _ _).symm
    _ = Y ++ Y'.drop Y.length := by rw [e]
theorem PrS.own {Y0 Y' : Store} {v : AV} {es : List (List AV)} (h : PrS Y0 Y' v es) : OwnN 32 Y0 Y' v es := by
  have hlt := h.lt
  obtain ⟨y, rfl⟩ := zb9 (by omega) h.keep
  obtain ⟨h1, h2, h3, h4 | ⟨r, hr, h0, rfl, hg⟩⟩ := h
  · exact ⟨y, rfl, .inl h4⟩
  · refine ⟨y, rfl, .inr ⟨r - Y0.length, h0, by rw [show Y0.length + (r - Y0.length) = r by omega], ?_⟩⟩
    rw [List.getElem?_append_right (by omega)] at hg; exact hg
/-- What Proof answers. -/
def z22 (hs : List (List UInt8)) (m : Int) : List (List UInt8) := if 0 < m /\ m < hs.length then subS hs m.toNat true else []
def z3k (hs : List (List UInt8)) (m : Int) : Int := if m < 0 \/ (hs.length : Int) < m then 2 else 0
theorem zoc {hs : List (List UInt8)} {m : Int} (h : H32 hs) : H32 (z22 hs m) := by
  unfold z22
  split
  · exact subS_H h
  · intro x hx; simp at hx
theorem zod {hs : List (List UInt8)} {m : Int} (h : H32 hs) : (z22 hs m).length <= hs.length + 1 := by
  unfold z22
  split
  · exact zd7 h
  · simp
def ProofP (Y : Store) (hs : List (List UInt8)) (m : Int) (v : AV) (Y' : Store) : Prop := ∃ v2, v = .tup [v2, .int .i64 (z3k hs m)] /\ OwnN 32 Y Y' v2 (zm (z22 hs m))
theorem ProofP.ex (Y : Store) (hs : List (List UInt8)) (m : Int) : ∃ v Y', ProofP Y hs m v Y' := ⟨_, _, _, rfl, z9z Y 32 _⟩
theorem ProofP.none {Y : Store} {hs : List (List UInt8)} {m : Int} (h : z22 hs m = []) : ProofP Y hs m (.tup [.nilsl, .int .i64 (z3k hs m)]) Y := ⟨.nilsl, rfl, by rw [h]; exact ⟨[], by simp, .inl ⟨rfl, rfl⟩⟩⟩
set_option maxHeartbeats 8000000 in
theorem zim (Y : Store) (hs : List (List UInt8)) (x : AV) (m : Int) (hx : SlV 32 (zm hs) x) (hH : H32 hs) (hl : hs.length < 1000000) :
    ACallsP TC 26 [x, .int .i64 m] Y (ProofP Y hs m) := by
  have r1 := hx.len
  rw [z2k] at r1
  unfold z1k at r1
  by_cases h1 : m < 0 \/ (hs.length : Int) < m
  · have e1 : z3k hs m = 2 := by unfold z3k; rw [if_pos h1]
    have e2 : z22 hs m = [] := by unfold z22; rw [if_neg (by omega)]
    refine ACallsTo.toP (v := .tup [.nilsl, .int .i64 2]) (Y' := Y) ?_ (by have := ProofP.none (Y := Y) e2; rwa [e1] at this)
    refine ACallsTo.of_body qmok (by simp) fun hw _ => ?_
    repeat' (first|refine zW.zs ?_|refine zW.zb ?_|refine zW.zc ?_|refine zW.zt rfl ?_|refine zW.zf rfl ?_|(refine zW.zd rfl (fun ht => ?_) (fun ht => ?_)<;>try (exfalso;omega))|((first|refine zW.zr ?_|refine zW.zk ?_|refine zW.ze ?_|refine zW.zq ?_|((first|apply zg0|apply zg1|apply zg2|apply zg3|apply zg4|apply zg5|apply zg6|apply zg7)<;>intro ht));all_goals try simp (disch:=first|omega|(simp only [lens];first|done|omega)) only [go_sem,reduceEqDiff,Nat.reduceBEq,reduceAdd,reduceMul,reduceSub,reduceLeDiff,reduceToNat,reducePow, r1]))
    all_goals exact DownV.same hw (zz _ rfl)
  · have e1 : z3k hs m = 0 := by unfold z3k; rw [if_neg h1]
    by_cases h2 : m = 0 \/ m = hs.length
    · have e2 : z22 hs m = [] := by unfold z22; rw [if_neg (by omega)]
      refine ACallsTo.toP (v := .tup [.nilsl, .int .i64 0]) (Y' := Y) ?_ (by have := ProofP.none (Y := Y) e2; rwa [e1] at this)
      refine ACallsTo.of_body qmok (by simp) fun hw _ => ?_
      repeat' (first|refine zW.zs ?_|refine zW.zb ?_|refine zW.zc ?_|refine zW.zt rfl ?_|refine zW.zf rfl ?_|(refine zW.zd rfl (fun ht => ?_) (fun ht => ?_)<;>try (exfalso;omega))|((first|refine zW.zr ?_|refine zW.zk ?_|refine zW.ze ?_|refine zW.zq ?_|((first|apply zg0|apply zg1|apply zg2|apply zg3|apply zg4|apply zg5|apply zg6|apply zg7)<;>intro ht));all_goals try simp (disch:=first|omega|(simp only [lens];first|done|omega)) only [go_sem,reduceEqDiff,Nat.reduceBEq,reduceAdd,reduceMul,reduceSub,reduceLeDiff,reduceToNat,reducePow, r1]))
      all_goals exact DownV.same hw (zz _ rfl)
    · obtain ⟨n, rfl⟩ : ∃ n : Nat, m = n := ⟨m.toNat, by omega⟩
      have e2 : z22 hs n = subS hs n true := by unfold z22; rw [if_pos (by omega)]; rfl
      obtain ⟨ex, rfl⟩ := hx.vsl (by rw [z2k]; omega)
      have i1 := fun Y' v => zil Y (hs.length + 1) hs ex n true Y' v [] (by omega) hH hl (by omega) (by omega) (by simp; omega)
      simp only [List.nil_append] at i1
      rw [<- e2] at i1
      have hP0 : PrS Y (Y ++ [some [[.nilsl]], some [[.fn 50 [.ptr Y.length 0 0, .ptr (Y.length + 1) 0 0]]]]) .nilsl [] := ⟨by simp, by simp, fun q hq => gapp hq, .inl ⟨rfl, rfl⟩⟩
      refine ACallsP.of_body qmok (by simp) fun hw _ => ?_
      have hrl := z2k hs
      generalize zm hs = rows at *
      repeat' (first|refine zW.zs ?_|refine zW.zb ?_|refine zW.zc ?_|refine zW.zt rfl ?_|refine zW.zf rfl ?_|(refine zW.zd rfl (fun ht => ?_) (fun ht => ?_)<;>try (exfalso;omega))|((first|refine zW.zr ?_|refine zW.zk ?_|refine zW.ze ?_|refine zW.zq ?_|((first|apply zg0|apply zg1|apply zg2|apply zg3|apply zg4|apply zg5|apply zg6|apply zg7)<;>intro ht));all_goals try simp (disch:=first|omega|(simp only [lens];first|done|omega)) only [go_sem,reduceEqDiff,Nat.reduceBEq,reduceAdd,reduceMul,reduceSub,reduceLeDiff,reduceToNat,reducePow, r1, hrl]))
      refine callW.mkP (i1 _ _ hP0) (by obtain ⟨v', Y', h⟩ := PrS.ex Y (zm (z22 hs n)); exact ⟨_, Y', rfl, v', h⟩) ?_
      rintro r Y1 ⟨rfl, v1, hP1⟩
      have ho1 := hP1.out
      repeat' (first|refine zW.zs ?_|refine zW.zb ?_|refine zW.zc ?_|refine zW.zt rfl ?_|refine zW.zf rfl ?_|(refine zW.zd rfl (fun ht => ?_) (fun ht => ?_)<;>try (exfalso;omega))|((first|refine zW.zr ?_|refine zW.zk ?_|refine zW.ze ?_|refine zW.zq ?_|((first|apply zg0|apply zg1|apply zg2|apply zg3|apply zg4|apply zg5|apply zg6|apply zg7)<;>intro ht));all_goals try simp (disch:=first|omega|(simp only [lens];first|done|omega)) only [go_sem,reduceEqDiff,Nat.reduceBEq,reduceAdd,reduceMul,reduceSub,reduceLeDiff,reduceToNat,reducePow, ho1]))
      refine ⟨_, _, ⟨_, rfl, z9z Y 32 _⟩, ?_⟩
      rw [e1]
      exact (hP1.own.own hw (z77 _)).tup2
end Am
end Go.Proofs.YtjgljhbmljgaeaaDoor
end
section
/- Proofs: contracts: Proof of the reference. -/
namespace Go.Proofs.YtjgljhbmljgaeaaDoor
namespace Am
/-- Own elements, or a literal that can be gone on with. -/
def OwnA (sz : Nat) (τ Y' : Store) (v : AV) (es : List (List AV)) : Prop := OwnN sz τ Y' v es \/ (v = .vsl sz es true /\ es ≠ [] /\ ∃ news, Y' = τ ++ news)
theorem OwnA.app {sz : Nat} {τ Y' : Store} {v : AV} {es ys : List (List AV)} (h : OwnA sz τ Y' v es) (h0 : ys.length ≠ 0) (hl : es.length + ys.length <= 1073741824) :
    ∃ v' Y'', aApp Y' sz v ys = some (v', Y'') /\ OwnN sz τ Y'' v' (es ++ ys) := by
  rcases h with h | ⟨rfl, h1, news, rfl⟩
  · exact h.app h0 hl
  · refine ⟨.sl (τ ++ news).length 0 (es.length + ys.length) none sz, (τ ++ news) ++ [some (es ++ ys)], by rw [z7u, if_neg h0, if_pos ⟨rfl, rfl, hl⟩], news ++ [some (es ++ ys)], by rw [List.append_assoc], .inr ⟨news.length, by simp [h1], by simp, by rw [List.getElem?_append_right (Nat.le_refl _)]; simp⟩⟩
theorem OwnA.rd {sz : Nat} {τ Y' : Store} {v : AV} {es : List (List AV)} (h : OwnA sz τ Y' v es) : RdSl Y' sz es v := by
  rcases h with h | ⟨rfl, _⟩
  · exact h.rd
  · exact .inl (.inr ⟨true, rfl⟩)
theorem OwnA.more {sz : Nat} {τ Y' : Store} {v : AV} {es : List (List AV)} (h : OwnA sz τ Y' v es) (y : Store) : OwnA sz τ (Y' ++ y) v es := by
  rcases h with h | ⟨rfl, h1, news, rfl⟩
  · exact .inl (h.more y)
  · exact .inr ⟨rfl, h1, news ++ y, by rw [List.append_assoc]⟩
theorem OwnA.ext {sz : Nat} {τ Y' : Store} {v : AV} {es : List (List AV)} (h : OwnA sz τ Y' v es) : ∃ news, Y' = τ ++ news := by
  rcases h with h | ⟨_, _, h⟩
  · exact h.ext
  · exact h
theorem OwnA.down {sz : Nat} {Y Y' : Store} {v : AV} {es : List (List AV)} (hw : Wf Y.length Y) (h : OwnA sz Y Y' v es) (hr : RLss Y.length es) : ∃ v2 Y2, OwnA sz Y Y2 v2 es /\ DownV Y.length v Y' v2 Y2 := by
  rcases h with h | ⟨rfl, h1, news, rfl⟩
  · exact ⟨_, _, .inl (z9z Y sz es), h.own hw hr⟩
  · exact ⟨_, Y, .inr ⟨rfl, h1, [], by simp⟩, DownV.pure hw (by simpa only [RL] using hr)⟩
end Am
end Go.Proofs.YtjgljhbmljgaeaaDoor
end
section
/- Proofs: what a proof says, by plain loops; the reference's Proof; a proof's next hash. -/
namespace Go.Proofs.YtjgljhbmljgaeaaDoor
namespace Am
def RefP (Y : Store) (hs : List (List UInt8)) (m : Int) (v : AV) (Y' : Store) : Prop := ∃ v2, v = .tup [v2, .int .i64 (z3k hs m)] /\ OwnA 32 Y Y' v2 (zm (z22 hs m))
/-- Up to where the older tree's last full one hangs. -/
def st (i last : Nat) : Nat × Nat := if h : i % 2 = 1 then st (i / 2) (last / 2) else (i, last)
termination_by i
decreasing_by omega
/-- On which side each hash stands: true: left of both. -/
def lp (i last : Nat) : List Bool :=
  if h : last = 0 then [] else if i % 2 = 1 then true :: lp (i / 2) (last / 2) else if i = last then lp (i / 2) (last / 2) else false :: lp (i / 2) (last / 2)
termination_by last
decreasing_by all_goals omega
theorem z63 {i last : Nat} (h : i % 2 = 1) : st i last = st (i / 2) (last / 2) := by rw [st, dif_pos h]
theorem z4a {i last : Nat} (h : ¬ i % 2 = 1) : st i last = (i, last) := by rw [st, dif_neg h]
theorem z5y (i : Nat) : lp i 0 = [] := by rw [lp, dif_pos rfl]
theorem z3i {i last : Nat} (h : i % 2 = 1) (h0 : last ≠ 0) : lp i last = true :: lp (i / 2) (last / 2) := by rw [lp, dif_neg h0, if_pos h]
theorem z6x {i : Nat} (h : ¬ i % 2 = 1) : lp i i = lp (i / 2) (i / 2) := by
  by_cases h0 : i = 0
  · subst h0; rfl
  · rw [lp, dif_neg h0, if_neg h, if_pos rfl]
theorem z6e {i last : Nat} (h : ¬ i % 2 = 1) (h0 : last ≠ 0) (h1 : i ≠ last) : lp i last = false :: lp (i / 2) (last / 2) := by rw [lp, dif_neg h0, if_neg h, if_neg h1]
theorem zbn : ∀ (f i : Nat), i < f -> i ≠ 0 -> ∃ P, lp i i = true :: P
  | 0, _, h, _ => by omega
  | f + 1, i, h, h0 => by
    by_cases h1 : i % 2 = 1
    · exact ⟨_, z3i h1 h0⟩
    · obtain ⟨P, hP⟩ := zbn f (i / 2) (by omega) (by omega)
      exact ⟨P, by rw [z6x h1, hP]⟩
/-- Two roots, of the hashes. -/
def run : List Bool -> List (List UInt8) -> List UInt8 -> List UInt8 -> Option (List UInt8 × List UInt8)
  | [], [], a, b => some (a, b)
  | true :: p, h :: ps, a, b => run p ps (z1e h a) (z1e h b)
  | false :: p, h :: ps, a, b => run p ps a (z1e b h)
  | _, _, _, _ => none
def chkG (i last : Nat) (o : List UInt8) (ps : List (List UInt8)) : Option (List UInt8 × List UInt8) :=
  if 0 < i then match ps with
    | [] => none
    | h :: ps => run (lp i last) ps h h
  else run (lp i last) ps o o
def chkS (i last : Nat) (o : List UInt8) (ps : List (List UInt8)) : Option (List UInt8 × List UInt8) := chkG (st i last).1 (st i last).2 o ps
/-- What Check answers. -/
def fitI (r : Option (List UInt8 × List UInt8)) (o nw : List UInt8) : Int :=
  match r with
  | some (a, b) => if a = o /\ b = nw then 0 else 80
  | none => 80
def chkI (m n : Int) (o nw : List UInt8) (ps : List (List UInt8)) : Int :=
  if n < 0 \/ 4096 < n \/ m < 0 \/ n < m then 2
  else if m = 0 then (if ps = [] /\ o = zw [] /\ (0 < n \/ nw = o) then 0 else 80)
  else if m = n then (if ps = [] /\ o = nw then 0 else 80)
  else fitI (chkS (m.toNat - 1) (n.toNat - 1) o ps) o nw
def z3v : List UInt8 := List.replicate 32 0
theorem zfw (p : Nat) (Y : Store) (h : List UInt8) (ps : List (List UInt8)) (ex : Bool) (hh : h.length = 32) (hl : ps.length < 1000000) (hp : Y[p]? = some (some [[.vsl 32 (zm (h :: ps)) ex]])) :
    ACallsTo TC 57 [.ptr p 0 0] Y (.tup [.agg (z8 h), .bool true]) (Y.set p (some [[.vsl 32 (zm ps) ex]]) ++ [some [z8 h]]) := by
  have hc := zn h
  rw [hh] at hc
  have hlt := (List.getElem?_eq_some_iff.1 hp).1
  have hr : zm (h :: ps) = z8 h :: zm ps := rfl
  have hrl := z2k ps
  rw [hr] at hp
  generalize z8 h = row at *
  generalize zm ps = rows at *
  refine ACallsTo.of_body_keep qqok (by simp) ?_
  repeat' (first|refine zW.zs ?_|refine zW.zb ?_|refine zW.zc ?_|refine zW.zt rfl ?_|refine zW.zf rfl ?_|(refine zW.zd rfl (fun ht => ?_) (fun ht => ?_)<;>try (exfalso;omega))|((first|refine zW.zr ?_|refine zW.zk ?_|refine zW.ze ?_|refine zW.zq ?_|((first|apply zg0|apply zg1|apply zg2|apply zg3|apply zg4|apply zg5|apply zg6|apply zg7)<;>intro ht));all_goals try simp (disch:=first|omega|(simp only [lens];first|done|omega)) only [go_sem,reduceEqDiff,Nat.reduceBEq,reduceAdd,reduceMul,reduceSub,reduceLeDiff,reduceToNat,reducePow, hp, hc, hrl]))
  rw [List.drop_of_length_le (by omega), List.append_nil, List.take_of_length_le (by omega)]
  exact ⟨rfl, rfl⟩
theorem zfv (p : Nat) (Y : Store) (x : AV) (hx : SlV 32 [] x) (hp : Y[p]? = some (some [[x]])) :
    ACallsTo TC 57 [.ptr p 0 0] Y (.tup [.agg (z8 z3v), .bool false]) (Y ++ [some [z8 z3v]]) := by
  have hlt := (List.getElem?_eq_some_iff.1 hp).1
  have r1 := hx.len
  unfold z1k at r1
  have hz : z8 z3v = List.replicate 32 (.int .u8 0) := rfl
  rw [hz]
  refine ACallsTo.of_body_keep qqok (by simp) ?_
  repeat' (first | refine zW.zs ?_ | refine zW.zb ?_ | refine zW.zc ?_ | refine zW.zt rfl ?_ | refine zW.zf rfl ?_ | (refine zW.zd rfl (fun ht => ?_) (fun ht => ?_) <;> try (exfalso; omega)) | ((first | refine zW.regS ?_ | refine zW.zk ?_ | refine zW.ze ?_ | refine zW.zq ?_ | ((first|apply zg0|apply zg1|apply zg2|apply zg3|apply zg4|apply zg5|apply zg6|apply zg7)<;>intro ht));all_goals try simp (disch:=first|omega|(simp only [lens];first|done|omega)) only [go_sem,reduceEqDiff,Nat.reduceBEq,reduceAdd,reduceMul,reduceSub,reduceLeDiff,reduceToNat,reducePow, hp, r1]))
  exact ⟨rfl, rfl⟩
theorem z1w (Y : Store) (b : Bool) : ACallsTo TC 56 [.bool b] Y (.int .i64 (if b then 0 else 80)) Y := by
  refine ACallsTo.of_body qpok (by simp) fun hw _ => ?_
  cases b with
  | true =>
    repeat' (first|refine zW.zs ?_|refine zW.zb ?_|refine zW.zc ?_|refine zW.zt rfl ?_|refine zW.zf rfl ?_|(refine zW.zd rfl (fun ht => ?_) (fun ht => ?_)<;>try (exfalso;omega))|((first|refine zW.zr ?_|refine zW.zk ?_|refine zW.ze ?_|refine zW.zq ?_|((first|apply zg0|apply zg1|apply zg2|apply zg3|apply zg4|apply zg5|apply zg6|apply zg7)<;>intro ht));all_goals try simp (disch:=first|omega|(simp only [lens];first|done|omega)) only [go_sem,reduceEqDiff,Nat.reduceBEq,reduceAdd,reduceMul,reduceSub,reduceLeDiff,reduceToNat,reducePow]))
    exact DownV.same hw (zz _ rfl)
  | false =>
    repeat' (first|refine zW.zs ?_|refine zW.zb ?_|refine zW.zc ?_|refine zW.zt rfl ?_|refine zW.zf rfl ?_|(refine zW.zd rfl (fun ht => ?_) (fun ht => ?_)<;>try (exfalso;omega))|((first|refine zW.zr ?_|refine zW.zk ?_|refine zW.ze ?_|refine zW.zq ?_|((first|apply zg0|apply zg1|apply zg2|apply zg3|apply zg4|apply zg5|apply zg6|apply zg7)<;>intro ht));all_goals try simp (disch:=first|omega|(simp only [lens];first|done|omega)) only [go_sem,reduceEqDiff,Nat.reduceBEq,reduceAdd,reduceMul,reduceSub,reduceLeDiff,reduceToNat,reducePow]))
    exact DownV.same hw (zz _ rfl)
end Am
end Go.Proofs.YtjgljhbmljgaeaaDoor
end
section
/- Proofs: contract: Check of the program. -/
namespace Go.Proofs.YtjgljhbmljgaeaaDoor
namespace Am
/-- What Check has in memory. -/
structure ChkM (ia ib : Nat) (Y Y' : Store) (o nw : List UInt8) (pv : AV) (ps : List (List UInt8)) (a b : List UInt8) : Prop where
  hab : (ia = 3 /\ ib = 4) \/ (ia = 4 /\ ib = 3)
  len : Y.length + 5 <= Y'.length
  keep : ∀ q, q < Y.length -> Y'[q]? = Y[q]?
  g0 : Y'[Y.length]? = some (some [z8 o])
  g1 : Y'[Y.length + 1]? = some (some [z8 nw])
  g2 : Y'[Y.length + 2]? = some (some [[pv]])
  g3 : Y'[Y.length + ia]? = some (some [z8 a])
  g4 : Y'[Y.length + ib]? = some (some [z8 b])
  hp : SlV 32 (zm ps) pv
  ha : a.length = 32
  hb : b.length = 32
theorem ChkM.app {ia ib : Nat} {Y Y' y : Store} {o nw : List UInt8} {pv : AV} {ps : List (List UInt8)} {a b : List UInt8} (h : ChkM ia ib Y Y' o nw pv ps a b) : ChkM ia ib Y (Y' ++ y) o nw pv ps a b := by
  have hl := h.len
  have hab := h.hab
  refine ⟨hab, by rw [List.length_append]; omega, fun q hq => ?_, ?_, ?_, ?_, ?_, ?_, h.hp, h.ha, h.hb⟩
  · rw [gapp (by omega)]; exact h.keep q hq
  · rw [gapp (by omega)]; exact h.g0
  · rw [gapp (by omega)]; exact h.g1
  · rw [gapp (by omega)]; exact h.g2
  · rw [gapp (by omega)]; exact h.g3
  · rw [gapp (by omega)]; exact h.g4
theorem ChkM.setp {ia ib : Nat} {Y Y' : Store} {o nw : List UInt8} {pv : AV} {ps : List (List UInt8)} {a b : List UInt8} (h : ChkM ia ib Y Y' o nw pv ps a b) {qv : AV} {qs : List (List UInt8)} (hq : SlV 32 (zm qs) qv) : ChkM ia ib Y (Y'.set (Y.length + 2) (some [[qv]])) o nw qv qs a b := by
  have hl := h.len
  have hab := h.hab
  refine ⟨hab, by rw [List.length_set]; omega, fun q hq => ?_, ?_, ?_, ?_, ?_, ?_, hq, h.ha, h.hb⟩
  · rw [z18 (by omega)]; exact h.keep q hq
  · rw [z18 (by omega)]; exact h.g0
  · rw [z18 (by omega)]; exact h.g1
  · rw [z2d (by omega)]
  · rw [z18 (by omega)]; exact h.g3
  · rw [z18 (by omega)]; exact h.g4
theorem ChkM.seta {ia ib : Nat} {Y Y' : Store} {o nw : List UInt8} {pv : AV} {ps : List (List UInt8)} {a b : List UInt8} (h : ChkM ia ib Y Y' o nw pv ps a b) {a' : List UInt8} (ha : a'.length = 32) : ChkM ia ib Y (Y'.set (Y.length + ia) (some [z8 a'])) o nw pv ps a' b := by
  have hl := h.len
  have hab := h.hab
  refine ⟨hab, by rw [List.length_set]; omega, fun q hq => ?_, ?_, ?_, ?_, ?_, ?_, h.hp, ha, h.hb⟩
  · rw [z18 (by omega)]; exact h.keep q hq
  · rw [z18 (by omega)]; exact h.g0
  · rw [z18 (by omega)]; exact h.g1
  · rw [z18 (by omega)]; exact h.g2
  · rw [z2d (by omega)]
  · rw [z18 (by omega)]; exact h.g4
theorem ChkM.setb {ia ib : Nat} {Y Y' : Store} {o nw : List UInt8} {pv : AV} {ps : List (List UInt8)} {a b : List UInt8} (h : ChkM ia ib Y Y' o nw pv ps a b) {b' : List UInt8} (hb : b'.length = 32) : ChkM ia ib Y (Y'.set (Y.length + ib) (some [z8 b'])) o nw pv ps a b' := by
  have hl := h.len
  have hab := h.hab
  refine ⟨hab, by rw [List.length_set]; omega, fun q hq => ?_, ?_, ?_, ?_, ?_, ?_, h.hp, h.ha, hb⟩
  · rw [z18 (by omega)]; exact h.keep q hq
  · rw [z18 (by omega)]; exact h.g0
  · rw [z18 (by omega)]; exact h.g1
  · rw [z18 (by omega)]; exact h.g2
  · rw [z18 (by omega)]; exact h.g3
  · rw [z2d (by omega)]
theorem ChkM.fin {ia ib : Nat} {Y Y' : Store} {o nw : List UInt8} {pv : AV} {ps : List (List UInt8)} {a b : List UInt8} (h : ChkM ia ib Y Y' o nw pv ps a b) (hw : Wf Y.length Y) {i : Int} : DownV Y.length (.int .i64 i) Y' (.int .i64 i) Y := by
  have hl := h.len
  have hab := h.hab
  obtain ⟨y, rfl⟩ := zb9 (by omega) h.keep
  exact DownV.pure hw (zz _ rfl)
theorem SlV.cells {sz : Nat} {es : List (List AV)} {x : AV} (h : SlV sz es x) : cellsOf x = some [x] := by
  rcases h with ⟨rfl, rfl⟩ | ⟨ex, rfl⟩ <;> rfl
theorem zlj : H32 [] := fun _ h => by simp at h
theorem z4i {Y Y' : Store} {i : Int} (hw : Wf Y.length Y) (h : Y <+: Y') : DownV Y.length (.int .i64 i) Y' (.int .i64 i) Y := by
  obtain ⟨y, rfl⟩ := h
  exact DownV.pure hw (zz _ rfl)
set_option maxHeartbeats 8000000 in
theorem zi4 (Y : Store) (m n : Int) (o nw : List UInt8) (x : AV) (es : List (List AV)) (hx : SlV 32 es x) (h : n < 0 \/ 4096 < n \/ m < 0 \/ n < m) :
    ACallsTo TC 35 [.int .i64 m, .int .i64 n, .agg (z8 o), .agg (z8 nw), x] Y (.int .i64 2) Y := by
  have r0 := hx.cells
  unfold cellsOf at r0
  refine ACallsTo.of_body qnok (by simp) fun hw _ => ?_
  repeat' (first|refine zW.zs ?_|refine zW.zb ?_|refine zW.zc ?_|refine zW.zt rfl ?_|refine zW.zf rfl ?_|(refine zW.zd rfl (fun ht => ?_) (fun ht => ?_)<;>try (exfalso;omega))|((first|refine zW.zr ?_|refine zW.zk ?_|refine zW.ze ?_|refine zW.zq ?_|((first|apply zg0|apply zg1|apply zg2|apply zg3|apply zg4|apply zg5|apply zg6|apply zg7)<;>intro ht));all_goals try simp (disch:=first|omega|(simp only [lens];first|done|omega)) only [go_sem,reduceEqDiff,Nat.reduceBEq,reduceAdd,reduceMul,reduceSub,reduceLeDiff,reduceToNat,reducePow, r0]))
  all_goals (refine z4i hw ?_; simp)
set_option maxHeartbeats 8000000 in
theorem zia (Y : Store) (n : Int) (o nw : List UInt8) (x : AV) (ps : List (List UInt8)) (hx : SlV 32 (zm ps) x) (ho : o.length = 32) (hn : nw.length = 32) (h0 : 0 <= n) (h1 : n <= 4096) (hl : ps.length < 1000000) :
    ACallsTo TC 35 [.int .i64 0, .int .i64 n, .agg (z8 o), .agg (z8 nw), x] Y (.int .i64 (if ps = [] /\ o = zw [] /\ (0 < n \/ nw = o) then 0 else 80)) Y := by
  have r0 := hx.cells
  unfold cellsOf at r0
  have r1 := hx.len
  rw [z2k] at r1
  unfold z1k at r1
  have c1 := zn o
  have c2 := zn nw
  rw [ho] at c1
  rw [hn] at c2
  have hR : ∀ Y, ACallsTo TC 24 [.nilsl] Y (.agg (z8 (zw []))) Y := fun Y => z8x Y [] .nilsl (.inl ⟨rfl, rfl⟩) (fun _ h => by simp at h) (by simp)
  have k1 := z42 ho
  have k2 := z42 hn
  have k3 := z42 (z2h (zlj))
  have e1 := z6b o (zw [])
  have e2 := z6b nw o
  by_cases q1 : ps = []
  · have q1' : ps.length = 0 := by rw [q1]; rfl
    by_cases q2 : o = zw []
    · rw [decide_eq_true q2] at e1
      by_cases q3 : 0 < n
      · rw [if_pos ⟨q1, q2, .inl q3⟩]
        generalize z8 (zw []) = rr at *
        generalize z8 o = ro at *
        generalize z8 nw = rn at *
        refine ACallsTo.of_body qnok (by simp) fun hw _ => ?_
        repeat' (first|refine zW.zs ?_|refine zW.zb ?_|refine zW.zc ?_|refine zW.zt rfl ?_|refine zW.zf rfl ?_|(refine zW.zd rfl (fun ht => ?_) (fun ht => ?_)<;>try (exfalso;omega))|((first|refine zW.zr ?_|refine zW.zk ?_|refine zW.ze ?_|refine zW.zq ?_|(apply callW.mk_pu; (first | exact (fun _ => hR _) | exact (fun _ => z1w _ true))) | (apply callW.za; (first | exact (hR _) | exact (z1w _ true))) | ((first|apply zg0|apply zg1|apply zg2|apply zg3|apply zg4|apply zg5|apply zg6|apply zg7)<;>intro ht));all_goals try simp (disch:=first|omega|(simp only [lens];first|done|omega)) only [go_sem,reduceEqDiff,Nat.reduceBEq,reduceAdd,reduceMul,reduceSub,reduceLeDiff,reduceToNat,reducePow, r0, r1, c1, c2, k1, k2, k3, e1, q1']))
        all_goals (refine z4i hw ?_; simp)
      · by_cases q4 : nw = o
        · rw [decide_eq_true q4] at e2
          rw [if_pos ⟨q1, q2, .inr q4⟩]
          generalize z8 (zw []) = rr at *
          generalize z8 o = ro at *
          generalize z8 nw = rn at *
          refine ACallsTo.of_body qnok (by simp) fun hw _ => ?_
          repeat' (first|refine zW.zs ?_|refine zW.zb ?_|refine zW.zc ?_|refine zW.zt rfl ?_|refine zW.zf rfl ?_|(refine zW.zd rfl (fun ht => ?_) (fun ht => ?_)<;>try (exfalso;omega))|((first|refine zW.zr ?_|refine zW.zk ?_|refine zW.ze ?_|refine zW.zq ?_|(apply callW.mk_pu; (first | exact (fun _ => hR _) | exact (fun _ => z1w _ true))) | (apply callW.za; (first | exact (hR _) | exact (z1w _ true))) | ((first|apply zg0|apply zg1|apply zg2|apply zg3|apply zg4|apply zg5|apply zg6|apply zg7)<;>intro ht));all_goals try simp (disch:=first|omega|(simp only [lens];first|done|omega)) only [go_sem,reduceEqDiff,Nat.reduceBEq,reduceAdd,reduceMul,reduceSub,reduceLeDiff,reduceToNat,reducePow, r0, r1, c1, c2, k1, k2, k3, e1, e2, q1']))
          all_goals (refine z4i hw ?_; simp)
        · rw [decide_eq_false q4] at e2
          rw [if_neg (fun h => h.2.2.elim q3 q4)]
          generalize z8 (zw []) = rr at *
          generalize z8 o = ro at *
          generalize z8 nw = rn at *
          refine ACallsTo.of_body qnok (by simp) fun hw _ => ?_
          repeat' (first|refine zW.zs ?_|refine zW.zb ?_|refine zW.zc ?_|refine zW.zt rfl ?_|refine zW.zf rfl ?_|(refine zW.zd rfl (fun ht => ?_) (fun ht => ?_)<;>try (exfalso;omega))|((first|refine zW.zr ?_|refine zW.zk ?_|refine zW.ze ?_|refine zW.zq ?_|(apply callW.mk_pu; (first | exact (fun _ => hR _) | exact (fun _ => z1w _ false))) | (apply callW.za; (first | exact (hR _) | exact (z1w _ false))) | ((first|apply zg0|apply zg1|apply zg2|apply zg3|apply zg4|apply zg5|apply zg6|apply zg7)<;>intro ht));all_goals try simp (disch:=first|omega|(simp only [lens];first|done|omega)) only [go_sem,reduceEqDiff,Nat.reduceBEq,reduceAdd,reduceMul,reduceSub,reduceLeDiff,reduceToNat,reducePow, r0, r1, c1, c2, k1, k2, k3, e1, e2, q1']))
          all_goals (refine z4i hw ?_; simp)
    · rw [decide_eq_false q2] at e1
      rw [if_neg (fun h => q2 h.2.1)]
      generalize z8 (zw []) = rr at *
      generalize z8 o = ro at *
      generalize z8 nw = rn at *
      refine ACallsTo.of_body qnok (by simp) fun hw _ => ?_
      repeat' (first|refine zW.zs ?_|refine zW.zb ?_|refine zW.zc ?_|refine zW.zt rfl ?_|refine zW.zf rfl ?_|(refine zW.zd rfl (fun ht => ?_) (fun ht => ?_)<;>try (exfalso;omega))|((first|refine zW.zr ?_|refine zW.zk ?_|refine zW.ze ?_|refine zW.zq ?_|(apply callW.mk_pu; (first | exact (fun _ => hR _) | exact (fun _ => z1w _ false))) | (apply callW.za; (first | exact (hR _) | exact (z1w _ false))) | ((first|apply zg0|apply zg1|apply zg2|apply zg3|apply zg4|apply zg5|apply zg6|apply zg7)<;>intro ht));all_goals try simp (disch:=first|omega|(simp only [lens];first|done|omega)) only [go_sem,reduceEqDiff,Nat.reduceBEq,reduceAdd,reduceMul,reduceSub,reduceLeDiff,reduceToNat,reducePow, r0, r1, c1, c2, k1, k2, k3, e1, q1']))
      all_goals (refine z4i hw ?_; simp)
  · have q1' : ¬ (ps.length : Int) = 0 := by intro e; exact q1 (List.eq_nil_of_length_eq_zero (by omega))
    have q1'' : ¬ ps.length = 0 := by omega
    rw [if_neg (fun h => q1 h.1)]
    generalize z8 (zw []) = rr at *
    generalize z8 o = ro at *
    generalize z8 nw = rn at *
    refine ACallsTo.of_body qnok (by simp) fun hw _ => ?_
    repeat' (first|refine zW.zs ?_|refine zW.zb ?_|refine zW.zc ?_|refine zW.zt rfl ?_|refine zW.zf rfl ?_|(refine zW.zd rfl (fun ht => ?_) (fun ht => ?_)<;>try (exfalso;omega))|((first|refine zW.zr ?_|refine zW.zk ?_|refine zW.ze ?_|refine zW.zq ?_|(apply callW.mk_pu; (first | exact (fun _ => hR _) | exact (fun _ => z1w _ false))) | (apply callW.za; (first | exact (hR _) | exact (z1w _ false))) | ((first|apply zg0|apply zg1|apply zg2|apply zg3|apply zg4|apply zg5|apply zg6|apply zg7)<;>intro ht));all_goals try simp (disch:=first|omega|(simp only [lens];first|done|omega)) only [go_sem,reduceEqDiff,Nat.reduceBEq,reduceAdd,reduceMul,reduceSub,reduceLeDiff,reduceToNat,reducePow, r0, r1, c1, c2, q1', q1'']))
    all_goals (refine z4i hw ?_; simp)
set_option maxHeartbeats 8000000 in
theorem zi7 (Y : Store) (n : Int) (o nw : List UInt8) (x : AV) (ps : List (List UInt8)) (hx : SlV 32 (zm ps) x) (ho : o.length = 32) (hn : nw.length = 32) (h0 : 0 < n) (h1 : n <= 4096) (hl : ps.length < 1000000) :
    ACallsTo TC 35 [.int .i64 n, .int .i64 n, .agg (z8 o), .agg (z8 nw), x] Y (.int .i64 (if ps = [] /\ o = nw then 0 else 80)) Y := by
  have r0 := hx.cells
  unfold cellsOf at r0
  have r1 := hx.len
  rw [z2k] at r1
  unfold z1k at r1
  have c1 := zn o
  have c2 := zn nw
  rw [ho] at c1
  rw [hn] at c2
  have k1 := z42 ho
  have k2 := z42 hn
  have e2 := z6b o nw
  by_cases q1 : ps = []
  · have q1' : ps.length = 0 := by rw [q1]; rfl
    by_cases q2 : o = nw
    · rw [decide_eq_true q2] at e2
      rw [if_pos ⟨q1, q2⟩]
      generalize z8 o = ro at *
      generalize z8 nw = rn at *
      refine ACallsTo.of_body qnok (by simp) fun hw _ => ?_
      repeat' (first|refine zW.zs ?_|refine zW.zb ?_|refine zW.zc ?_|refine zW.zt rfl ?_|refine zW.zf rfl ?_|(refine zW.zd rfl (fun ht => ?_) (fun ht => ?_)<;>try (exfalso;omega))|((first|refine zW.zr ?_|refine zW.zk ?_|refine zW.ze ?_|refine zW.zq ?_|(apply callW.mk_pu; (first | exact (fun _ => z1w _ true))) | (apply callW.za; (first | exact (z1w _ true))) | ((first|apply zg0|apply zg1|apply zg2|apply zg3|apply zg4|apply zg5|apply zg6|apply zg7)<;>intro ht));all_goals try simp (disch:=first|omega|(simp only [lens];first|done|omega)) only [go_sem,reduceEqDiff,Nat.reduceBEq,reduceAdd,reduceMul,reduceSub,reduceLeDiff,reduceToNat,reducePow, r0, r1, c1, c2, k1, k2, e2, q1']))
      all_goals (refine z4i hw ?_; simp)
    · rw [decide_eq_false q2] at e2
      rw [if_neg (fun h => q2 h.2)]
      generalize z8 o = ro at *
      generalize z8 nw = rn at *
      refine ACallsTo.of_body qnok (by simp) fun hw _ => ?_
      repeat' (first|refine zW.zs ?_|refine zW.zb ?_|refine zW.zc ?_|refine zW.zt rfl ?_|refine zW.zf rfl ?_|(refine zW.zd rfl (fun ht => ?_) (fun ht => ?_)<;>try (exfalso;omega))|((first|refine zW.zr ?_|refine zW.zk ?_|refine zW.ze ?_|refine zW.zq ?_|(apply callW.mk_pu; (first | exact (fun _ => z1w _ false))) | (apply callW.za; (first | exact (z1w _ false))) | ((first|apply zg0|apply zg1|apply zg2|apply zg3|apply zg4|apply zg5|apply zg6|apply zg7)<;>intro ht));all_goals try simp (disch:=first|omega|(simp only [lens];first|done|omega)) only [go_sem,reduceEqDiff,Nat.reduceBEq,reduceAdd,reduceMul,reduceSub,reduceLeDiff,reduceToNat,reducePow, r0, r1, c1, c2, k1, k2, e2, q1']))
      all_goals (refine z4i hw ?_; simp)
  · have q1' : ¬ (ps.length : Int) = 0 := by intro e; exact q1 (List.eq_nil_of_length_eq_zero (by omega))
    have q1'' : ¬ ps.length = 0 := by omega
    rw [if_neg (fun h => q1 h.1)]
    generalize z8 o = ro at *
    generalize z8 nw = rn at *
    refine ACallsTo.of_body qnok (by simp) fun hw _ => ?_
    repeat' (first|refine zW.zs ?_|refine zW.zb ?_|refine zW.zc ?_|refine zW.zt rfl ?_|refine zW.zf rfl ?_|(refine zW.zd rfl (fun ht => ?_) (fun ht => ?_)<;>try (exfalso;omega))|((first|refine zW.zr ?_|refine zW.zk ?_|refine zW.ze ?_|refine zW.zq ?_|(apply callW.mk_pu; (first | exact (fun _ => z1w _ false))) | (apply callW.za; (first | exact (z1w _ false))) | ((first|apply zg0|apply zg1|apply zg2|apply zg3|apply zg4|apply zg5|apply zg6|apply zg7)<;>intro ht));all_goals try simp (disch:=first|omega|(simp only [lens];first|done|omega)) only [go_sem,reduceEqDiff,Nat.reduceBEq,reduceAdd,reduceMul,reduceSub,reduceLeDiff,reduceToNat,reducePow, r0, r1, c1, c2, q1', q1'']))
    all_goals (refine z4i hw ?_; simp)
end Am
end Go.Proofs.YtjgljhbmljgaeaaDoor
end
section
/- Proofs: contract: Check of the program, the loop. -/
namespace Go.Proofs.YtjgljhbmljgaeaaDoor
namespace Am
theorem lp_pos {i last : Nat} (h : last ≠ 0) : ∃ t P, lp i last = t :: P := by
  by_cases h1 : i % 2 = 1
  · exact ⟨_, _, z3i h1 h⟩
  · by_cases h2 : i = last
    · subst h2; obtain ⟨P, hP⟩ := zbn (i + 1) i (Nat.lt_succ_self _) h; exact ⟨_, _, hP⟩
    · exact ⟨_, _, z6e h1 h h2⟩
theorem zp7 {t : Bool} {P : List Bool} {a b : List UInt8} : run (t :: P) [] a b = none := by cases t <;> rfl
theorem z8d {h : List UInt8} (hh : h.length = 32) : (z8 h).drop 32 = [] := by
  have := zn h
  exact List.drop_of_length_le (by omega)
theorem z8e {h : List UInt8} (hh : h.length = 32) : (z8 h).take 32 = z8 h := by
  have := zn h
  exact List.take_of_length_le (by omega)
set_option maxHeartbeats 8000000 in
theorem zdg (ia ib : Nat) (Y : Store) (hw : Wf Y.length Y) (o nw : List UInt8) (ho : o.length = 32) (hn : nw.length = 32) (R : Option (List UInt8 × List UInt8)) (O : Env) (Y' : Store) (i last : Nat) (pv : AV) (ps : List (List UInt8)) (a b : List UInt8)
    (hM : ChkM ia ib Y Y' o nw pv ps a b) (hH : H32 ps) (hi : i < 4096) (hl : last < 4096) (hpl : ps.length < 1000000) (hR : run (lp i last) ps a b = R)
    (q7 : O 7 = .ptr Y.length 0 0) (q8 : O 8 = .ptr (Y.length + 1) 0 0) (q9 : O 9 = .ptr (Y.length + 2) 0 0) (q11 : O 11 = .int .i64 i) (q12 : O 12 = .int .i64 last)
    (q13 : O 13 = .fn 57 [.ptr (Y.length + 2) 0 0]) (q14 : O 14 = .ptr (Y.length + ia) 0 0) (q15 : O 15 = .ptr (Y.length + ib) 0 0) :
    zW TC 152 Y.length zc6 (endQ Y.length [.t 10] (.int .i64 (fitI R o nw)) Y) O Y' := by
  repeat' (first|refine zW.zs ?_|refine zW.zb ?_|refine zW.zc ?_|refine zW.zt rfl ?_|refine zW.zf rfl ?_|(refine zW.zd rfl (fun ht => ?_) (fun ht => ?_)<;>try (exfalso;omega))|((first|refine zW.zr ?_|refine zW.zk ?_|refine zW.ze ?_|refine zW.zq ?_|((first|apply zg0|apply zg1|apply zg2|apply zg3|apply zg4|apply zg5|apply zg6|apply zg7)<;>intro ht));all_goals try simp (disch:=first|omega|(simp only [lens];first|done|omega)) only [go_sem,reduceEqDiff,Nat.reduceBEq,reduceAdd,reduceMul,reduceSub,reduceLeDiff,reduceToNat,reducePow]))
  refine zW.loop (fun m O Y' => ∃ (i last : Nat) (pv : AV) (ps : List (List UInt8)) (a b : List UInt8), m = last /\ ChkM ia ib Y Y' o nw pv ps a b /\ H32 ps /\ i < 4096 /\ last < 4096 /\ ps.length < 1000000 /\ run (lp i last) ps a b = R ∧
    O 7 = .ptr Y.length 0 0 /\ O 8 = .ptr (Y.length + 1) 0 0 /\ O 9 = .ptr (Y.length + 2) 0 0 /\ O 11 = .int .i64 i /\ O 12 = .int .i64 last /\ O 13 = .fn 57 [.ptr (Y.length + 2) 0 0] /\ O 14 = .ptr (Y.length + ia) 0 0 /\ O 15 = .ptr (Y.length + ib) 0 0) last ?_ ?_
  · exact ⟨i, last, pv, ps, a, b, rfl, hM, hH, hi, hl, hpl, hR, q7, q8, q9, q11, q12, q13, q14, q15⟩
  clear hM hH hi hl hpl hR q7 q8 q9 q11 q12 q13 q14 q15 i last pv ps a b O Y'
  rintro last O Y' ⟨i, _, pv, ps, a, b, rfl, hM, hH, hi, hl, hpl, hR, q7, q8, q9, q11, q12, q13, q14, q15⟩
  have hlen := hM.len
  have hab := hM.hab
  have g0 := hM.g0
  have g1 := hM.g1
  have g2 := hM.g2
  have g3 := hM.g3
  have g4 := hM.g4
  have c0 := zn o
  have c1 := zn nw
  have ca := zn a
  have cb := zn b
  rw [ho] at c0
  rw [hn] at c1
  rw [hM.ha] at ca
  rw [hM.hb] at cb
  by_cases h0 : last = 0
  · subst h0
    rw [z5y] at hR
    have r1 := hM.hp.len
    rw [z2k] at r1
    unfold z1k at r1
    have k0 := z42 ho
    have k1 := z42 hn
    have ka := z42 hM.ha
    have kb := z42 hM.hb
    have e1 := z6b a o
    have e2 := z6b b nw
    by_cases p1 : ps = []
    · have p1' : ps.length = 0 := by rw [p1]; rfl
      have hR' : R = some (a, b) := by rw [<- hR, p1]; rfl
      by_cases p2 : a = o
      · rw [decide_eq_true p2] at e1
        by_cases p3 : b = nw
        · rw [decide_eq_true p3] at e2
          have hf : fitI R o nw = 0 := by rw [hR']; unfold fitI; simp only; rw [if_pos ⟨p2, p3⟩]
          rw [hf]
          repeat' (first|refine zW.zs ?_|refine zW.zb ?_|refine zW.zc ?_|refine zW.zt rfl ?_|refine zW.zf rfl ?_|(refine zW.zd rfl (fun ht => ?_) (fun ht => ?_)<;>try (exfalso;omega))|((first|refine zW.zr ?_|refine zW.zk ?_|refine zW.ze ?_|refine zW.zq ?_|(apply callW.mk_pu; (first | exact (fun _ => z1w _ true))) | (apply callW.za; (first | exact (z1w _ true))) | ((first|apply zg0|apply zg1|apply zg2|apply zg3|apply zg4|apply zg5|apply zg6|apply zg7)<;>intro ht));all_goals try simp (disch:=first|omega|(simp only [lens];first|done|omega)) only [go_sem,reduceEqDiff,Nat.reduceBEq,reduceAdd,reduceMul,reduceSub,reduceLeDiff,reduceToNat,reducePow, q7, q8, q9, q12, q14, q15, r1, g0, g1, g2, g3, g4, c0, c1, ca, cb, k0, k1, ka, kb, e1, e2, p1']))
          exact hM.fin hw
        · rw [decide_eq_false p3] at e2
          have hf : fitI R o nw = 80 := by rw [hR']; unfold fitI; simp only; rw [if_neg (fun h => p3 h.2)]
          rw [hf]
          repeat' (first|refine zW.zs ?_|refine zW.zb ?_|refine zW.zc ?_|refine zW.zt rfl ?_|refine zW.zf rfl ?_|(refine zW.zd rfl (fun ht => ?_) (fun ht => ?_)<;>try (exfalso;omega))|((first|refine zW.zr ?_|refine zW.zk ?_|refine zW.ze ?_|refine zW.zq ?_|(apply callW.mk_pu; (first | exact (fun _ => z1w _ false))) | (apply callW.za; (first | exact (z1w _ false))) | ((first|apply zg0|apply zg1|apply zg2|apply zg3|apply zg4|apply zg5|apply zg6|apply zg7)<;>intro ht));all_goals try simp (disch:=first|omega|(simp only [lens];first|done|omega)) only [go_sem,reduceEqDiff,Nat.reduceBEq,reduceAdd,reduceMul,reduceSub,reduceLeDiff,reduceToNat,reducePow, q7, q8, q9, q12, q14, q15, r1, g0, g1, g2, g3, g4, c0, c1, ca, cb, k0, k1, ka, kb, e1, e2, p1']))
          exact hM.fin hw
      · rw [decide_eq_false p2] at e1
        have hf : fitI R o nw = 80 := by rw [hR']; unfold fitI; simp only; rw [if_neg (fun h => p2 h.1)]
        rw [hf]
        repeat' (first|refine zW.zs ?_|refine zW.zb ?_|refine zW.zc ?_|refine zW.zt rfl ?_|refine zW.zf rfl ?_|(refine zW.zd rfl (fun ht => ?_) (fun ht => ?_)<;>try (exfalso;omega))|((first|refine zW.zr ?_|refine zW.zk ?_|refine zW.ze ?_|refine zW.zq ?_|(apply callW.mk_pu; (first | exact (fun _ => z1w _ false))) | (apply callW.za; (first | exact (z1w _ false))) | ((first|apply zg0|apply zg1|apply zg2|apply zg3|apply zg4|apply zg5|apply zg6|apply zg7)<;>intro ht));all_goals try simp (disch:=first|omega|(simp only [lens];first|done|omega)) only [go_sem,reduceEqDiff,Nat.reduceBEq,reduceAdd,reduceMul,reduceSub,reduceLeDiff,reduceToNat,reducePow, q7, q8, q9, q12, q14, q15, r1, g0, g1, g2, g3, g4, c0, c1, ca, cb, k0, k1, ka, kb, e1, p1']))
        exact hM.fin hw
    · have p1' : ¬ (ps.length : Int) = 0 := by intro e; exact p1 (List.eq_nil_of_length_eq_zero (by omega))
      have p1'' : ¬ ps.length = 0 := by omega
      have hf : fitI R o nw = 80 := by
        have : R = none := by
          rw [<- hR]
          cases ps with
          | nil => exact absurd rfl p1
          | cons _ _ => rfl
        rw [this]; rfl
      rw [hf]
      repeat' (first|refine zW.zs ?_|refine zW.zb ?_|refine zW.zc ?_|refine zW.zt rfl ?_|refine zW.zf rfl ?_|(refine zW.zd rfl (fun ht => ?_) (fun ht => ?_)<;>try (exfalso;omega))|((first|refine zW.zr ?_|refine zW.zk ?_|refine zW.ze ?_|refine zW.zq ?_|(apply callW.mk_pu; (first | exact (fun _ => z1w _ false))) | (apply callW.za; (first | exact (z1w _ false))) | ((first|apply zg0|apply zg1|apply zg2|apply zg3|apply zg4|apply zg5|apply zg6|apply zg7)<;>intro ht));all_goals try simp (disch:=first|omega|(simp only [lens];first|done|omega)) only [go_sem,reduceEqDiff,Nat.reduceBEq,reduceAdd,reduceMul,reduceSub,reduceLeDiff,reduceToNat,reducePow, q7, q8, q9, q12, q14, q15, r1, g0, g1, g2, g3, g4, c0, c1, p1', p1'']))
      exact hM.fin hw
  · cases ps with
    | nil =>
      have hf : fitI R o nw = 80 := by
        obtain ⟨t, P, e⟩ := lp_pos (i := i) h0
        rw [e, zp7] at hR
        rw [<- hR]; rfl
      rw [hf]
      have hnx := zfv (Y.length + 2) Y' pv hM.hp g2
      have dz : (z8 z3v).drop 32 = [] := rfl
      have hl0 : (0 : Int) < last := by omega
      have cz : (z8 z3v).length = 32 := by rw [zn]; rfl
      repeat' (first|refine zW.zs ?_|refine zW.zb ?_|refine zW.zc ?_|refine zW.zt rfl ?_|refine zW.zf rfl ?_|(refine zW.zd rfl (fun ht => ?_) (fun ht => ?_)<;>try (exfalso;omega))|((first|refine zW.zr ?_|refine zW.zk ?_|refine zW.ze ?_|refine zW.zq ?_|(apply callW.mk_pu; (first | exact (fun _ => hnx))) | (apply callW.za; (first | exact (hnx))) | ((first|apply zg0|apply zg1|apply zg2|apply zg3|apply zg4|apply zg5|apply zg6|apply zg7)<;>intro ht));all_goals try simp (disch:=first|omega|(simp only [lens];first|done|omega)) only [go_sem,reduceEqDiff,Nat.reduceBEq,reduceAdd,reduceMul,reduceSub,reduceLeDiff,reduceToNat,reducePow, q7, q8, q9, q12, q13, q14, q15, g0, g1, g2, g3, g4, cz, dz, hl0]))
      exact (hM.app (y := [some [z8 z3v], some [z8 z3v]])).fin hw
    | cons h qs =>
      have hh : h.length = 32 := hH h (by simp)
      have hq : H32 qs := fun x hx => hH x (by simp [hx])
      obtain ⟨ex, rfl⟩ := hM.hp.vsl (by rw [z2k]; simp)
      simp only [List.length_cons] at hpl
      have hnx := zfw (Y.length + 2) Y' h qs ex hh (by omega) g2
      have ch := zn h
      rw [hh] at ch
      have c7 := zn (z1e h a)
      have c8 := zn (z1e h b)
      have c9 := zn (z1e b h)
      rw [z3c] at c7 c8 c9
      have d0 := z8d hM.ha
      have d1 := z8d hM.hb
      have d2 := z8d hh
      have t0 := z8e hM.ha
      have t1 := z8e hM.hb
      have t2 := z8e hh
      by_cases hc : i % 2 = 1 \/ i = last
      · have hl0 : (0 : Int) < last := by omega
        obtain ⟨P, hP⟩ : ∃ P, lp i last = true :: P := by
          rcases hc with hc | rfl
          · exact ⟨_, z3i hc h0⟩
          · exact zbn (i + 1) i (Nat.lt_succ_self _) h0
        rw [hP] at hR
        rcases hc with hc | rfl
        · have hc1 : (i : Int) % 2 = 1 := by omega
          repeat' (first|refine zW.zs ?_|refine zW.zb ?_|refine zW.zc ?_|refine zW.zt rfl ?_|refine zW.zf rfl ?_|(refine zW.zd rfl (fun ht => ?_) (fun ht => ?_)<;>try (exfalso;omega))|((first|refine zW.zr ?_|refine zW.zk ?_|refine zW.ze ?_|refine zW.zq ?_|(apply callW.mk_pu; (first | exact (fun _ => hnx) | exact (fun _ => z1q _ h a hh hM.ha) | exact (fun _ => z1q _ h b hh hM.hb) | exact (fun _ => z1q _ b h hM.hb hh))) | (apply callW.za; (first | exact (hnx) | exact (z1q _ h a hh hM.ha) | exact (z1q _ h b hh hM.hb) | exact (z1q _ b h hM.hb hh))) | ((first|apply zg0|apply zg1|apply zg2|apply zg3|apply zg4|apply zg5|apply zg6|apply zg7)<;>intro ht));all_goals try simp (disch:=first|omega|(simp only [lens];first|done|omega)) only [go_sem,reduceEqDiff,Nat.reduceBEq,reduceAdd,reduceMul,reduceSub,reduceLeDiff,reduceToNat,reducePow, q7, q8, q9, q11, q12, q13, q14, q15, g0, g1, g2, g3, g4, ca, cb, ch, c7, c8, c9, d0, d1, d2, t0, t1, t2, hc1, hl0]))
          have hM2 := (((hM.setp (qs := qs) (qv := .vsl 32 (zm qs) ex) (.inr ⟨ex, rfl⟩)).seta (z3c h a)).setb (z3c h b)).app (y := [some [z8 h], some [z8 h]])
          refine zW.loop (fun m O2 Y2 => ∃ (i2 last2 : Nat), m = i2 /\ ChkM ia ib Y Y2 o nw (.vsl 32 (zm qs) ex) qs (z1e h a) (z1e h b) /\ lp i2 last2 = true :: P /\ 0 < i2 /\ (i2 % 2 = 1 \/ i2 = last2) /\ i2 < 4096 /\ last2 <= last ∧
            O2 7 = .ptr Y.length 0 0 /\ O2 8 = .ptr (Y.length + 1) 0 0 /\ O2 9 = .ptr (Y.length + 2) 0 0 /\ O2 11 = .int .i64 i2 /\ O2 12 = .int .i64 last2 /\ O2 13 = .fn 57 [.ptr (Y.length + 2) 0 0] /\ O2 14 = .ptr (Y.length + ia) 0 0 /\ O2 15 = .ptr (Y.length + ib) 0 0) i ?_ ?_
          · exact ⟨i, last, rfl, hM2, hP, by omega, .inl hc, hi, by omega, by simp (disch:=first|omega|(simp only [lens];first|done|omega)) only [go_sem,reduceEqDiff,Nat.reduceBEq,reduceAdd,reduceMul,reduceSub,reduceLeDiff,reduceToNat,reducePow, q7], by simp (disch:=first|omega|(simp only [lens];first|done|omega)) only [go_sem,reduceEqDiff,Nat.reduceBEq,reduceAdd,reduceMul,reduceSub,reduceLeDiff,reduceToNat,reducePow, q8], by simp (disch:=first|omega|(simp only [lens];first|done|omega)) only [go_sem,reduceEqDiff,Nat.reduceBEq,reduceAdd,reduceMul,reduceSub,reduceLeDiff,reduceToNat,reducePow, q9], by simp (disch:=first|omega|(simp only [lens];first|done|omega)) only [go_sem,reduceEqDiff,Nat.reduceBEq,reduceAdd,reduceMul,reduceSub,reduceLeDiff,reduceToNat,reducePow, q11], by simp (disch:=first|omega|(simp only [lens];first|done|omega)) only [go_sem,reduceEqDiff,Nat.reduceBEq,reduceAdd,reduceMul,reduceSub,reduceLeDiff,reduceToNat,reducePow, q12], by simp (disch:=first|omega|(simp only [lens];first|done|omega)) only [go_sem,reduceEqDiff,Nat.reduceBEq,reduceAdd,reduceMul,reduceSub,reduceLeDiff,reduceToNat,reducePow, q13], by simp (disch:=first|omega|(simp only [lens];first|done|omega)) only [go_sem,reduceEqDiff,Nat.reduceBEq,reduceAdd,reduceMul,reduceSub,reduceLeDiff,reduceToNat,reducePow, q14], by simp (disch:=first|omega|(simp only [lens];first|done|omega)) only [go_sem,reduceEqDiff,Nat.reduceBEq,reduceAdd,reduceMul,reduceSub,reduceLeDiff,reduceToNat,reducePow, q15]⟩
          · clear q7 q8 q9 q11 q12 q13 q14 q15 g0 g1 g2 g3 g4
            rintro i2 O2 Y2 ⟨_, last2, rfl, hM3, hlp, hp0, hor, hb2, hl2, q7, q8, q9, q11, q12, q13, q14, q15⟩
            have hln : last2 ≠ 0 := by
              intro e; rw [e, z5y] at hlp; simp at hlp
            by_cases hodd : i2 % 2 = 1
            · have hx1 : (i2 : Int) % 2 = 1 := by omega
              rw [z3i hodd hln] at hlp
              have hP2 : lp (i2 / 2) (last2 / 2) = P := by simpa using hlp
              rw [<- hP2] at hR
              repeat' (first|refine zW.zs ?_|refine zW.zb ?_|refine zW.zc ?_|refine zW.zt rfl ?_|refine zW.zf rfl ?_|(refine zW.zd rfl (fun ht => ?_) (fun ht => ?_)<;>try (exfalso;omega))|((first|refine zW.zr ?_|refine zW.zk ?_|refine zW.ze ?_|refine zW.zq ?_|((first|apply zg0|apply zg1|apply zg2|apply zg3|apply zg4|apply zg5|apply zg6|apply zg7)<;>intro ht));all_goals try simp (disch:=first|omega|(simp only [lens];first|done|omega)) only [go_sem,reduceEqDiff,Nat.reduceBEq,reduceAdd,reduceMul,reduceSub,reduceLeDiff,reduceToNat,reducePow, q7, q8, q9, q11, q12, q13, q14, q15, hx1]))
              exact ⟨last2 / 2, by omega, i2 / 2, last2 / 2, _, qs, _, _, rfl, hM3, hq, by omega, by omega, by omega, hR, by simp, by simp⟩
            · have hx1 : (i2 : Int) % 2 = 0 := by omega
              have hx2 : (0 : Int) < i2 := by omega
              obtain rfl : i2 = last2 := hor.resolve_left hodd
              rw [z6x hodd] at hlp
              repeat' (first|refine zW.zs ?_|refine zW.zb ?_|refine zW.zc ?_|refine zW.zt rfl ?_|refine zW.zf rfl ?_|(refine zW.zd rfl (fun ht => ?_) (fun ht => ?_)<;>try (exfalso;omega))|((first|refine zW.zr ?_|refine zW.zk ?_|refine zW.ze ?_|refine zW.zq ?_|((first|apply zg0|apply zg1|apply zg2|apply zg3|apply zg4|apply zg5|apply zg6|apply zg7)<;>intro ht));all_goals try simp (disch:=first|omega|(simp only [lens];first|done|omega)) only [go_sem,reduceEqDiff,Nat.reduceBEq,reduceAdd,reduceMul,reduceSub,reduceLeDiff,reduceToNat,reducePow, q7, q8, q9, q11, q12, q13, q14, q15, hx1, hx2]))
              exact ⟨i2 / 2, by omega, i2 / 2, i2 / 2, rfl, hM3, hlp, by omega, .inr rfl, by omega, by omega, by simp, by simp⟩
        · by_cases hc : i % 2 = 1
          · have hc1 : (i : Int) % 2 = 1 := by omega
            repeat' (first|refine zW.zs ?_|refine zW.zb ?_|refine zW.zc ?_|refine zW.zt rfl ?_|refine zW.zf rfl ?_|(refine zW.zd rfl (fun ht => ?_) (fun ht => ?_)<;>try (exfalso;omega))|((first|refine zW.zr ?_|refine zW.zk ?_|refine zW.ze ?_|refine zW.zq ?_|(apply callW.mk_pu; (first | exact (fun _ => hnx) | exact (fun _ => z1q _ h a hh hM.ha) | exact (fun _ => z1q _ h b hh hM.hb) | exact (fun _ => z1q _ b h hM.hb hh))) | (apply callW.za; (first | exact (hnx) | exact (z1q _ h a hh hM.ha) | exact (z1q _ h b hh hM.hb) | exact (z1q _ b h hM.hb hh))) | ((first|apply zg0|apply zg1|apply zg2|apply zg3|apply zg4|apply zg5|apply zg6|apply zg7)<;>intro ht));all_goals try simp (disch:=first|omega|(simp only [lens];first|done|omega)) only [go_sem,reduceEqDiff,Nat.reduceBEq,reduceAdd,reduceMul,reduceSub,reduceLeDiff,reduceToNat,reducePow, q7, q8, q9, q11, q12, q13, q14, q15, g0, g1, g2, g3, g4, ca, cb, ch, c7, c8, c9, d0, d1, d2, t0, t1, t2, hc1, hl0]))
            have hM2 := (((hM.setp (qs := qs) (qv := .vsl 32 (zm qs) ex) (.inr ⟨ex, rfl⟩)).seta (z3c h a)).setb (z3c h b)).app (y := [some [z8 h], some [z8 h]])
            refine zW.loop (fun m O2 Y2 => ∃ (i2 last2 : Nat), m = i2 /\ ChkM ia ib Y Y2 o nw (.vsl 32 (zm qs) ex) qs (z1e h a) (z1e h b) /\ lp i2 last2 = true :: P /\ 0 < i2 /\ (i2 % 2 = 1 \/ i2 = last2) /\ i2 < 4096 /\ last2 <= i ∧
              O2 7 = .ptr Y.length 0 0 /\ O2 8 = .ptr (Y.length + 1) 0 0 /\ O2 9 = .ptr (Y.length + 2) 0 0 /\ O2 11 = .int .i64 i2 /\ O2 12 = .int .i64 last2 /\ O2 13 = .fn 57 [.ptr (Y.length + 2) 0 0] /\ O2 14 = .ptr (Y.length + ia) 0 0 /\ O2 15 = .ptr (Y.length + ib) 0 0) i ?_ ?_
            · exact ⟨i, i, rfl, hM2, hP, by omega, .inr rfl, hi, by omega, by simp (disch:=first|omega|(simp only [lens];first|done|omega)) only [go_sem,reduceEqDiff,Nat.reduceBEq,reduceAdd,reduceMul,reduceSub,reduceLeDiff,reduceToNat,reducePow, q7], by simp (disch:=first|omega|(simp only [lens];first|done|omega)) only [go_sem,reduceEqDiff,Nat.reduceBEq,reduceAdd,reduceMul,reduceSub,reduceLeDiff,reduceToNat,reducePow, q8], by simp (disch:=first|omega|(simp only [lens];first|done|omega)) only [go_sem,reduceEqDiff,Nat.reduceBEq,reduceAdd,reduceMul,reduceSub,reduceLeDiff,reduceToNat,reducePow, q9], by simp (disch:=first|omega|(simp only [lens];first|done|omega)) only [go_sem,reduceEqDiff,Nat.reduceBEq,reduceAdd,reduceMul,reduceSub,reduceLeDiff,reduceToNat,reducePow, q11], by simp (disch:=first|omega|(simp only [lens];first|done|omega)) only [go_sem,reduceEqDiff,Nat.reduceBEq,reduceAdd,reduceMul,reduceSub,reduceLeDiff,reduceToNat,reducePow, q12], by simp (disch:=first|omega|(simp only [lens];first|done|omega)) only [go_sem,reduceEqDiff,Nat.reduceBEq,reduceAdd,reduceMul,reduceSub,reduceLeDiff,reduceToNat,reducePow, q13], by simp (disch:=first|omega|(simp only [lens];first|done|omega)) only [go_sem,reduceEqDiff,Nat.reduceBEq,reduceAdd,reduceMul,reduceSub,reduceLeDiff,reduceToNat,reducePow, q14], by simp (disch:=first|omega|(simp only [lens];first|done|omega)) only [go_sem,reduceEqDiff,Nat.reduceBEq,reduceAdd,reduceMul,reduceSub,reduceLeDiff,reduceToNat,reducePow, q15]⟩
            · clear q7 q8 q9 q11 q12 q13 q14 q15 g0 g1 g2 g3 g4
              rintro i2 O2 Y2 ⟨_, last2, rfl, hM3, hlp, hp0, hor, hb2, hl2, q7, q8, q9, q11, q12, q13, q14, q15⟩
              have hln : last2 ≠ 0 := by
                intro e; rw [e, z5y] at hlp; simp at hlp
              by_cases hodd : i2 % 2 = 1
              · have hx1 : (i2 : Int) % 2 = 1 := by omega
                rw [z3i hodd hln] at hlp
                have hP2 : lp (i2 / 2) (last2 / 2) = P := by simpa using hlp
                rw [<- hP2] at hR
                repeat' (first|refine zW.zs ?_|refine zW.zb ?_|refine zW.zc ?_|refine zW.zt rfl ?_|refine zW.zf rfl ?_|(refine zW.zd rfl (fun ht => ?_) (fun ht => ?_)<;>try (exfalso;omega))|((first|refine zW.zr ?_|refine zW.zk ?_|refine zW.ze ?_|refine zW.zq ?_|((first|apply zg0|apply zg1|apply zg2|apply zg3|apply zg4|apply zg5|apply zg6|apply zg7)<;>intro ht));all_goals try simp (disch:=first|omega|(simp only [lens];first|done|omega)) only [go_sem,reduceEqDiff,Nat.reduceBEq,reduceAdd,reduceMul,reduceSub,reduceLeDiff,reduceToNat,reducePow, q7, q8, q9, q11, q12, q13, q14, q15, hx1]))
                exact ⟨last2 / 2, by omega, i2 / 2, last2 / 2, _, qs, _, _, rfl, hM3, hq, by omega, by omega, by omega, hR, by simp, by simp⟩
              · have hx1 : (i2 : Int) % 2 = 0 := by omega
                have hx2 : (0 : Int) < i2 := by omega
                obtain rfl : i2 = last2 := hor.resolve_left hodd
                rw [z6x hodd] at hlp
                repeat' (first|refine zW.zs ?_|refine zW.zb ?_|refine zW.zc ?_|refine zW.zt rfl ?_|refine zW.zf rfl ?_|(refine zW.zd rfl (fun ht => ?_) (fun ht => ?_)<;>try (exfalso;omega))|((first|refine zW.zr ?_|refine zW.zk ?_|refine zW.ze ?_|refine zW.zq ?_|((first|apply zg0|apply zg1|apply zg2|apply zg3|apply zg4|apply zg5|apply zg6|apply zg7)<;>intro ht));all_goals try simp (disch:=first|omega|(simp only [lens];first|done|omega)) only [go_sem,reduceEqDiff,Nat.reduceBEq,reduceAdd,reduceMul,reduceSub,reduceLeDiff,reduceToNat,reducePow, q7, q8, q9, q11, q12, q13, q14, q15, hx1, hx2]))
                exact ⟨i2 / 2, by omega, i2 / 2, i2 / 2, rfl, hM3, hlp, by omega, .inr rfl, by omega, by omega, by simp, by simp⟩
          · have hc1 : (i : Int) % 2 = 0 := by omega
            repeat' (first|refine zW.zs ?_|refine zW.zb ?_|refine zW.zc ?_|refine zW.zt rfl ?_|refine zW.zf rfl ?_|(refine zW.zd rfl (fun ht => ?_) (fun ht => ?_)<;>try (exfalso;omega))|((first|refine zW.zr ?_|refine zW.zk ?_|refine zW.ze ?_|refine zW.zq ?_|(apply callW.mk_pu; (first | exact (fun _ => hnx) | exact (fun _ => z1q _ h a hh hM.ha) | exact (fun _ => z1q _ h b hh hM.hb) | exact (fun _ => z1q _ b h hM.hb hh))) | (apply callW.za; (first | exact (hnx) | exact (z1q _ h a hh hM.ha) | exact (z1q _ h b hh hM.hb) | exact (z1q _ b h hM.hb hh))) | ((first|apply zg0|apply zg1|apply zg2|apply zg3|apply zg4|apply zg5|apply zg6|apply zg7)<;>intro ht));all_goals try simp (disch:=first|omega|(simp only [lens];first|done|omega)) only [go_sem,reduceEqDiff,Nat.reduceBEq,reduceAdd,reduceMul,reduceSub,reduceLeDiff,reduceToNat,reducePow, q7, q8, q9, q11, q12, q13, q14, q15, g0, g1, g2, g3, g4, ca, cb, ch, c7, c8, c9, d0, d1, d2, t0, t1, t2, hc1, hl0]))
            have hM2 := (((hM.setp (qs := qs) (qv := .vsl 32 (zm qs) ex) (.inr ⟨ex, rfl⟩)).seta (z3c h a)).setb (z3c h b)).app (y := [some [z8 h], some [z8 h]])
            refine zW.loop (fun m O2 Y2 => ∃ (i2 last2 : Nat), m = i2 /\ ChkM ia ib Y Y2 o nw (.vsl 32 (zm qs) ex) qs (z1e h a) (z1e h b) /\ lp i2 last2 = true :: P /\ 0 < i2 /\ (i2 % 2 = 1 \/ i2 = last2) /\ i2 < 4096 /\ last2 <= i ∧
              O2 7 = .ptr Y.length 0 0 /\ O2 8 = .ptr (Y.length + 1) 0 0 /\ O2 9 = .ptr (Y.length + 2) 0 0 /\ O2 11 = .int .i64 i2 /\ O2 12 = .int .i64 last2 /\ O2 13 = .fn 57 [.ptr (Y.length + 2) 0 0] /\ O2 14 = .ptr (Y.length + ia) 0 0 /\ O2 15 = .ptr (Y.length + ib) 0 0) i ?_ ?_
            · exact ⟨i, i, rfl, hM2, hP, by omega, .inr rfl, hi, by omega, by simp (disch:=first|omega|(simp only [lens];first|done|omega)) only [go_sem,reduceEqDiff,Nat.reduceBEq,reduceAdd,reduceMul,reduceSub,reduceLeDiff,reduceToNat,reducePow, q7], by simp (disch:=first|omega|(simp only [lens];first|done|omega)) only [go_sem,reduceEqDiff,Nat.reduceBEq,reduceAdd,reduceMul,reduceSub,reduceLeDiff,reduceToNat,reducePow, q8], by simp (disch:=first|omega|(simp only [lens];first|done|omega)) only [go_sem,reduceEqDiff,Nat.reduceBEq,reduceAdd,reduceMul,reduceSub,reduceLeDiff,reduceToNat,reducePow, q9], by simp (disch:=first|omega|(simp only [lens];first|done|omega)) only [go_sem,reduceEqDiff,Nat.reduceBEq,reduceAdd,reduceMul,reduceSub,reduceLeDiff,reduceToNat,reducePow, q11], by simp (disch:=first|omega|(simp only [lens];first|done|omega)) only [go_sem,reduceEqDiff,Nat.reduceBEq,reduceAdd,reduceMul,reduceSub,reduceLeDiff,reduceToNat,reducePow, q12], by simp (disch:=first|omega|(simp only [lens];first|done|omega)) only [go_sem,reduceEqDiff,Nat.reduceBEq,reduceAdd,reduceMul,reduceSub,reduceLeDiff,reduceToNat,reducePow, q13], by simp (disch:=first|omega|(simp only [lens];first|done|omega)) only [go_sem,reduceEqDiff,Nat.reduceBEq,reduceAdd,reduceMul,reduceSub,reduceLeDiff,reduceToNat,reducePow, q14], by simp (disch:=first|omega|(simp only [lens];first|done|omega)) only [go_sem,reduceEqDiff,Nat.reduceBEq,reduceAdd,reduceMul,reduceSub,reduceLeDiff,reduceToNat,reducePow, q15]⟩
            · clear q7 q8 q9 q11 q12 q13 q14 q15 g0 g1 g2 g3 g4
              rintro i2 O2 Y2 ⟨_, last2, rfl, hM3, hlp, hp0, hor, hb2, hl2, q7, q8, q9, q11, q12, q13, q14, q15⟩
              have hln : last2 ≠ 0 := by
                intro e; rw [e, z5y] at hlp; simp at hlp
              by_cases hodd : i2 % 2 = 1
              · have hx1 : (i2 : Int) % 2 = 1 := by omega
                rw [z3i hodd hln] at hlp
                have hP2 : lp (i2 / 2) (last2 / 2) = P := by simpa using hlp
                rw [<- hP2] at hR
                repeat' (first|refine zW.zs ?_|refine zW.zb ?_|refine zW.zc ?_|refine zW.zt rfl ?_|refine zW.zf rfl ?_|(refine zW.zd rfl (fun ht => ?_) (fun ht => ?_)<;>try (exfalso;omega))|((first|refine zW.zr ?_|refine zW.zk ?_|refine zW.ze ?_|refine zW.zq ?_|((first|apply zg0|apply zg1|apply zg2|apply zg3|apply zg4|apply zg5|apply zg6|apply zg7)<;>intro ht));all_goals try simp (disch:=first|omega|(simp only [lens];first|done|omega)) only [go_sem,reduceEqDiff,Nat.reduceBEq,reduceAdd,reduceMul,reduceSub,reduceLeDiff,reduceToNat,reducePow, q7, q8, q9, q11, q12, q13, q14, q15, hx1]))
                exact ⟨last2 / 2, by omega, i2 / 2, last2 / 2, _, qs, _, _, rfl, hM3, hq, by omega, by omega, by omega, hR, by simp, by simp⟩
              · have hx1 : (i2 : Int) % 2 = 0 := by omega
                have hx2 : (0 : Int) < i2 := by omega
                obtain rfl : i2 = last2 := hor.resolve_left hodd
                rw [z6x hodd] at hlp
                repeat' (first|refine zW.zs ?_|refine zW.zb ?_|refine zW.zc ?_|refine zW.zt rfl ?_|refine zW.zf rfl ?_|(refine zW.zd rfl (fun ht => ?_) (fun ht => ?_)<;>try (exfalso;omega))|((first|refine zW.zr ?_|refine zW.zk ?_|refine zW.ze ?_|refine zW.zq ?_|((first|apply zg0|apply zg1|apply zg2|apply zg3|apply zg4|apply zg5|apply zg6|apply zg7)<;>intro ht));all_goals try simp (disch:=first|omega|(simp only [lens];first|done|omega)) only [go_sem,reduceEqDiff,Nat.reduceBEq,reduceAdd,reduceMul,reduceSub,reduceLeDiff,reduceToNat,reducePow, q7, q8, q9, q11, q12, q13, q14, q15, hx1, hx2]))
                exact ⟨i2 / 2, by omega, i2 / 2, i2 / 2, rfl, hM3, hlp, by omega, .inr rfl, by omega, by omega, by simp, by simp⟩
      · have hc1 : (i : Int) % 2 = 0 := by omega
        have hc2 : ¬ (i : Int) = last := by omega
        have hl0 : (0 : Int) < last := by omega
        rw [z6e (by omega) h0 (by omega)] at hR
        repeat' (first|refine zW.zs ?_|refine zW.zb ?_|refine zW.zc ?_|refine zW.zt rfl ?_|refine zW.zf rfl ?_|(refine zW.zd rfl (fun ht => ?_) (fun ht => ?_)<;>try (exfalso;omega))|((first|refine zW.zr ?_|refine zW.zk ?_|refine zW.ze ?_|refine zW.zq ?_|(apply callW.mk_pu; (first | exact (fun _ => hnx) | exact (fun _ => z1q _ h a hh hM.ha) | exact (fun _ => z1q _ h b hh hM.hb) | exact (fun _ => z1q _ b h hM.hb hh))) | (apply callW.za; (first | exact (hnx) | exact (z1q _ h a hh hM.ha) | exact (z1q _ h b hh hM.hb) | exact (z1q _ b h hM.hb hh))) | ((first|apply zg0|apply zg1|apply zg2|apply zg3|apply zg4|apply zg5|apply zg6|apply zg7)<;>intro ht));all_goals try simp (disch:=first|omega|(simp only [lens];first|done|omega)) only [go_sem,reduceEqDiff,Nat.reduceBEq,reduceAdd,reduceMul,reduceSub,reduceLeDiff,reduceToNat,reducePow, q7, q8, q9, q11, q12, q13, q14, q15, g0, g1, g2, g3, g4, ca, cb, ch, c7, c8, c9, d0, d1, d2, t0, t1, t2, hc1, hc2, hl0]))
        exact ⟨last / 2, by omega, i / 2, last / 2, _, qs, a, z1e b h, rfl, ((hM.setp (qs := qs) (qv := .vsl 32 (zm qs) ex) (.inr ⟨ex, rfl⟩)).setb (z3c b h)).app, hq, by omega, by omega, by omega, hR, by simp, by simp⟩
end Am
end Go.Proofs.YtjgljhbmljgaeaaDoor
end
section
/- Proofs: contract: Check of the program. -/
namespace Go.Proofs.YtjgljhbmljgaeaaDoor
namespace Am
attribute [local irreducible] zc6
set_option maxHeartbeats 8000000 in
theorem zi5 (Y : Store) (m n : Nat) (o nw : List UInt8) (x : AV) (ps : List (List UInt8)) (hx : SlV 32 (zm ps) x) (hH : H32 ps) (ho : o.length = 32) (hn : nw.length = 32) (h0 : 0 < m) (h1 : m < n) (h2 : n <= 4096) (hl : ps.length < 1000000) :
    ACallsTo TC 35 [.int .i64 m, .int .i64 n, .agg (z8 o), .agg (z8 nw), x] Y (.int .i64 (fitI (chkS (m - 1) (n - 1) o ps) o nw)) Y := by
  have r0 := hx.cells
  unfold cellsOf at r0
  have c1 := zn o
  have c2 := zn nw
  rw [ho] at c1
  rw [hn] at c2
  have d1 := z8d ho
  have t1 := z8e ho
  obtain ⟨R, hR⟩ : ∃ R, R = chkS (m - 1) (n - 1) o ps := ⟨_, rfl⟩
  rw [<- hR]
  refine ACallsTo.of_body qnok (by simp) fun hw _ => ?_
  have hm1 : (m : Int) - 1 = ((m - 1 : Nat) : Int) := by omega
  have hn1 : (n : Int) - 1 = ((n - 1 : Nat) : Int) := by omega
  repeat' (first|refine zW.zs ?_|refine zW.zb ?_|refine zW.zc ?_|refine zW.zt rfl ?_|refine zW.zf rfl ?_|(refine zW.zd rfl (fun ht => ?_) (fun ht => ?_)<;>try (exfalso;omega))|((first|refine zW.zr ?_|refine zW.zk ?_|refine zW.ze ?_|refine zW.zq ?_|((first|apply zg0|apply zg1|apply zg2|apply zg3|apply zg4|apply zg5|apply zg6|apply zg7)<;>intro ht));all_goals try simp (disch:=first|omega|(simp only [lens];first|done|omega)) only [go_sem,reduceEqDiff,Nat.reduceBEq,reduceAdd,reduceMul,reduceSub,reduceLeDiff,reduceToNat,reducePow, r0, hm1, hn1]))
  refine zW.loop (fun k O Y' => ∃ (i last : Nat), k = i /\ Y' = Y ++ [some [z8 o], some [z8 nw], some [[x]]] /\ R = chkG (st i last).1 (st i last).2 o ps /\ i < 4096 /\ last < 4096 ∧
    O 7 = .ptr Y.length 0 0 /\ O 8 = .ptr (Y.length + 1) 0 0 /\ O 9 = .ptr (Y.length + 2) 0 0 /\ O 11 = .int .i64 i /\ O 12 = .int .i64 last) (m - 1) ?_ ?_
  · exact ⟨m - 1, n - 1, rfl, by simp, hR, by omega, by omega, by simp (disch:=first|omega|(simp only [lens];first|done|omega)) only [go_sem,reduceEqDiff,Nat.reduceBEq,reduceAdd,reduceMul,reduceSub,reduceLeDiff,reduceToNat,reducePow], by simp (disch:=first|omega|(simp only [lens];first|done|omega)) only [go_sem,reduceEqDiff,Nat.reduceBEq,reduceAdd,reduceMul,reduceSub,reduceLeDiff,reduceToNat,reducePow], by simp (disch:=first|omega|(simp only [lens];first|done|omega)) only [go_sem,reduceEqDiff,Nat.reduceBEq,reduceAdd,reduceMul,reduceSub,reduceLeDiff,reduceToNat,reducePow], by simp (disch:=first|omega|(simp only [lens];first|done|omega)) only [go_sem,reduceEqDiff,Nat.reduceBEq,reduceAdd,reduceMul,reduceSub,reduceLeDiff,reduceToNat,reducePow], by simp (disch:=first|omega|(simp only [lens];first|done|omega)) only [go_sem,reduceEqDiff,Nat.reduceBEq,reduceAdd,reduceMul,reduceSub,reduceLeDiff,reduceToNat,reducePow]⟩
  · clear hm1 hn1 hR h0 h1 h2
    rintro i O Y' ⟨_, last, rfl, rfl, hR, hi, hla, q7, q8, q9, q11, q12⟩
    by_cases ho1 : i % 2 = 1
    · have hx1 : (i : Int) % 2 = 1 := by omega
      rw [z63 ho1] at hR
      repeat' (first|refine zW.zs ?_|refine zW.zb ?_|refine zW.zc ?_|refine zW.zt rfl ?_|refine zW.zf rfl ?_|(refine zW.zd rfl (fun ht => ?_) (fun ht => ?_)<;>try (exfalso;omega))|((first|refine zW.zr ?_|refine zW.zk ?_|refine zW.ze ?_|refine zW.zq ?_|((first|apply zg0|apply zg1|apply zg2|apply zg3|apply zg4|apply zg5|apply zg6|apply zg7)<;>intro ht));all_goals try simp (disch:=first|omega|(simp only [lens];first|done|omega)) only [go_sem,reduceEqDiff,Nat.reduceBEq,reduceAdd,reduceMul,reduceSub,reduceLeDiff,reduceToNat,reducePow, q7, q8, q9, q11, q12, hx1]))
      exact ⟨i / 2, by omega, i / 2, last / 2, rfl, hR, by omega, by omega, by simp, by simp⟩
    · have hx1 : (i : Int) % 2 = 0 := by omega
      rw [z4a ho1] at hR
      simp only [chkG] at hR
      have hM : ∀ ia ib : Nat, ((ia = 3 /\ ib = 4) \/ (ia = 4 /\ ib = 3)) -> ChkM ia ib Y (Y ++ [some [z8 o], some [z8 nw], some [[x]], some [z8 o], some [z8 o]]) o nw x ps o o := fun ia ib hab =>
        ⟨hab, by simp, fun q hq => gapp hq, by simp, by simp, by simp, by rcases hab with ⟨rfl, rfl⟩ | ⟨rfl, rfl⟩ <;> simp, by rcases hab with ⟨rfl, rfl⟩ | ⟨rfl, rfl⟩ <;> simp, hx, ho, ho⟩
      have key : ∀ (ia ib : Nat), ((ia = 3 /\ ib = 4) \/ (ia = 4 /\ ib = 3)) -> ∀ O1 : Env, O1 7 = .ptr Y.length 0 0 -> O1 8 = .ptr (Y.length + 1) 0 0 -> O1 9 = .ptr (Y.length + 2) 0 0 -> O1 11 = .int .i64 i -> O1 12 = .int .i64 last ->
          O1 13 = .fn 57 [.ptr (Y.length + 2) 0 0] -> O1 14 = .ptr (Y.length + ia) 0 0 -> O1 15 = .ptr (Y.length + ib) 0 0 ->
          zW TC 152 Y.length qnc72 (endQ Y.length [.t 10] (.int .i64 (fitI R o nw)) Y) O1 (Y ++ [some [z8 o], some [z8 nw], some [[x]], some [z8 o], some [z8 o]]) := by
        clear q7 q8 q9 q11 q12
        intro ia ib hab O1 q7 q8 q9 q11 q12 q13 q14 q15
        have hM1 := hM ia ib hab
        by_cases hi0 : i = 0
        · subst hi0
          rw [if_neg (by omega)] at hR
          repeat' (first|refine zW.zs ?_|refine zW.zb ?_|refine zW.zc ?_|refine zW.zt rfl ?_|refine zW.zf rfl ?_|(refine zW.zd rfl (fun ht => ?_) (fun ht => ?_)<;>try (exfalso;omega))|((first|refine zW.zr ?_|refine zW.zk ?_|refine zW.ze ?_|refine zW.zq ?_|((first|apply zg0|apply zg1|apply zg2|apply zg3|apply zg4|apply zg5|apply zg6|apply zg7)<;>intro ht));all_goals try simp (disch:=first|omega|(simp only [lens];first|done|omega)) only [go_sem,reduceEqDiff,Nat.reduceBEq,reduceAdd,reduceMul,reduceSub,reduceLeDiff,reduceToNat,reducePow, q7, q8, q9, q11, q12, c1, c2, d1, t1]))
          refine zdg ia ib Y hw o nw ho hn R _ _ 0 last x ps o o hM1 hH (by omega) hla hl hR.symm ?_ ?_ ?_ ?_ ?_ ?_ ?_ ?_ <;> simp (disch:=first|omega|(simp only [lens];first|done|omega)) only [go_sem,reduceEqDiff,Nat.reduceBEq,reduceAdd,reduceMul,reduceSub,reduceLeDiff,reduceToNat,reducePow, q7, q8, q9, q11, q12, q13, q14, q15]
        · have hi1 : (0 : Int) < i := by omega
          rw [if_pos (by omega)] at hR
          have g2 := hM1.g2
          have g3 := hM1.g3
          have g4 := hM1.g4
          have hlen := hM1.len
          cases ps with
          | nil =>
            have hnx := zfv (Y.length + 2) _ x hx g2
            have cz : (z8 z3v).length = 32 := by rw [zn]; rfl
            have dz : (z8 z3v).drop 32 = [] := rfl
            have hf : fitI R o nw = 80 := by rw [hR]; rfl
            rw [hf]
            have hM2 := hM1.app (y := [some [z8 z3v], some [z8 z3v]])
            generalize (Y ++ [some [z8 o], some [z8 nw], some [[x]], some [z8 o], some [z8 o]]) = Y1 at *
            repeat' (first|refine zW.zs ?_|refine zW.zb ?_|refine zW.zc ?_|refine zW.zt rfl ?_|refine zW.zf rfl ?_|(refine zW.zd rfl (fun ht => ?_) (fun ht => ?_)<;>try (exfalso;omega))|((first|refine zW.zr ?_|refine zW.zk ?_|refine zW.ze ?_|refine zW.zq ?_|(apply callW.mk_pu; (first | exact (fun _ => hnx))) | (apply callW.za; (first | exact (hnx))) | ((first|apply zg0|apply zg1|apply zg2|apply zg3|apply zg4|apply zg5|apply zg6|apply zg7)<;>intro ht));all_goals try simp (disch:=first|omega|(simp only [lens];first|done|omega)) only [go_sem,reduceEqDiff,Nat.reduceBEq,reduceAdd,reduceMul,reduceSub,reduceLeDiff,reduceToNat,reducePow, q7, q8, q9, q11, q12, q13, q14, q15, c1, c2, d1, t1, hi1, cz, dz]))
            exact hM2.fin hw
          | cons h qs =>
            have hh : h.length = 32 := hH h (by simp)
            have hq : H32 qs := fun x hx => hH x (by simp [hx])
            obtain ⟨ex, rfl⟩ := hx.vsl (by rw [z2k]; simp)
            simp only [List.length_cons] at hl
            have hnx := zfw (Y.length + 2) _ h qs ex hh (by omega) g2
            have ch := zn h
            rw [hh] at ch
            have d2 := z8d hh
            have t2 := z8e hh
            have hM2 := ((((hM1.setp (qs := qs) (qv := .vsl 32 (zm qs) ex) (.inr ⟨ex, rfl⟩)).seta hh).setb hh).app (y := [some [z8 h], some [z8 h]]))
            generalize (Y ++ [some [z8 o], some [z8 nw], some [[AV.vsl 32 (zm (h :: qs)) ex]], some [z8 o], some [z8 o]]) = Y1 at *
            repeat' (first|refine zW.zs ?_|refine zW.zb ?_|refine zW.zc ?_|refine zW.zt rfl ?_|refine zW.zf rfl ?_|(refine zW.zd rfl (fun ht => ?_) (fun ht => ?_)<;>try (exfalso;omega))|((first|refine zW.zr ?_|refine zW.zk ?_|refine zW.ze ?_|refine zW.zq ?_|(apply callW.mk_pu; (first | exact (fun _ => hnx))) | (apply callW.za; (first | exact (hnx))) | ((first|apply zg0|apply zg1|apply zg2|apply zg3|apply zg4|apply zg5|apply zg6|apply zg7)<;>intro ht));all_goals try simp (disch:=first|omega|(simp only [lens];first|done|omega)) only [go_sem,reduceEqDiff,Nat.reduceBEq,reduceAdd,reduceMul,reduceSub,reduceLeDiff,reduceToNat,reducePow, q7, q8, q9, q11, q12, q13, q14, q15, g2, g3, g4, c1, c2, ch, d1, d2, t1, t2, hi1]))
            refine zdg ia ib Y hw o nw ho hn R _ _ i last (.vsl 32 (zm qs) ex) qs h h hM2 hq hi hla (by omega) hR.symm ?_ ?_ ?_ ?_ ?_ ?_ ?_ ?_ <;> simp (disch:=first|omega|(simp only [lens];first|done|omega)) only [go_sem,reduceEqDiff,Nat.reduceBEq,reduceAdd,reduceMul,reduceSub,reduceLeDiff,reduceToNat,reducePow, q7, q8, q9, q11, q12, q13, q14, q15]
      clear hM
      repeat' (first|refine zW.zs ?_|refine zW.zb ?_|refine zW.zc ?_|refine zW.zt rfl ?_|refine zW.zf rfl ?_|(refine zW.zd rfl (fun ht => ?_) (fun ht => ?_)<;>try (exfalso;omega))|((first|refine zW.zr ?_|refine zW.zk ?_|refine zW.ze ?_|refine zW.zq ?_|((first|apply zg0|apply zg1|apply zg2|apply zg3|apply zg4|apply zg5|apply zg6|apply zg7)<;>intro ht));all_goals try simp (disch:=first|omega|(simp only [lens];first|done|omega)) only [go_sem,reduceEqDiff,Nat.reduceBEq,reduceAdd,reduceMul,reduceSub,reduceLeDiff,reduceToNat,reducePow, q7, q8, q9, q11, q12, hx1]))
      refine zW.reg2 ?_ ?_
      · simp (disch:=first|omega|(simp only [lens];first|done|omega)) only [go_sem,reduceEqDiff,Nat.reduceBEq,reduceAdd,reduceMul,reduceSub,reduceLeDiff,reduceToNat,reducePow, q7, q8, q9, q11, q12, c1, c2, d1, t1]
        refine key 3 4 (.inl ⟨rfl, rfl⟩) _ ?_ ?_ ?_ ?_ ?_ ?_ ?_ ?_ <;> simp (disch:=first|omega|(simp only [lens];first|done|omega)) only [go_sem,reduceEqDiff,Nat.reduceBEq,reduceAdd,reduceMul,reduceSub,reduceLeDiff,reduceToNat,reducePow, q7, q8, q9, q11, q12]
      · simp (disch:=first|omega|(simp only [lens];first|done|omega)) only [go_sem,reduceEqDiff,Nat.reduceBEq,reduceAdd,reduceMul,reduceSub,reduceLeDiff,reduceToNat,reducePow, q7, q8, q9, q11, q12, c1, c2, d1, t1]
        refine key 4 3 (.inr ⟨rfl, rfl⟩) _ ?_ ?_ ?_ ?_ ?_ ?_ ?_ ?_ <;> simp (disch:=first|omega|(simp only [lens];first|done|omega)) only [go_sem,reduceEqDiff,Nat.reduceBEq,reduceAdd,reduceMul,reduceSub,reduceLeDiff,reduceToNat,reducePow, q7, q8, q9, q11, q12]
theorem zi8 (Y : Store) (m n : Int) (o nw : List UInt8) (x : AV) (ps : List (List UInt8)) (hx : SlV 32 (zm ps) x) (hH : H32 ps) (ho : o.length = 32) (hn : nw.length = 32) (hl : ps.length < 1000000) :
    ACallsTo TC 35 [.int .i64 m, .int .i64 n, .agg (z8 o), .agg (z8 nw), x] Y (.int .i64 (chkI m n o nw ps)) Y := by
  unfold chkI
  by_cases h1 : n < 0 \/ 4096 < n \/ m < 0 \/ n < m
  · rw [if_pos h1]; exact zi4 Y m n o nw x _ hx h1
  · rw [if_neg h1]
    by_cases h2 : m = 0
    · subst h2; rw [if_pos rfl]; exact zia Y n o nw x ps hx ho hn (by omega) (by omega) hl
    · rw [if_neg h2]
      by_cases h3 : m = n
      · subst h3; rw [if_pos rfl]; exact zi7 Y m o nw x ps hx ho hn (by omega) (by omega) hl
      · rw [if_neg h3]
        obtain ⟨m, rfl⟩ : ∃ k : Nat, m = k := ⟨m.toNat, by omega⟩
        obtain ⟨n, rfl⟩ : ∃ k : Nat, n = k := ⟨n.toNat, by omega⟩
        exact zi5 Y m n o nw x ps hx hH ho hn (by omega) (by omega) (by omega) hl
theorem zi6 (Y : Store) (m n : Int) (o nw : List UInt8) (x : AV) (ps : List (List UInt8)) (hx : RdSl Y 32 (zm ps) x) (hH : H32 ps) (ho : o.length = 32) (hn : nw.length = 32) (hl : ps.length < 1000000) :
    ACallsTo TC 35 [.int .i64 m, .int .i64 n, .agg (z8 o), .agg (z8 nw), x] Y (.int .i64 (chkI m n o nw ps)) Y := by
  obtain ⟨x0, h0, hd⟩ := hx.lend (z77 ps)
  have hi : ∀ i : Int, RL 0 (.int .i64 i) := fun i => by simp [RL]
  have := ACallsTo.lend glok (zi8 [] m n o nw x0 ps h0 hH ho hn hl) (drsc (rl0 (hi m) Y) (drsc (rl0 (hi n) Y) (drsc (rl0 (z2g (z25 _)) Y) (drsc (rl0 (z2g (z25 _)) Y) (drs1 hd)))))
  rwa [show sh Y.length (.int .i64 (chkI m n o nw ps)) = .int .i64 (chkI m n o nw ps) from rfl, z7c, List.append_nil] at this
end Am
end Go.Proofs.YtjgljhbmljgaeaaDoor
end
section
/- Proofs: contract: the law's own example. -/
namespace Go.Proofs.YtjgljhbmljgaeaaDoor
namespace Am
theorem split2 : zj 2 = 1 := by decide
theorem split4 : zj 4 = 2 := by decide
theorem ProofP.is {Y Y' : Store} {hs : List (List UInt8)} {m : Int} {v : AV} (h : ProofP Y hs m v Y') : ∃ v2, v = .tup [v2, .int .i64 (z3k hs m)] /\ OwnN 32 Y Y' v2 (zm (z22 hs m)) := h
end Am
end Go.Proofs.YtjgljhbmljgaeaaDoor
end
section
/- Proofs: the law ProofsProof: its contract. -/
namespace Go.Proofs.YtjgljhbmljgaeaaDoor
namespace Am
def z5x : Ty := .row (List.replicate 32 (.int .u8))
theorem ze9 : ∀ (n : Nat) (cs : List AV), z34 (List.replicate n (.int .u8)) cs -> ∃ h : List UInt8, cs = z8 h /\ h.length = n
  | 0, cs, h => ⟨[], by simpa only [List.replicate_zero, z34, z8, List.map_nil] using h, rfl⟩
  | n + 1, cs, h => by
    simp only [List.replicate_succ, z34, ShC] at h
    obtain ⟨_, b, rfl, ⟨x, rfl, h1, h2⟩, h3⟩ := h
    obtain ⟨l, rfl, hl⟩ := ze9 n b h3
    simp only [IntKind.min, IntKind.max, IntKind.signed, IntKind.bits] at h1 h2
    simp at h1 h2
    refine ⟨UInt8.ofNat x.toNat :: l, ?_, by simp [hl]⟩
    have : ((UInt8.ofNat x.toNat).toNat : Int) = x := by rw [UInt8.toNat_ofNat']; omega
    simp only [z8, List.map_cons, List.singleton_append, this]
theorem zf5 {cs : List AV} (h : ShC z5x cs) : ∃ l : List UInt8, cs = z8 l /\ l.length = 32 := ze9 32 cs (by simpa only [z5x, ShC] using h)
theorem zf6 : ∀ (es : List (List AV)), (∀ x ∈ es, ShC z5x x) -> ∃ hs, es = zm hs /\ H32 hs
  | [], _ => ⟨[], rfl, fun _ h => by simp at h⟩
  | e :: es, h => by
    obtain ⟨l, rfl, hl⟩ := zf5 (h e (by simp))
    obtain ⟨hs, rfl, hH⟩ := zf6 es (fun x hx => h x (by simp [hx]))
    refine ⟨l :: hs, rfl, fun x hx => ?_⟩
    rcases List.mem_cons.1 hx with rfl | hx
    · exact hl
    · exact hH x hx
theorem RefP.ex (Y : Store) (hs : List (List UInt8)) (m : Int) : ∃ v Y', RefP Y hs m v Y' := ⟨_, _, _, rfl, .inl (z9z Y 32 _)⟩
end Am
end Go.Proofs.YtjgljhbmljgaeaaDoor
end
section
/- Hashes as_ one thing each: 32 bytes, hidden behind a name. -/
namespace Go.Proofs.YtjgljhbmljgaeaaDoor
namespace Am
abbrev Hash := {l : List UInt8 // l.length = 32}
def hc (h : Hash) : List AV := z8 h.1
def hr (l : List Hash) : List (List AV) := l.map hc
def hb (l : List Hash) : List (List UInt8) := l.map (·.1)
theorem hb_H (l : List Hash) : H32 (hb l) := fun x hx => by
  simp only [hb, List.mem_map] at hx
  obtain ⟨h, _, rfl⟩ := hx
  exact h.2
theorem z39 (l : List Hash) : (hb l).length = l.length := by simp [hb]
theorem zf7 (l : List Hash) (n : Nat) : (hb l).take n = hb (l.take n) := by simp [hb, List.map_take]
theorem zll (l : List Hash) (n : Nat) : (hb l).drop n = hb (l.drop n) := by simp [hb, List.map_drop]
theorem z6c (l : List Hash) : zm (hb l) = hr l := by simp [zm, hb, hr, hc]
theorem hb_of : ∀ {l : List (List UInt8)}, H32 l -> ∃ m : List Hash, l = hb m
  | [], _ => ⟨[], rfl⟩
  | x :: l, h => by
    obtain ⟨m, hm⟩ := hb_of (l := l) fun y hy => h y (by simp [hy])
    exact ⟨⟨x, h x (by simp)⟩ :: m, by simp [hb, hm]⟩
@[go_sem] theorem z6 (h : Hash) : (hc h).length = 32 := by rw [hc, zn, h.2]
@[go_sem] theorem zlo (h : Hash) : (hc h).drop 32 = [] := List.drop_of_length_le (by rw [z6]; decide)
@[go_sem] theorem zlp (h : Hash) : (hc h).take 32 = hc h := List.take_of_length_le (by rw [z6]; decide)
@[go_sem] theorem z8f (h : Hash) (l : List AV) : (hc h ++ l).take 32 = hc h := by
  have := z6 h
  rw [List.take_append_of_le_length (by omega), zlp]
@[go_sem] theorem zbg (h : Hash) (l : List AV) : (hc h ++ l).drop 32 = l := by
  have := z6 h
  rw [List.drop_append_of_le_length (by omega), zlo, List.nil_append]
@[go_sem] theorem hc_eq (a b : Hash) : z1y (hc a) (hc b) = decide (a = b) := by
  rw [hc, hc, z6b, Bool.eq_iff_iff]
  simp [Subtype.ext_iff]
@[go_sem] theorem hc_kinds (h : Hash) : (hc h).map z1i = (List.replicate 32 (LK.i .u8)).map some := z42 h.2
@[go_sem] theorem z7 (l : List Hash) : (hr l).length = l.length := by simp [hr]
@[go_sem] theorem hr_take (l : List Hash) (n : Nat) : (hr l).take n = hr (l.take n) := by simp [hr, List.map_take]
@[go_sem] theorem hr_drop (l : List Hash) (n : Nat) : (hr l).drop n = hr (l.drop n) := by simp [hr, List.map_drop]
@[go_sem] theorem hr_set (l : List Hash) (i : Nat) (h : Hash) : (hr l).set i (hc h) = hr (l.set i h) := by simp [hr, List.map_set]
theorem zbk : hr [] = [] := rfl
theorem z8i (h : Hash) (l : List Hash) : hr (h :: l) = hc h :: hr l := rfl
theorem hr_nil_iff {l : List Hash} : hr l = [] ↔ l = [] := by simp [hr]
def zeroH : Hash := ⟨List.replicate 32 0, by simp⟩
def hd (l : List Hash) (i : Nat) : Hash := l.getD i zeroH
@[go_sem] theorem z9w {l : List Hash} {i : Nat} (h : i < l.length) : (hr l)[i]? = some (hc (hd l i)) := by
  simp [hr, hd, List.getElem?_map, List.getElem?_eq_getElem h]
theorem z8g {l : List Hash} {i : Nat} (h : i < l.length) : hd l i = l[i] := by simp [hd, h]
theorem za5 {k : Nat} (h : Hash) : RLs k (hc h) := z25 _
theorem z2t {k : Nat} (l : List Hash) : RLss k (hr l) := by rw [<- z6c]; exact z77 _
theorem zcv (k : Nat) (h : Hash) : shs k (hc h) = hc h := zcu k _
def zx (a b : Hash) : Hash := ⟨z1e a.1 b.1, z3c _ _⟩
def z1b (l : List Hash) : Hash := ⟨zw (hb l), z2h (hb_H l)⟩
def shaH (s : List UInt8) : Hash := ⟨shaS s, zct s⟩
theorem zcd (h : Hash) : z1b [h] = h := rfl
theorem zce {l : List Hash} (h : 2 <= l.length) : z1b l = zx (z1b (l.take (zj l.length))) (z1b (l.drop (zj l.length))) := by
  apply Subtype.ext
  show zw (hb l) = z1e (zw (hb _)) (zw (hb _))
  rw [<- zf7, <- zll]
  have := z78 (l := hb l) (by rw [z39]; exact h)
  rwa [z39] at this
theorem zhq (Y : Store) (a b : Hash) : ACallsTo TC 49 [.agg (hc a), .agg (hc b)] Y (.agg (hc (zx a b))) Y := z1q Y a.1 b.1 a.2 b.2
theorem zaf (Y : Store) (l : List Hash) (x : AV) (hx : RdSl Y 32 (hr l) x) (hl : l.length < 1000000000) : ACallsTo TC 24 [x] Y (.agg (hc (z1b l))) Y :=
  zqp Y (hb l) x (by rw [z6c]; exact hx) (hb_H l) (by rw [z39]; exact hl)
theorem zos (Y : Store) (l : List Hash) (x : AV) (hx : RdSl Y 32 (hr l) x) (hl : l.length < 1000000000) : ACallsTo TC 51 [x] Y (.agg (hc (z1b l))) Y :=
  zot Y (hb l) x (by rw [z6c]; exact hx) (hb_H l) (by rw [z39]; exact hl)
def unb (l : List (List UInt8)) : List Hash := l.filterMap fun x => if h : x.length = 32 then some ⟨x, h⟩ else none
theorem zhw : ∀ {l : List (List UInt8)}, H32 l -> hb (unb l) = l
  | [], _ => rfl
  | x :: l, h => by
    have h1 : x.length = 32 := h x (by simp)
    have ih := zhw (l := l) fun y hy => h y (by simp [hy])
    simp only [unb, List.filterMap_cons, dif_pos h1]
    show x :: hb (unb l) = _
    rw [ih]
theorem zlk {cs : List AV} (h : ShC z5x cs) : ∃ l : Hash, cs = hc l := by
  obtain ⟨l, rfl, hl⟩ := zf5 h
  exact ⟨⟨l, hl⟩, rfl⟩
end Am
end Go.Proofs.YtjgljhbmljgaeaaDoor
end
section
/- Ranges: plain laws: trees side by side, and what is pushed behind them. -/
namespace Go.Proofs.YtjgljhbmljgaeaaDoor
namespace Am
/-- A tree behind others, the last one first. -/
def pushR : Nat -> List Hash -> Hash -> List Hash
  | _, [], h => [h]
  | m, x :: rs, h => if m % 2 = 1 then pushR (m / 2) rs (zx x h) else h :: x :: rs
/-- Leaves behind a range, one by one. -/
def extR : Nat -> List Hash -> List Hash -> List Hash
  | _, rs, [] => rs
  | n, rs, x :: l => extR (n + 1) (pushR n rs x) l
def ofR (l : List Hash) : List Hash := extR 0 [] l
theorem zab (j : Nat) : zj (2 ^ (j + 1)) = 2 ^ j := by
  have : 0 < 2 ^ j := Nat.pow_pos (by decide)
  exact zac (by rw [Nat.pow_succ]; omega) (Nat.le_refl _)
/-- The root of trees. -/
def rootR : List Hash -> Hash
  | [] => shaH []
  | x :: rs => rs.foldl (fun o h => zx h o) x
end Am
end Go.Proofs.YtjgljhbmljgaeaaDoor
end
section
/- Ranges: plain laws: the parts of leaves that stand behind others. -/
namespace Go.Proofs.YtjgljhbmljgaeaaDoor
namespace Am
end Am
end Go.Proofs.YtjgljhbmljgaeaaDoor
end
section
/- Abstract code. (Printed by wip/gen.) -/
set_option maxRecDepth 10000
namespace Go.Proofs.YtjgljhbmljgaeaaDoor
namespace Am



@[go_sem] def qrr0 : List AIns := [
  ⟨some 2,none,.no,.mv (.v .nilsl)⟩]
@[go_sem] def qrr1 : List AIns := [
  ⟨some 3,none,.no,.mv (.t 0)⟩,
  ⟨some 4,none,.no,.bin .eql .slc (.t 3) (.v .nilsl)⟩]
@[go_sem] def qrr2 : List AIns := [
  ⟨some 2,none,.no,.mv (.v .nilsl)⟩]
def qrc3 : ACode := .seq (.reg qrr2) .ret
def qrc4 : ACode := .cond (.t 4) qrc3 .skip
def qrc5 : ACode := .seq (.reg qrr1) qrc4
@[go_sem] def qrr6 : List AIns := [
  ⟨some 5,none,.no,.lit 32 []⟩,
  ⟨some 6,none,.no,.mv (.t 0)⟩,
  ⟨some 7,none,.no,.app 32 (.t 5) (.t 6)⟩,
  ⟨some 2,none,.no,.mv (.t 7)⟩]
def qrc7 : ACode := .seq (.reg qrr6) .ret
def qrc8 : ACode := .seq qrc5 qrc7
def qrc9 : ACode := .seq (.reg qrr0) qrc8
theorem qrok : cFn TC 55 = some (8, [.t 2], qrc9) := by kernel_rfl

end Am
end Go.Proofs.YtjgljhbmljgaeaaDoor
end
section
/- Ranges: contracts: slices.Clone, slices.Equal, Valid; how many leaves the next part has. -/
namespace Go.Proofs.YtjgljhbmljgaeaaDoor
namespace Am
theorem ACallsP.toDown {C : Ctx} {f : FuncId} {args : List AV} {Y Y2 : Store} {v2 : AV} {P : AV -> Store -> Prop} (h : ACallsP C f args Y P)
    (hd : Wf Y.length Y -> ∀ v Y', P v Y' -> DownV Y.length v Y' v2 Y2) : ACallsTo C f args Y v2 Y2 := by
  intro J w cargs hR ha
  rcases h J w cargs hR ha with ⟨h1, h2⟩ | ⟨cv, v, J', Y', w', h1, hp, h2, h3, h4⟩
  · refine .inl ⟨h1, h2.mono ?_⟩
    rintro e w' ⟨cv, v, J', Y', rfl, hp, k1, k2, k3⟩
    obtain ⟨J2, q1, q2, q3⟩ := (hd hR.wf v Y' hp).sound k2 k3 k1 hR.gl (by rw [hR.len]; exact Nat.le_refl _)
    exact ⟨cv, J2, rfl, q1, q2, q3⟩
  · obtain ⟨J2, q1, q2, q3⟩ := (hd hR.wf v Y' hp).sound h3 h4 h2 hR.gl (by rw [hR.len]; exact Nat.le_refl _)
    exact .inr ⟨cv, J2, w', h1, q1, q2, q3⟩
theorem slen {Y : Store} {r : Nat} {x : Option AObj} (h : Y[r]? = some x) : r < Y.length := (List.getElem?_eq_some_iff.1 h).1
/-- All new objects are let go, and read as_ they are. -/
def FrzD (τ news : Store) : DC := z28 τ news [] id (fun _ => true)
theorem DownV.all {τ news : Store} {v v2 : AV} (hw : Wf τ.length τ) (h : DR (FrzD τ news) v2 v) : DownV τ.length v (τ ++ news) v2 τ :=
  ⟨FrzD τ news, rfl, by show DownS τ.length (z28 τ news [] id (fun _ => true)) τ; simpa using z9x (kept := []) (idx := id) (fzl := fun _ => true) (news := news) hw (by simp) (by simp) (by simp) (by simp), h⟩
theorem FrzD.same {τ news : Store} {v : AV} (h : RL τ.length v) : DR (FrzD τ news) v v := DR.refl (z6d _ _ _) v h
theorem FrzD.sl {τ news : Store} {r off : Nat} {lim : Option Nat} {esz : Nat} {o es : AObj} (hk : τ.length <= r) (ho : (τ ++ news)[r]? = some (some o)) (hl : off + es.length <= o.length) (he : (o.drop off).take es.length = es) (hr : RLss τ.length es) :
    DR (FrzD τ news) (.vsl esz es false) (.sl r off es.length lim esz) := by
  simp only [DR, FrzD, z28]
  right
  left
  exact ⟨r, off, lim, o, rfl, by simpa using hk, ho, hl, by simp, by rw [he]; exact DRss.refl (z6d [] id (fun _ => true)) _ hr⟩
theorem drA {D : DC} {a b : List AV} (h : DRs D a b) : DR D (.agg a) (.agg b) := by simp only [DR]; exact ⟨b, rfl, h⟩
theorem drT {D : DC} {a b : List AV} (h : DRs D a b) : DR D (.tup a) (.tup b) := by simp only [DR]; exact ⟨b, rfl, h⟩
theorem OwnN.frz {sz : Nat} {τ news : Store} {v : AV} {es : List (List AV)} (h : OwnN sz τ (τ ++ news) v es) (hr : RLss τ.length es) : DR (FrzD τ news) (z11 sz es) v := by
  by_cases h0 : es = []
  · obtain ⟨n2, _, ⟨rfl, rfl⟩ | ⟨j, h1, _⟩⟩ := h
    · simp [z11, DR]
    · exact absurd h0 h1
  · obtain ⟨r, rfl, hg, hk⟩ := h.sl h0
    unfold z11
    rw [if_neg h0]
    exact FrzD.sl hk hg (by omega) (by simp) hr
/-- Slots, as_ a list. -/
def lkp : List (Nat × AV) -> Env
  | [], _ => .any
  | (a, v) :: l, t => bif t == a then v else lkp l t
@[go_sem] theorem lkp_cons {a t : Nat} {v : AV} {l : List (Nat × AV)} : lkp ((a, v) :: l) t = bif t == a then v else lkp l t := rfl
/-- Own elements, or an empty literal. -/
def OwnE (sz : Nat) (τ Y' : Store) (v : AV) (es : List (List AV)) : Prop := OwnN sz τ Y' v es \/ (es = [] /\ v = .vsl sz [] true /\ ∃ news, Y' = τ ++ news)
theorem OwnE.ext {sz : Nat} {τ Y' : Store} {v : AV} {es : List (List AV)} (h : OwnE sz τ Y' v es) : ∃ news, Y' = τ ++ news := by
  rcases h with h | ⟨_, _, h⟩
  · exact h.ext
  · exact h
theorem OwnE.rd {sz : Nat} {τ Y' : Store} {v : AV} {es : List (List AV)} (h : OwnE sz τ Y' v es) : RdSl Y' sz es v := by
  rcases h with h | ⟨rfl, rfl, _⟩
  · exact h.rd
  · exact .inl (.inr ⟨true, rfl⟩)
theorem OwnE.len {sz : Nat} {τ Y' : Store} {v : AV} {es : List (List AV)} (h : OwnE sz τ Y' v es) : z1k v = some (.int .i64 es.length) := h.rd.len
theorem OwnE.app {sz : Nat} {τ Y' : Store} {v : AV} {es ys : List (List AV)} (h : OwnE sz τ Y' v es) (h0 : ys.length ≠ 0) (hl : es.length + ys.length <= 1073741824) :
    ∃ v' Y'', aApp Y' sz v ys = some (v', Y'') /\ OwnN sz τ Y'' v' (es ++ ys) := by
  rcases h with h | ⟨rfl, rfl, news, rfl⟩
  · exact h.app h0 hl
  · refine ⟨.sl (τ ++ news).length 0 ys.length none sz, (τ ++ news) ++ [some ys], by rw [z7u, if_neg h0, if_pos ⟨rfl, rfl, hl⟩]; simp, news ++ [some ys], by rw [List.append_assoc], .inr ⟨news.length, ?_, by simp, by rw [List.getElem?_append_right (Nat.le_refl _)]; simp⟩⟩
    intro e; exact h0 (by rw [(List.append_eq_nil_iff.1 e).2]; rfl)
theorem RdSl.elems {Y : Store} {sz : Nat} {es : List (List AV)} {x : AV} (h : RdSl Y sz es x) : z23 Y x = some es := by
  rcases h with (⟨rfl, rfl⟩ | ⟨ex, rfl⟩) | ⟨r, off, lim, o, rfl, hg, h1, h2⟩
  · rfl
  · rfl
  · rw [zaa, hg]; simp only; rw [if_pos h1, h2]
set_option maxHeartbeats 4000000 in
theorem zib (Y : Store) (l : List Hash) (x : AV) (hx : RdSl Y 32 (hr l) x) (hl : l.length < 1000000) :
    ACallsP TC 55 [x] Y (fun v Y' => OwnE 32 Y Y' v (hr l) /\ (x = .nilsl ↔ v = .nilsl)) := by
  rcases hx with (⟨rfl, hnil⟩ | ⟨ex, rfl⟩) | ⟨r, off, lim, o, rfl, hg, h1, h2⟩
  · refine ACallsTo.toP (v := .nilsl) (Y' := Y) ?_ ⟨.inl ⟨[], by simp, .inl ⟨hnil, rfl⟩⟩, Iff.rfl⟩
    refine ACallsTo.of_body qrok (by simp) fun hw _ => ?_
    repeat' (first|refine zW.zs ?_|refine zW.zb ?_|refine zW.zc ?_|refine zW.zt rfl ?_|refine zW.zf rfl ?_|(refine zW.zd rfl (fun ht => ?_) (fun ht => ?_)<;>try (exfalso;omega))|((first|refine zW.zr ?_|refine zW.zk ?_|refine zW.ze ?_|refine zW.zq ?_|((first|apply zg0|apply zg1|apply zg2|apply zg3|apply zg4|apply zg5|apply zg6|apply zg7)<;>intro ht));all_goals try simp (disch:=first|omega|(simp only [lens];first|done|omega)) only [go_sem,reduceEqDiff,Nat.reduceBEq,reduceAdd,reduceMul,reduceSub,reduceLeDiff,reduceToNat,reducePow]))
    exact DownV.same hw (zz _ rfl)
  · by_cases h0 : l = []
    · subst h0
      refine ACallsTo.toP (v := .vsl 32 [] true) (Y' := Y) ?_ ⟨.inr ⟨rfl, rfl, [], by simp⟩, by simp⟩
      refine ACallsTo.of_body qrok (by simp) fun hw _ => ?_
      rw [zbk]
      repeat' (first|refine zW.zs ?_|refine zW.zb ?_|refine zW.zc ?_|refine zW.zt rfl ?_|refine zW.zf rfl ?_|(refine zW.zd rfl (fun ht => ?_) (fun ht => ?_)<;>try (exfalso;omega))|((first|refine zW.zr ?_|refine zW.zk ?_|refine zW.ze ?_|refine zW.zq ?_|((first|apply zg0|apply zg1|apply zg2|apply zg3|apply zg4|apply zg5|apply zg6|apply zg7)<;>intro ht));all_goals try simp (disch:=first|omega|(simp only [lens];first|done|omega)) only [go_sem,reduceEqDiff,Nat.reduceBEq,reduceAdd,reduceMul,reduceSub,reduceLeDiff,reduceToNat,reducePow]))
      exact DownV.same hw (zz _ rfl)
    · have hne : ¬ l.length = 0 := fun e => h0 (List.eq_nil_of_length_eq_zero e)
      refine ACallsP.of_keep qrok (by simp) ?_
      repeat' (first|refine zW.zs ?_|refine zW.zb ?_|refine zW.zc ?_|refine zW.zt rfl ?_|refine zW.zf rfl ?_|(refine zW.zd rfl (fun ht => ?_) (fun ht => ?_)<;>try (exfalso;omega))|((first|refine zW.zr ?_|refine zW.zk ?_|refine zW.ze ?_|refine zW.zq ?_|((first|apply zg0|apply zg1|apply zg2|apply zg3|apply zg4|apply zg5|apply zg6|apply zg7)<;>intro ht));all_goals try simp (disch:=first|omega|(simp only [lens];first|done|omega)) only [go_sem,reduceEqDiff,Nat.reduceBEq,reduceAdd,reduceMul,reduceSub,reduceLeDiff,reduceToNat,reducePow, hne, z7u]))
      refine .inl ⟨[some (hr l)], by simp, .inr ⟨0, by rw [Ne, hr_nil_iff]; exact h0, ?_, by simp⟩⟩
      simp [z7]
  · have hrl := z7 l
    by_cases h0 : l = []
    · subst h0
      refine ACallsTo.toP (v := .vsl 32 [] true) (Y' := Y) ?_ ⟨.inr ⟨rfl, rfl, [], by simp⟩, by simp⟩
      refine ACallsTo.of_body qrok (by simp) fun hw _ => ?_
      rw [zbk] at *
      repeat' (first|refine zW.zs ?_|refine zW.zb ?_|refine zW.zc ?_|refine zW.zt rfl ?_|refine zW.zf rfl ?_|(refine zW.zd rfl (fun ht => ?_) (fun ht => ?_)<;>try (exfalso;omega))|((first|refine zW.zr ?_|refine zW.zk ?_|refine zW.ze ?_|refine zW.zq ?_|((first|apply zg0|apply zg1|apply zg2|apply zg3|apply zg4|apply zg5|apply zg6|apply zg7)<;>intro ht));all_goals try simp (disch:=first|omega|(simp only [lens];first|done|omega)) only [go_sem,reduceEqDiff,Nat.reduceBEq,reduceAdd,reduceMul,reduceSub,reduceLeDiff,reduceToNat,reducePow, hg, zaa, h1, h2]))
      exact DownV.same hw (zz _ rfl)
    · have hne : ¬ l.length = 0 := fun e => h0 (List.eq_nil_of_length_eq_zero e)
      rw [hrl] at h1 h2
      refine ACallsP.of_keep qrok (by simp) ?_
      repeat' (first|refine zW.zs ?_|refine zW.zb ?_|refine zW.zc ?_|refine zW.zt rfl ?_|refine zW.zf rfl ?_|(refine zW.zd rfl (fun ht => ?_) (fun ht => ?_)<;>try (exfalso;omega))|((first|refine zW.zr ?_|refine zW.zk ?_|refine zW.ze ?_|refine zW.zq ?_|((first|apply zg0|apply zg1|apply zg2|apply zg3|apply zg4|apply zg5|apply zg6|apply zg7)<;>intro ht));all_goals try simp (disch:=first|omega|(simp only [lens];first|done|omega)) only [go_sem,reduceEqDiff,Nat.reduceBEq,reduceAdd,reduceMul,reduceSub,reduceLeDiff,reduceToNat,reducePow, hg, hne, z7u, zaa, h1, h2]))
      refine .inl ⟨[some (hr l)], by simp, .inr ⟨0, by rw [Ne, hr_nil_iff]; exact h0, ?_, by simp⟩⟩
      simp [z7]
end Am
end Go.Proofs.YtjgljhbmljgaeaaDoor
end
section
/- Ranges: contracts: slices.Equal, Valid, step, push. -/
namespace Go.Proofs.YtjgljhbmljgaeaaDoor
namespace Am
theorem zd9 {l : List Hash} {i : Nat} (h : i < l.length) : l.take (i + 1) = l.take i ++ [hd l i] := by
  rw [z8g h]; exact (List.take_append_getElem h).symm
end Am
end Go.Proofs.YtjgljhbmljgaeaaDoor
end
section
/- Ranges: contracts: push. -/
namespace Go.Proofs.YtjgljhbmljgaeaaDoor
namespace Am
def Ext (Y Y' : Store) : Prop := ∃ news, Y' = Y ++ news
theorem Ext.refl (Y : Store) : Ext Y Y := ⟨[], by simp⟩
theorem Ext.app {Y Y' y : Store} (h : Ext Y Y') : Ext Y (Y' ++ y) := by
  obtain ⟨n, rfl⟩ := h
  exact ⟨n ++ y, by rw [List.append_assoc]⟩
theorem Ext.set {Y Y' : Store} {r : Nat} {x : Option AObj} (h : Ext Y Y') (hr : Y.length <= r) : Ext Y (Y'.set r x) := by
  obtain ⟨n, rfl⟩ := h
  exact ⟨n.set (r - Y.length) x, List.set_append_right _ _ hr⟩
theorem Ext.trans {Y Y' Y'' : Store} (h : Ext Y Y') (h' : Ext Y' Y'') : Ext Y Y'' := by
  obtain ⟨n, rfl⟩ := h
  obtain ⟨m, rfl⟩ := h'
  exact ⟨n ++ m, by rw [List.append_assoc]⟩
theorem Ext.le {Y Y' : Store} (h : Ext Y Y') : Y.length <= Y'.length := by
  obtain ⟨n, rfl⟩ := h; simp
/-- A loop that is left in its first round. -/
theorem zW.once {C : Ctx} {n k : Nat} {Q : AExit -> Env -> Store -> Prop} {O : Env} {Y : Store} {x : ACode} (h : zW C n k x (z29 (fun _ _ => False) Q) O Y) : zW C n k (.loop x) Q O Y :=
  zW.loop (fun _ O' Y' => O' = O /\ Y' = Y) 0 ⟨rfl, rfl⟩ (by
    rintro m _ _ ⟨rfl, rfl⟩
    refine h.mono fun e O Y h => ?_
    cases e
    · exact h.elim
    · exact h
    · exact h)
end Am
end Go.Proofs.YtjgljhbmljgaeaaDoor
end
section
/- Ranges: contracts: Extend, Append, Of. -/
namespace Go.Proofs.YtjgljhbmljgaeaaDoor
namespace Am
/-- Nil if it was nil. -/
def knil (es : List (List AV)) : AV -> AV
  | .nilsl => .nilsl
  | _ => .vsl 32 es false
theorem zfl {es : List (List AV)} {x : AV} (h : x ≠ .nilsl) : knil es x = .vsl 32 es false := by
  cases x <;> first | rfl | exact absurd rfl h
theorem zic (Y : Store) (l : List Hash) (x : AV) (hx : RdSl Y 32 (hr l) x) (hl : l.length < 1000000) :
    ACallsTo TC 55 [x] Y (knil (hr l) x) Y := by
  refine ACallsP.toDown (zib Y l x hx hl) fun hw v Y' h => ?_
  obtain ⟨h, hn⟩ := h
  obtain ⟨y, rfl⟩ := h.ext
  refine DownV.all hw ?_
  by_cases h0 : x = .nilsl
  · rw [hn.1 h0, h0]; simp [knil, DR]
  · have hv : v ≠ .nilsl := fun e => h0 (hn.2 e)
    rw [zfl h0]
    rcases h with h | ⟨h1, rfl, _⟩
    · have h2 := h.frz (z2t l)
      unfold z11 at h2
      split at h2
      · simp only [DR] at h2; exact absurd h2 hv
      · exact h2
    · rw [h1]
      simp only [DR]
      exact .inl ⟨_, _, rfl, by simp, by simp [DRss]⟩
theorem Ext.pure {Y Y' : Store} {v : AV} (hw : Wf Y.length Y) (h : Ext Y Y') (hv : RL Y.length v) : DownV Y.length v Y' v Y := by
  obtain ⟨n, rfl⟩ := h
  exact DownV.pure hw hv
/-- The hashes of a range that was gone on with: nil if it was nil, and nothing came. -/
def zv (x : AV) (first : Bool) (l : List Hash) : AV := if first then knil (hr l) x else .vsl 32 (hr l) false
def rg (n : Int) (z : AV) (e : Int) : AV := .tup [.agg [.int .i64 n, z], .int .i64 e]
attribute [local irreducible] ACallsTo ACallsP
end Am
end Go.Proofs.YtjgljhbmljgaeaaDoor
end
section
/- Rows: numbers, trees. (The laws are printed by wip/rows.py.) -/
namespace Go.Proofs.YtjgljhbmljgaeaaDoor
namespace Am
def zbs : Nat -> List AV := fun n => [.int .i64 n]
def nums (l : List (Nat)) : List (List AV) := l.map zbs
@[go_sem] theorem nums_len (l : List (Nat)) : (nums l).length = l.length := by simp [nums]
@[go_sem] theorem nums_take (l : List (Nat)) (n : Nat) : (nums l).take n = nums (l.take n) := by simp [nums, List.map_take]
@[go_sem] theorem nums_drop (l : List (Nat)) (n : Nat) : (nums l).drop n = nums (l.drop n) := by simp [nums, List.map_drop]
@[go_sem] theorem nums_set (l : List (Nat)) (i : Nat) (x : Nat) : (nums l).set i (zbs x) = nums (l.set i x) := by simp [nums, List.map_set]
def numsD (l : List (Nat)) (i : Nat) : Nat := l.getD i 0
@[go_sem] theorem nums_get {l : List (Nat)} {i : Nat} (h : i < l.length) : (nums l)[i]? = some (zbs (numsD l i)) := by
  simp [nums, numsD, List.getElem?_map, List.getElem?_eq_getElem h]
def trsR : Nat × Hash -> List AV := fun t => .int .i64 t.1 :: hc t.2
def trs (l : List (Nat × Hash)) : List (List AV) := l.map trsR
@[go_sem] theorem trs_len (l : List (Nat × Hash)) : (trs l).length = l.length := by simp [trs]
@[go_sem] theorem trs_take (l : List (Nat × Hash)) (n : Nat) : (trs l).take n = trs (l.take n) := by simp [trs, List.map_take]
@[go_sem] theorem trs_drop (l : List (Nat × Hash)) (n : Nat) : (trs l).drop n = trs (l.drop n) := by simp [trs, List.map_drop]
@[go_sem] theorem trs_set (l : List (Nat × Hash)) (i : Nat) (x : Nat × Hash) : (trs l).set i (trsR x) = trs (l.set i x) := by simp [trs, List.map_set]
def trsD (l : List (Nat × Hash)) (i : Nat) : Nat × Hash := l.getD i (0, zeroH)
@[go_sem] theorem trs_get {l : List (Nat × Hash)} {i : Nat} (h : i < l.length) : (trs l)[i]? = some (trsR (trsD l i)) := by
  simp [trs, trsD, List.getElem?_map, List.getElem?_eq_getElem h]
/-- All that is new is let go; what is read of a slice stays. -/
theorem RdSl.frz {sz : Nat} {τ news : Store} {v : AV} {es : List (List AV)} (h : RdSl (τ ++ news) sz es v) (hn : ∀ r off len lim e, v = .sl r off len lim e -> τ.length <= r) (hr : RLss τ.length es) : ∃ v2, SlV sz es v2 /\ DR (FrzD τ news) v2 v := by
  rcases h with (⟨rfl, rfl⟩ | ⟨ex, rfl⟩) | ⟨r, off, lim, o, rfl, hg, h1, h2⟩
  · exact ⟨.nilsl, .inl ⟨rfl, rfl⟩, by simp [DR]⟩
  · exact ⟨.vsl sz es ex, .inr ⟨ex, rfl⟩, FrzD.same (by simpa only [RL] using hr)⟩
  · exact ⟨.vsl sz es false, .inr ⟨false, rfl⟩, FrzD.sl (hn _ _ _ _ _ rfl) hg h1 h2 hr⟩
theorem Ext.all {Y Y' : Store} {v v2 : AV} (hw : Wf Y.length Y) (he : Ext Y Y') (h : ∀ news, Y' = Y ++ news -> DR (FrzD Y news) v2 v) : DownV Y.length v Y' v2 Y := by
  obtain ⟨news, rfl⟩ := he
  exact DownV.all hw (h news rfl)
/-- Own elements in memory, from the k-th object on. -/
def OwnR (sz k : Nat) (Y' : Store) (v : AV) (es : List (List AV)) : Prop := (es = [] /\ v = .nilsl) \/ ∃ r, k <= r /\ es ≠ [] /\ v = .sl r 0 es.length none sz /\ Y'[r]? = some (some es)
theorem OwnR.nil {sz k : Nat} {Y' : Store} : OwnR sz k Y' .nilsl [] := .inl ⟨rfl, rfl⟩
theorem OwnR.cells {sz k : Nat} {Y' : Store} {v : AV} {es : List (List AV)} (h : OwnR sz k Y' v es) : cellsOf v = some [v] := by
  rcases h with ⟨_, rfl⟩ | ⟨r, _, _, rfl, _⟩ <;> rfl
theorem OwnR.rd {sz k : Nat} {Y' : Store} {v : AV} {es : List (List AV)} (h : OwnR sz k Y' v es) : RdSl Y' sz es v := by
  rcases h with ⟨h, rfl⟩ | ⟨r, _, _, rfl, hg⟩
  · exact .inl (.inl ⟨rfl, h⟩)
  · exact .inr ⟨r, 0, none, es, rfl, hg, by omega, by simp⟩
theorem OwnR.len {sz k : Nat} {Y' : Store} {v : AV} {es : List (List AV)} (h : OwnR sz k Y' v es) : z1k v = some (.int .i64 es.length) := h.rd.len
theorem OwnR.set {sz k q : Nat} {Y' : Store} {v : AV} {es : List (List AV)} {x : Option AObj} (h : OwnR sz k Y' v es) (hq : q < k) : OwnR sz k (Y'.set q x) v es := by
  rcases h with h | ⟨r, h1, h2, h3, h4⟩
  · exact .inl h
  · exact .inr ⟨r, h1, h2, h3, by rw [z18 (by omega)]; exact h4⟩
theorem OwnR.more {sz k : Nat} {Y' y : Store} {v : AV} {es : List (List AV)} (h : OwnR sz k Y' v es) : OwnR sz k (Y' ++ y) v es := by
  rcases h with h | ⟨r, h1, h2, h3, h4⟩
  · exact .inl h
  · exact .inr ⟨r, h1, h2, h3, by rw [gapp (slen h4)]; exact h4⟩
theorem OwnR.app {sz k : Nat} {Y' : Store} {v : AV} {es ys : List (List AV)} (h : OwnR sz k Y' v es) (hk : k <= Y'.length) (h0 : ys.length ≠ 0) (hl : es.length + ys.length <= 1073741824) :
    ∃ v' Y2, aApp Y' sz v ys = some (v', Y2) /\ OwnR sz k Y2 v' (es ++ ys) /\ (∀ q, q < k -> Y2[q]? = Y'[q]?) /\ (∀ Y : Store, Y.length <= k -> Ext Y Y' -> Ext Y Y2) /\ k <= Y2.length := by
  have hne : es ++ ys ≠ [] := fun e => h0 (by rw [(List.append_eq_nil_iff.1 e).2]; rfl)
  rcases h with ⟨rfl, rfl⟩ | ⟨r, h1, h2, rfl, hg⟩
  · refine ⟨.sl Y'.length 0 ys.length none sz, Y' ++ [some ys], by rw [zar, if_neg h0, if_pos (by simpa using hl)], .inr ⟨Y'.length, hk, hne, by simp, by simp⟩, fun q hq => gapp (by omega), fun Y _ he => he.app, by simp; omega⟩
  · have hr := slen hg
    refine ⟨.sl Y'.length 0 (es.length + ys.length) none sz, Y'.set r none ++ [some (es ++ ys)], ?_, .inr ⟨Y'.length, hk, hne, by simp, by rw [z1n (by simp)]; simp⟩, fun q hq => by rw [gapp (by simp; omega), z18 (by omega)], fun Y hs he => (he.set (by omega)).app, by simp; omega⟩
    rw [z9i, if_neg h0, hg]
    simp only
    rw [if_pos ⟨trivial, by omega, by omega⟩, if_neg (by omega), List.drop_zero, List.take_of_length_le (Nat.le_refl _)]
theorem OwnR.frz {sz k : Nat} {τ news : Store} {v : AV} {es : List (List AV)} (h : OwnR sz k (τ ++ news) v es) (hk : τ.length <= k) (hr : RLss τ.length es) : DR (FrzD τ news) (z11 sz es) v := by
  unfold z11
  rcases h with ⟨rfl, rfl⟩ | ⟨r, h1, h2, rfl, hg⟩
  · simp [DR]
  · rw [if_neg h2]
    exact FrzD.sl (by omega) hg (by omega) (by simp) hr
theorem OwnR.fr {sz k : Nat} {τ Y' news : Store} {v : AV} {es : List (List AV)} (h : OwnR sz k Y' v es) (e : Y' = τ ++ news) (hk : τ.length <= k) (hr : RLss τ.length es) : DR (FrzD τ news) (z11 sz es) v := by
  subst e; exact h.frz hk hr
end Am
end Go.Proofs.YtjgljhbmljgaeaaDoor
end
section
/- Ranges: contracts: the reference's open, join, close. -/
namespace Go.Proofs.YtjgljhbmljgaeaaDoor
namespace Am
attribute [local irreducible] ACallsTo ACallsP
theorem OwnN.base {sz : Nat} {τ y Y' : Store} {v : AV} {es : List (List AV)} (h : OwnN sz (τ ++ y) Y' v es) : OwnN sz τ Y' v es := by
  obtain ⟨news, rfl, h⟩ := h
  refine ⟨y ++ news, by rw [List.append_assoc], ?_⟩
  rcases h with h | ⟨j, h0, rfl, hj⟩
  · exact .inl h
  · exact .inr ⟨y.length + j, h0, by rw [List.length_append]; congr 1; omega, by rw [List.getElem?_append_right (by omega), Nat.add_sub_cancel_left]; exact hj⟩
end Am
end Go.Proofs.YtjgljhbmljgaeaaDoor
end
section
/- Ranges: contracts: the reference's Extend. -/
namespace Go.Proofs.YtjgljhbmljgaeaaDoor
namespace Am
attribute [local irreducible] ACallsTo ACallsP
theorem zgp {k sz : Nat} {es : List (List AV)} (h : RLss k es) : RL k (z11 sz es) := by
  unfold z11
  split
  · simp [RL]
  · simpa only [RL] using h
theorem RdSl.rel {Y : Store} {sz : Nat} {es : List (List AV)} {x : AV} (h : RdSl Y sz es x) : z3s Y sz x = some es := by
  rcases h with (⟨rfl, rfl⟩ | ⟨ex, rfl⟩) | ⟨r, off, lim, o, rfl, hg, h1, h2⟩
  · rfl
  · simp [z3s]
  · simp [z3s, zaa, hg, h1, h2]
end Am
end Go.Proofs.YtjgljhbmljgaeaaDoor
end
section
/- Ranges: contracts: Of, Append, Same, the parts, Part. -/
namespace Go.Proofs.YtjgljhbmljgaeaaDoor
namespace Am
attribute [local irreducible] ACallsTo ACallsP
end Am
end Go.Proofs.YtjgljhbmljgaeaaDoor
end
section
/- Ranges: contracts: Part. -/
namespace Go.Proofs.YtjgljhbmljgaeaaDoor
namespace Am
attribute [local irreducible] ACallsTo ACallsP
end Am
end Go.Proofs.YtjgljhbmljgaeaaDoor
end
section
/- Ranges: contracts: the reference's Of, the program's Merge. -/
namespace Go.Proofs.YtjgljhbmljgaeaaDoor
namespace Am
attribute [local irreducible] ACallsTo ACallsP
theorem zcy {sz : Nat} {es : List (List AV)} {z : AV} (h : SlV sz es z) : cellsOf z = some [z] := by
  rcases h with ⟨rfl, _⟩ | ⟨ex, rfl⟩ <;> rfl
end Am
end Go.Proofs.YtjgljhbmljgaeaaDoor
end
section
/- Ranges: the chapter's example. -/
namespace Go.Proofs.YtjgljhbmljgaeaaDoor
namespace Am
theorem zcg (a b : Hash) : z1b [a, b] = zx a b := by
  rw [zce (by simp)]; simp [split2, zcd]
theorem zgs (a b c d : Hash) : z1b [a, b, c, d] = zx (zx a b) (zx c d) := by
  rw [zce (by simp)]; simp [split4, zcg]
attribute [local irreducible] ACallsTo ACallsP
end Am
end Go.Proofs.YtjgljhbmljgaeaaDoor
end
section
/- Ranges: the law RangesPart: its contract. -/
namespace Go.Proofs.YtjgljhbmljgaeaaDoor
namespace Am
attribute [local irreducible] ACallsTo ACallsP
theorem zfe {cs : List AV} (h : ShC (.sl 32 z5x) cs) : ∃ (l : List Hash) (a : AV), cs = [a] /\ SlV 32 (hr l) a /\ l.length <= maxLen := by
  simp only [ShC] at h
  rcases h with rfl | ⟨es, rfl, hl, _, h2⟩
  · exact ⟨[], .nilsl, rfl, .inl ⟨rfl, rfl⟩, Nat.zero_le _⟩
  · obtain ⟨hs, rfl, hH⟩ := zf6 es h2
    obtain ⟨m, rfl⟩ := hb_of hH
    rw [z6c] at *
    exact ⟨m, _, rfl, .inr ⟨false, rfl⟩, by rwa [z7] at hl⟩
end Am
end Go.Proofs.YtjgljhbmljgaeaaDoor
end
section
/- Ranges: the law RangesFull: its contract. -/
namespace Go.Proofs.YtjgljhbmljgaeaaDoor
namespace Am
attribute [local irreducible] ACallsTo ACallsP
end Am
end Go.Proofs.YtjgljhbmljgaeaaDoor
end
section
/- Ranges: the root of a range. -/
namespace Go.Proofs.YtjgljhbmljgaeaaDoor
namespace Am
attribute [local irreducible] ACallsTo ACallsP
end Am
end Go.Proofs.YtjgljhbmljgaeaaDoor
end
section
/- Ranges: the law RangesSame: its contract. -/
namespace Go.Proofs.YtjgljhbmljgaeaaDoor
namespace Am
attribute [local irreducible] ACallsTo ACallsP
end Am
end Go.Proofs.YtjgljhbmljgaeaaDoor
end
section
/- Ranges: the reference's Root and Merge. -/
namespace Go.Proofs.YtjgljhbmljgaeaaDoor
namespace Am
attribute [local irreducible] ACallsTo ACallsP
end Am
end Go.Proofs.YtjgljhbmljgaeaaDoor
end
section
/- Ranges: the reference's Merge. -/
namespace Go.Proofs.YtjgljhbmljgaeaaDoor
namespace Am
attribute [local irreducible] ACallsTo ACallsP
end Am
end Go.Proofs.YtjgljhbmljgaeaaDoor
end
section
/- Ranges: the law RangesTell: its contract. -/
namespace Go.Proofs.YtjgljhbmljgaeaaDoor
namespace Am
attribute [local irreducible] ACallsTo ACallsP
end Am
end Go.Proofs.YtjgljhbmljgaeaaDoor
end
section
/- Proofs: plain laws: a proof that Proof gives is checked; one of another length is not. -/
namespace Go.Proofs.YtjgljhbmljgaeaaDoor
namespace Am
theorem zc1 (j : Nat) : (2 ^ (j + 1) - 1) / 2 = 2 ^ j - 1 /\ (2 ^ (j + 1) - 1) % 2 = 1 := by
  have := Nat.pow_succ (n := 2) (m := j)
  have h2 : 0 < 2 ^ j := Nat.pow_pos (by decide)
  omega
theorem zbm : ∀ (j i last : Nat), i < 2 ^ j -> 2 ^ j <= last -> last < 2 ^ (j + 1) -> lp i last = lp i (2 ^ j - 1) ++ [false]
  | 0, i, last, h1, h2, h3 => by
    simp at h1 h2 h3
    obtain rfl : i = 0 := by omega
    obtain rfl : last = 1 := by omega
    rw [z6e (by decide) (by decide) (by decide), show (1 : Nat) / 2 = 0 from rfl, show 2 ^ 0 - 1 = 0 from rfl, z5y]
    rfl
  | j + 1, i, last, h1, h2, h3 => by
    have e1 := Nat.pow_succ (n := 2) (m := j)
    have e2 := Nat.pow_succ (n := 2) (m := j + 1)
    have hp : 0 < 2 ^ j := Nat.pow_pos (by decide)
    obtain ⟨o1, o2⟩ := zc1 j
    have ih := zbm j (i / 2) (last / 2) (by omega) (by omega) (by omega)
    by_cases h : i % 2 = 1
    · rw [z3i h (by omega), z3i h (by omega), o1, ih]; rfl
    · rw [z6e h (by omega) (by omega), z6e h (by omega) (by omega), o1, ih]; rfl
theorem zfr : ∀ (j i last : Nat), i <= last -> last < 2 ^ j -> lp (2 ^ j + i) (2 ^ j + last) = lp i last ++ [true]
  | 0, i, last, h1, h2 => by
    simp at h2
    subst h2
    obtain rfl : i = 0 := by omega
    rw [show 2 ^ 0 + 0 = 1 from rfl, z3i (by decide) (by decide), show (1 : Nat) / 2 = 0 from rfl, z5y]
    rfl
  | j + 1, i, last, h1, h2 => by
    have e1 := Nat.pow_succ (n := 2) (m := j)
    have hp : 0 < 2 ^ j := Nat.pow_pos (by decide)
    have ih := zfr j (i / 2) (last / 2) (by omega) (by omega)
    have d1 : (2 ^ (j + 1) + i) / 2 = 2 ^ j + i / 2 := by omega
    have d2 : (2 ^ (j + 1) + last) / 2 = 2 ^ j + last / 2 := by omega
    by_cases h : i % 2 = 1
    · rw [z3i (i := 2 ^ (j + 1) + i) (by omega) (by omega), z3i h (by omega), d1, d2, ih]; rfl
    · by_cases he : i = last
      · subst he
        rw [z6x (i := 2 ^ (j + 1) + i) (by omega), z6x h, d1, ih]
      · rw [z6e (i := 2 ^ (j + 1) + i) (by omega) (by omega) (by omega), z6e h (by omega) he, d1, d2, ih]; rfl
def z2y (i last : Nat) : List Bool := lp (st i last).1 (st i last).2
theorem zd3 : ∀ (f i last last' : Nat), i < f -> (st i last).1 = (st i last').1
  | 0, _, _, _, h => by omega
  | f + 1, i, last, last', h => by
    by_cases h1 : i % 2 = 1
    · rw [z63 h1, z63 h1]; exact zd3 f (i / 2) _ _ (by omega)
    · rw [z4a h1, z4a h1]
theorem za1 : ∀ (j i last : Nat), i < 2 ^ j -> 2 ^ j <= last -> last < 2 ^ (j + 1) -> z2y i last = z2y i (2 ^ j - 1) ++ [false]
  | 0, i, last, h1, h2, h3 => by
    have h1' := h1
    simp at h1
    unfold z2y
    rw [z4a (by omega), z4a (by omega)]
    exact zbm 0 i last h1' h2 h3
  | j + 1, i, last, h1, h2, h3 => by
    have e1 := Nat.pow_succ (n := 2) (m := j)
    have e2 := Nat.pow_succ (n := 2) (m := j + 1)
    have hp : 0 < 2 ^ j := Nat.pow_pos (by decide)
    obtain ⟨o1, o2⟩ := zc1 j
    by_cases h : i % 2 = 1
    · have ih := za1 j (i / 2) (last / 2) (by omega) (by omega) (by omega)
      unfold z2y at ih ⊢
      rw [z63 h, z63 h, o1]; exact ih
    · unfold z2y
      rw [z4a h, z4a h]
      exact zbm (j + 1) i last h1 h2 h3
theorem zhf : ∀ (j i last : Nat), i < last -> last < 2 ^ j -> ∃ k, st (2 ^ j + i) (2 ^ j + last) = (2 ^ k + (st i last).1, 2 ^ k + (st i last).2) /\ (st i last).1 <= (st i last).2 /\ (st i last).2 < 2 ^ k
  | 0, i, last, h1, h2 => by simp at h2; omega
  | j + 1, i, last, h1, h2 => by
    have e1 := Nat.pow_succ (n := 2) (m := j)
    have hp : 0 < 2 ^ j := Nat.pow_pos (by decide)
    by_cases h : i % 2 = 1
    · have ih := zhf j (i / 2) (last / 2) (by omega) (by omega)
      rw [z63 h, z63 (i := 2 ^ (j + 1) + i) (by omega), show (2 ^ (j + 1) + i) / 2 = 2 ^ j + i / 2 by omega, show (2 ^ (j + 1) + last) / 2 = 2 ^ j + last / 2 by omega]
      exact ih
    · rw [z4a h, z4a (i := 2 ^ (j + 1) + i) (by omega)]
      exact ⟨j + 1, rfl, by omega, h2⟩
theorem zc0 {j i last : Nat} (h1 : i < last) (h2 : last < 2 ^ j) : z2y (2 ^ j + i) (2 ^ j + last) = z2y i last ++ [true] /\ 0 < (st (2 ^ j + i) (2 ^ j + last)).1 := by
  obtain ⟨k, e, h3, h4⟩ := zhf j i last h1 h2
  unfold z2y
  rw [e]
  have hp : 0 < 2 ^ k := Nat.pow_pos (by decide)
  exact ⟨zfr k _ _ h3 h4, by omega⟩
theorem zd4 : ∀ (j : Nat), st (2 ^ j - 1) (2 ^ j - 1) = (0, 0)
  | 0 => by rw [z4a (by decide)]
  | j + 1 => by
    obtain ⟨o1, o2⟩ := zc1 j
    rw [z63 o2, o1]; exact zd4 j
theorem zcn (t : Bool) (h : List UInt8) : ∀ (p : List Bool) (ps : List (List UInt8)) (a b : List UInt8), run (p ++ [t]) (ps ++ [h]) a b = (run p ps a b).map fun x => if t then (z1e h x.1, z1e h x.2) else (x.1, z1e x.2 h)
  | [], [], a, b => by cases t <;> rfl
  | [], y :: ps, a, b => by
    have : ∀ a b, run [] (ps ++ [h]) a b = none := fun a b => by cases ps <;> rfl
    cases t <;> simp [run, this]
  | x :: p, [], a, b => by
    have : ∀ a b, run (p ++ [t]) [] a b = none := fun a b => by cases p <;> cases t <;> simp [run]
    cases x <;> simp [run, this]
  | x :: p, y :: ps, a, b => by
    have ih := zcn t h p ps
    cases x <;> simp [run, ih]
/-- With the first one given, or the older root. -/
def runB (u : Bool) (p : List Bool) (ps : List (List UInt8)) (o : List UInt8) : Option (List UInt8 × List UInt8) :=
  if u then match ps with
    | [] => none
    | h :: ps => run p ps h h
  else run p ps o o
theorem zk9 (i last : Nat) (o : List UInt8) (ps : List (List UInt8)) : chkG i last o ps = runB (decide (0 < i)) (lp i last) ps o := by
  unfold chkG runB
  by_cases h : 0 < i <;> simp [h] <;> cases ps <;> rfl
theorem za7 (u t : Bool) (h : List UInt8) (p : List Bool) (ps : List (List UInt8)) (o : List UInt8) :
    runB u (p ++ [t]) (ps ++ [h]) o = (runB u p ps o).map fun x => if t then (z1e h x.1, z1e h x.2) else (x.1, z1e x.2 h) := by
  unfold runB
  cases u with
  | false => exact zcn t h p ps o o
  | true =>
    cases ps with
    | nil =>
      have : run (p ++ [t]) [] h h = none := by cases p <;> cases t <;> simp [run]
      simp [this]
    | cons y ps => exact zcn t h p ps y y
theorem zhe {n : Nat} (h : 2 <= n) : ∃ j, zj n = 2 ^ j /\ 2 ^ j < n /\ n <= 2 ^ (j + 1) := by
  obtain ⟨s1, s2, s3⟩ := z5k h
  refine ⟨Nat.log2 (n - 1), ?_, ?_, ?_⟩
  · unfold zj; rw [if_neg (by omega)]
  · have : zj n = 2 ^ Nat.log2 (n - 1) := by unfold zj; rw [if_neg (by omega)]
    omega
  · have : zj n = 2 ^ Nat.log2 (n - 1) := by unfold zj; rw [if_neg (by omega)]
    have e := Nat.pow_succ (n := 2) (m := Nat.log2 (n - 1))
    omega
/-- What Proof gives says the two roots. -/
theorem zbj : ∀ (f : Nat) (l : List (List UInt8)) (m : Nat) (kn : Bool) (o : List UInt8), l.length < f -> 0 < m -> m <= l.length -> (m < l.length \/ ∃ j, l.length = 2 ^ j) -> (kn = true -> o = zw (l.take m)) ->
    runB (!kn || decide (0 < (st (m - 1) (l.length - 1)).1)) (z2y (m - 1) (l.length - 1)) (subS l m kn) o = some (zw (l.take m), zw l)
  | 0, _, _, _, _, h, _, _, _, _ => by omega
  | f + 1, l, m, kn, o, hf, h0, hm, hc, ho => by
    by_cases h1 : m = l.length
    · obtain ⟨j, hj⟩ := hc.resolve_left (by omega)
      subst h1
      have e : st (l.length - 1) (l.length - 1) = (0, 0) := by rw [hj]; exact zd4 j
      unfold z2y
      rw [e, zhk, List.take_of_length_le (Nat.le_refl _)]
      simp only [z5y]
      rw [List.take_of_length_le (Nat.le_refl _)] at ho
      cases kn with
      | true => rw [ho rfl]; rfl
      | false => rfl
    · obtain ⟨j, hk, k1, k2⟩ := zhe (n := l.length) (by omega)
      have e2 := Nat.pow_succ (n := 2) (m := j)
      have hp : 0 < 2 ^ j := Nat.pow_pos (by decide)
      have hR : zw l = z1e (zw (l.take (2 ^ j))) (zw (l.drop (2 ^ j))) := by rw [z78 (by omega), hk]
      by_cases h2 : m <= 2 ^ j
      · have hs := zhl (l := l) (m := m) (kn := kn) h0 (by omega) (by rw [hk]; exact h2)
        rw [hk] at hs
        have hl : (l.take (2 ^ j)).length = 2 ^ j := by rw [List.length_take]; omega
        have et : (l.take (2 ^ j)).take m = l.take m := by rw [List.take_take, Nat.min_eq_left h2]
        have ih := zbj f (l.take (2 ^ j)) m kn o (by omega) h0 (by omega) (.inr ⟨j, hl⟩) (by rw [et]; exact ho)
        rw [hl, et] at ih
        rw [hs, za1 j (m - 1) (l.length - 1) (by omega) (by omega) (by omega), za7, zd3 m (m - 1) (l.length - 1) (2 ^ j - 1) (by omega), ih, hR]
        rfl
      · have hs := zhm (l := l) (m := m) (kn := kn) (by omega) (by rw [hk]; exact h2)
        rw [hk] at hs
        have hl : (l.drop (2 ^ j)).length = l.length - 2 ^ j := by rw [List.length_drop]
        have ih := zbj f (l.drop (2 ^ j)) (m - 2 ^ j) false o (by omega) (by omega) (by omega) (.inl (by omega)) (by intro h; cases h)
        rw [hl] at ih
        obtain ⟨p1, p2⟩ := zc0 (j := j) (i := m - 2 ^ j - 1) (last := l.length - 2 ^ j - 1) (by omega) (by omega)
        rw [show 2 ^ j + (m - 2 ^ j - 1) = m - 1 by omega, show 2 ^ j + (l.length - 2 ^ j - 1) = l.length - 1 by omega] at p1 p2
        have hRm : zw (l.take m) = z1e (zw (l.take (2 ^ j))) (zw ((l.drop (2 ^ j)).take (m - 2 ^ j))) := by
          have hlm : (l.take m).length = m := by rw [List.length_take]; omega
          rw [z78 (by omega), hlm, zac (n := m) (j := j) (by omega) (by omega), List.take_take, Nat.min_eq_left (by omega), List.drop_take]
        rw [hs, p1, za7, decide_eq_true p2, Bool.or_true]
        simp only [Bool.not_false, Bool.true_or] at ih
        rw [ih, hR, hRm]
        rfl
theorem zen (i last : Nat) (o : List UInt8) (ps : List (List UInt8)) : chkS i last o ps = runB (decide (0 < (st i last).1)) (z2y i last) ps o := zk9 _ _ _ _
theorem zlx {l : List (List UInt8)} {m : Nat} (hm : m <= l.length) (hl : l.length <= 4096) : chkI m l.length (zw (l.take m)) (zw l) (z22 l m) = 0 := by
  unfold chkI
  rw [if_neg (by omega)]
  by_cases h0 : m = 0
  · subst h0
    rw [if_pos (show ((0 : Nat) : Int) = 0 from rfl), if_pos]
    refine ⟨by unfold z22; rw [if_neg (by simp)], by simp, ?_⟩
    cases l with
    | nil => exact .inr rfl
    | cons a l => exact .inl (by simp only [List.length_cons]; omega)
  · rw [if_neg (by omega)]
    by_cases h1 : m = l.length
    · subst h1
      rw [if_pos rfl, if_pos]
      exact ⟨by unfold z22; rw [if_neg (by omega)], by rw [List.take_of_length_le (Nat.le_refl _)]⟩
    · rw [if_neg (by omega)]
      have e : z22 l m = subS l m true := by unfold z22; rw [if_pos (by omega)]; rfl
      have := zbj (l.length + 1) l m true (zw (l.take m)) (by omega) (by omega) hm (.inl (by omega)) (fun _ => rfl)
      simp only [Bool.not_true, Bool.false_or] at this
      rw [e, Int.toNat_natCast, Int.toNat_natCast, zen, this]
      simp [fitI]
end Am
end Go.Proofs.YtjgljhbmljgaeaaDoor
end
section
/- Proofs: the law ProofsBack: its contract. -/
namespace Go.Proofs.YtjgljhbmljgaeaaDoor
namespace Am
end Am
end Go.Proofs.YtjgljhbmljgaeaaDoor
end
section
/- Proofs: plain laws: what the reference says of a proof is what the program's loop says. -/
namespace Go.Proofs.YtjgljhbmljgaeaaDoor
namespace Am
def z5i : Nat -> Nat -> Nat -> Bool -> List UInt8 -> List (List UInt8) -> List UInt8 × List UInt8 × Bool
  | 0, _, _, _, o, _ => (o, o, false)
  | f + 1, m, n, kn, o, ps =>
    if m = n then (if kn then (o, o, ps.isEmpty) else match ps with
      | [x] => (x, x, true)
      | _ => (o, o, false))
    else match ps.getLast? with
      | none => (o, o, false)
      | some last =>
        if m <= zj n then (let r := z5i f m (zj n) kn o ps.dropLast; (r.1, z1e r.2.1 last, r.2.2))
        else (let r := z5i f (m - zj n) (n - zj n) false o ps.dropLast; (z1e last r.1, z1e last r.2.1, r.2.2))
def okO (r : List UInt8 × List UInt8 × Bool) : Option (List UInt8 × List UInt8) := if r.2.2 then some (r.1, r.2.1) else none
theorem zgt {u : Bool} {p : List Bool} {t : Bool} {o : List UInt8} : runB u (p ++ [t]) [] o = none := by
  cases u with
  | true => rfl
  | false =>
    show run (p ++ [t]) [] o o = none
    cases p <;> cases t <;> simp [run]
theorem zcp : ∀ (f m n : Nat) (kn : Bool) (o : List UInt8) (ps : List (List UInt8)), n < f -> 0 < m -> m <= n -> (m < n \/ ∃ j, n = 2 ^ j) ->
    okO (z5i f m n kn o ps) = runB (!kn || decide (0 < (st (m - 1) (n - 1)).1)) (z2y (m - 1) (n - 1)) ps o
  | 0, _, _, _, _, _, h, _, _, _ => by omega
  | f + 1, m, n, kn, o, ps, hf, h0, hm, hc => by
    by_cases h1 : m = n
    · obtain ⟨j, hj⟩ := hc.resolve_left (by omega)
      subst h1
      have e : st (m - 1) (m - 1) = (0, 0) := by rw [hj]; exact zd4 j
      unfold z2y
      simp only [z5i, if_true, e, z5y]
      cases kn with
      | true => cases ps <;> rfl
      | false =>
        match ps with
        | [] => rfl
        | [x] => rfl
        | x :: y :: l => rfl
    · obtain ⟨j, hk, k1, k2⟩ := zhe (n := n) (by omega)
      have e2 := Nat.pow_succ (n := 2) (m := j)
      have hp : 0 < 2 ^ j := Nat.pow_pos (by decide)
      simp only [z5i, if_neg h1, hk]
      rcases List.eq_nil_or_concat ps with rfl | ⟨rest, last, rfl⟩
      · by_cases h2 : m <= 2 ^ j
        · rw [za1 j (m - 1) (n - 1) (by omega) (by omega) (by omega), zgt]; rfl
        · obtain ⟨p1, p2⟩ := zc0 (j := j) (i := m - 2 ^ j - 1) (last := n - 2 ^ j - 1) (by omega) (by omega)
          rw [show 2 ^ j + (m - 2 ^ j - 1) = m - 1 by omega, show 2 ^ j + (n - 2 ^ j - 1) = n - 1 by omega] at p1 p2
          rw [p1, zgt]; rfl
      · rw [List.concat_eq_append, List.getLast?_concat, List.dropLast_concat]
        simp only []
        by_cases h2 : m <= 2 ^ j
        · have ih := zcp f m (2 ^ j) kn o rest (by omega) h0 h2 (.inr ⟨j, rfl⟩)
          simp only [if_pos h2]
          rw [za1 j (m - 1) (n - 1) (by omega) (by omega) (by omega), za7, zd3 m (m - 1) (n - 1) (2 ^ j - 1) (by omega), <- ih]
          unfold okO
          cases (z5i f m (2 ^ j) kn o rest).2.2 <;> rfl
        · have ih := zcp f (m - 2 ^ j) (n - 2 ^ j) false o rest (by omega) (by omega) (by omega) (.inl (by omega))
          obtain ⟨p1, p2⟩ := zc0 (j := j) (i := m - 2 ^ j - 1) (last := n - 2 ^ j - 1) (by omega) (by omega)
          rw [show 2 ^ j + (m - 2 ^ j - 1) = m - 1 by omega, show 2 ^ j + (n - 2 ^ j - 1) = n - 1 by omega] at p1 p2
          simp only [if_neg h2]
          simp only [Bool.not_false, Bool.true_or] at ih
          rw [p1, za7, decide_eq_true p2, Bool.or_true, <- ih]
          unfold okO
          cases (z5i f (m - 2 ^ j) (n - 2 ^ j) false o rest).2.2 <;> rfl
end Am
end Go.Proofs.YtjgljhbmljgaeaaDoor
end
section
/- Proofs: contract: the reference's says. -/
namespace Go.Proofs.YtjgljhbmljgaeaaDoor
namespace Am
def z47 : Nat -> Nat -> Nat -> Bool -> Hash -> List Hash -> Hash × Hash × Bool
  | 0, _, _, _, o, _ => (o, o, false)
  | f + 1, m, n, kn, o, ps =>
    if m = n then (if kn then (o, o, ps.isEmpty) else match ps with
      | [x] => (x, x, true)
      | _ => (o, o, false))
    else match ps.getLast? with
      | none => (o, o, false)
      | some last =>
        if m <= zj n then (let r := z47 f m (zj n) kn o ps.dropLast; (r.1, zx r.2.1 last, r.2.2))
        else (let r := z47 f (m - zj n) (n - zj n) false o ps.dropLast; (zx last r.1, zx last r.2.1, r.2.2))
theorem zln (l : List Hash) : (hb l).getLast? = l.getLast?.map (·.1) := List.getLast?_map ..
theorem zlm (l : List Hash) : (hb l).dropLast = hb l.dropLast := by simp [hb]
theorem zco : ∀ (f m n : Nat) (kn : Bool) (o : Hash) (ps : List Hash), z5i f m n kn o.1 (hb ps) = ((z47 f m n kn o ps).1.1, (z47 f m n kn o ps).2.1.1, (z47 f m n kn o ps).2.2)
  | 0, _, _, _, _, _ => rfl
  | f + 1, m, n, kn, o, ps => by
    simp only [z5i, z47]
    by_cases h1 : m = n
    · simp only [if_pos h1]
      cases kn with
      | true => cases ps <;> rfl
      | false =>
        match ps with
        | [] => rfl
        | [x] => rfl
        | x :: y :: l => rfl
    · simp only [if_neg h1]
      rw [zln, zlm]
      cases hl : ps.getLast? with
      | none => rfl
      | some last =>
        simp only [Option.map_some]
        by_cases h2 : m <= zj n
        · simp only [if_pos h2]
          rw [zco f]; rfl
        · simp only [if_neg h2]
          rw [zco f]; rfl
end Am
end Go.Proofs.YtjgljhbmljgaeaaDoor
end
section
/- Proofs: contract: the reference's Check. -/
namespace Go.Proofs.YtjgljhbmljgaeaaDoor
namespace Am
def chkH (m n : Int) (o nw : Hash) (ps : List Hash) : Int := chkI m n o.1 nw.1 (hb ps)
theorem zkb {m n : Nat} {o nw : Hash} {ps : List Hash} (h0 : 0 < m) (h1 : m < n) (h2 : n <= 4096) :
    chkH m n o nw ps = if (z47 (n + 1) m n true o ps).2.2 = true /\ (z47 (n + 1) m n true o ps).1 = o /\ (z47 (n + 1) m n true o ps).2.1 = nw then 0 else 80 := by
  have e := zcp (n + 1) m n true o.1 (hb ps) (by omega) h0 (by omega) (.inl h1)
  rw [zco, Bool.not_true, Bool.false_or, <- zen] at e
  unfold chkH chkI
  rw [if_neg (by omega), if_neg (by omega), if_neg (by omega), Int.toNat_natCast, Int.toNat_natCast, <- e]
  generalize z47 (n + 1) m n true o ps = r
  obtain ⟨a, b, t⟩ := r
  cases t with
  | false => simp [okO, fitI]
  | true => simp [okO, fitI, Subtype.ext_iff]
end Am
end Go.Proofs.YtjgljhbmljgaeaaDoor
end
section
/- Proofs: the law ProofsCheck: its contract. -/
namespace Go.Proofs.YtjgljhbmljgaeaaDoor
namespace Am
theorem zgc (Y : Store) (m n : Int) (o nw : Hash) (x : AV) (ps : List Hash) (hx : RdSl Y 32 (hr ps) x) (hl : ps.length < 1000000) :
    ACallsTo TC 35 [.int .i64 m, .int .i64 n, .agg (hc o), .agg (hc nw), x] Y (.int .i64 (chkH m n o nw ps)) Y :=
  zi6 Y m n o.1 nw.1 x (hb ps) (by rw [z6c]; exact hx) (hb_H ps) o.2 nw.2 (by rw [z39]; exact hl)
def z2q (l : List Hash) (m : Int) : List Hash := unb (z22 (hb l) m)
theorem zc2 (l : List Hash) (m : Int) : hb (z2q l m) = z22 (hb l) m := zhw (zoc (hb_H l))
theorem zob (l : List Hash) (m : Int) : (z2q l m).length <= l.length + 1 := by
  have := zod (m := m) (hb_H l)
  rwa [<- zc2, z39, z39] at this
theorem zin (Y : Store) (l : List Hash) (x : AV) (m : Int) (hx : SlV 32 (hr l) x) (hl : l.length < 1000000) :
    ACallsTo TC 26 [x, .int .i64 m] Y (.tup [z11 32 (hr (z2q l m)), .int .i64 (z3k (hb l) m)]) Y := by
  refine ACallsP.toDown (zim Y (hb l) x m (by rw [z6c]; exact hx) (hb_H l) (by rw [z39]; exact hl)) fun hw v Y' h => ?_
  obtain ⟨v2, rfl, h⟩ := h
  rw [<- zc2, z6c] at h
  obtain ⟨y, rfl⟩ := h.ext
  exact DownV.all hw (drT (drsc (h.frz (z2t _)) (drs1 (FrzD.same (by simp [RL])))))
attribute [local irreducible] ACallsTo ACallsP
end Am
end Go.Proofs.YtjgljhbmljgaeaaDoor
end
section
/- Abstract code. (Printed by wip/gen.) -/
set_option maxRecDepth 10000
namespace Go.Proofs.YtjgljhbmljgaeaaDoor
namespace Am



@[go_sem] def qsr0 : List AIns := [
  ⟨some 2,none,.no,.alloc zZ0⟩,
  ⟨some 3,none,.no,.mv (.v (.str []))⟩,
  ⟨some 4,none,.no,.mv (.v (.bool false))⟩]
@[go_sem] def qsr1 : List AIns := [
  ⟨some 7,none,.no,.mv (.t 0)⟩,
  ⟨some 8,none,.no,.call (.v (.fn 93 [])) [(.t 7), (.v (.int .u64 32))]⟩,
  ⟨some 6,none,.no,.mv (.t 8)⟩,
  ⟨some 9,none,.no,.ext 0 (.t 6)⟩,
  ⟨some 10,none,.no,.ext 1 (.t 6)⟩,
  ⟨some 11,none,.no,.ext 2 (.t 6)⟩,
  ⟨some 5,none,.no,.mv (.t 9)⟩,
  ⟨some 3,none,.no,.mv (.t 10)⟩,
  ⟨some 4,none,.no,.mv (.t 11)⟩]
@[go_sem] def qsr2 : List AIns := [
  ⟨some 12,none,.no,.slice (.arr 32 1) (.t 2) none none none⟩,
  ⟨some 13,none,.no,.mv (.t 5)⟩,
  ⟨some 14,none,.no,.copy 1 (.t 12) (.t 13)⟩]
@[go_sem] def qsr3 : List AIns := [
  ⟨some 15,none,.no,.load true 32 (.t 2)⟩,
  ⟨some 16,none,.no,.mv (.t 3)⟩,
  ⟨some 17,none,.no,.mv (.t 4)⟩,
  ⟨none,none,.no,.store 32 (.t 2) (.t 15)⟩,
  ⟨some 3,none,.no,.mv (.t 16)⟩,
  ⟨some 4,none,.no,.mv (.t 17)⟩]
def qsc4 : ACode := .seq (.reg qsr3) .ret
def qsc5 : ACode := .seq (.reg qsr2) qsc4
def qsc6 : ACode := .seq (.reg qsr1) qsc5
def qsc7 : ACode := .seq (.reg qsr0) qsc6
theorem qsok : cFn TC 84 = some (18, [.c 2 true 32, .t 3, .t 4], qsc7) := by kernel_rfl

@[go_sem] def qtr0 : List AIns := [
  ⟨some 2,none,.no,.mv (.v (.str []))⟩]
@[go_sem] def qtr1 : List AIns := [
  ⟨some 4,none,.no,.mv (.t 0)⟩,
  ⟨some 5,none,.no,.bin .rem .none (.t 4) (.v (.int .u64 128))⟩,
  ⟨some 6,none,.no,.conv (.int .u8) (.t 5)⟩,
  ⟨some 7,none,.no,.lit 1 [(.t 6)]⟩,
  ⟨some 3,none,.no,.mv (.t 7)⟩]
@[go_sem] def qtr2 : List AIns := [
  ⟨some 8,none,.no,.mv (.t 0)⟩,
  ⟨some 9,none,.no,.bin .quo .none (.t 8) (.v (.int .u64 128))⟩,
  ⟨some 0,none,.no,.mv (.t 9)⟩]
@[go_sem] def qtr3 : List AIns := [
  ⟨some 10,none,.no,.mv (.t 0)⟩,
  ⟨some 11,none,.no,.bin .gtr .none (.t 10) (.v (.int .u64 0))⟩]
def qtc4 : ACode := .cond (.t 11) .skip (.exit 0)
def qtc5 : ACode := .seq (.reg qtr3) qtc4
@[go_sem] def qtr6 : List AIns := [
  ⟨some 14,none,.no,.mv (.t 0)⟩,
  ⟨some 15,none,.no,.bin .rem .none (.t 14) (.v (.int .u64 128))⟩,
  ⟨some 16,none,.no,.conv (.int .u8) (.t 15)⟩,
  ⟨some 17,none,.no,.bin .or .none (.t 16) (.v (.int .u8 128))⟩,
  ⟨some 18,none,.no,.lit 1 [(.t 17)]⟩,
  ⟨some 19,none,.no,.mv (.t 3)⟩,
  ⟨some 20,none,.no,.appB (.t 18) (.t 19)⟩,
  ⟨some 3,none,.no,.mv (.t 20)⟩]
@[go_sem] def qtr7 : List AIns := [
  ⟨some 12,none,.no,.mv (.t 0)⟩,
  ⟨some 13,none,.no,.bin .quo .none (.t 12) (.v (.int .u64 128))⟩,
  ⟨some 0,none,.no,.mv (.t 13)⟩]
def qtc8 : ACode := .seq (.block 1 (.reg qtr6)) (.reg qtr7)
def qtc9 : ACode := .seq qtc5 qtc8
def qtc10 : ACode := .loop qtc9
def qtc11 : ACode := .block 0 qtc10
def qtc12 : ACode := .seq (.reg qtr2) qtc11
@[go_sem] def qtr13 : List AIns := [
  ⟨some 21,none,.no,.mv (.t 3)⟩,
  ⟨some 22,none,.no,.conv .str (.t 21)⟩,
  ⟨some 2,none,.no,.mv (.t 22)⟩]
def qtc14 : ACode := .seq (.reg qtr13) .ret
def qtc15 : ACode := .seq qtc12 qtc14
def qtc16 : ACode := .seq (.reg qtr1) qtc15
def qtc17 : ACode := .seq (.reg qtr0) qtc16
theorem qtok : cFn TC 103 = some (23, [.t 2], qtc17) := by kernel_rfl

@[go_sem] def qur0 : List AIns := [
  ⟨some 2,none,.no,.mv (.v (.str []))⟩]
@[go_sem] def qur1 : List AIns := [
  ⟨some 3,none,.no,.mv (.t 0)⟩,
  ⟨some 4,none,.no,.lenStr (.t 3)⟩,
  ⟨some 5,none,.no,.conv (.int .u64) (.t 4)⟩,
  ⟨some 6,none,.no,.call (.v (.fn 103 [])) [(.t 5)]⟩,
  ⟨some 7,none,.no,.mv (.t 0)⟩,
  ⟨some 8,none,.no,.bin .add .none (.t 6) (.t 7)⟩,
  ⟨some 2,none,.no,.mv (.t 8)⟩]
def quc2 : ACode := .seq (.reg qur1) .ret
def quc3 : ACode := .seq (.reg qur0) quc2
theorem quok : cFn TC 92 = some (9, [.t 2], quc3) := by kernel_rfl

@[go_sem] def qvr0 : List AIns := [
  ⟨some 4,none,.no,.mv (.v (.str []))⟩,
  ⟨some 5,none,.no,.mv (.v (.str []))⟩,
  ⟨some 6,none,.no,.mv (.v (.bool false))⟩]
@[go_sem] def qvr1 : List AIns := [
  ⟨some 7,none,.no,.mv (.t 1)⟩,
  ⟨some 8,none,.no,.mv (.t 0)⟩,
  ⟨some 9,none,.no,.lenStr (.t 8)⟩,
  ⟨some 10,none,.no,.conv (.int .u64) (.t 9)⟩,
  ⟨some 11,none,.no,.bin .gtr .none (.t 7) (.t 10)⟩]
@[go_sem] def qvr2 : List AIns := [
  ⟨some 4,none,.no,.mv (.v (.str []))⟩,
  ⟨some 5,none,.no,.mv (.v (.str []))⟩,
  ⟨some 6,none,.no,.mv (.v (.bool false))⟩]
def qvc3 : ACode := .seq (.reg qvr2) .ret
def qvc4 : ACode := .cond (.t 11) qvc3 .skip
def qvc5 : ACode := .seq (.reg qvr1) qvc4
@[go_sem] def qvr6 : List AIns := [
  ⟨some 12,none,.no,.mv (.t 0)⟩,
  ⟨some 13,none,.no,.mv (.t 1)⟩,
  ⟨some 14,none,.no,.slice .str (.t 12) none (some (.t 13)) none⟩,
  ⟨some 15,none,.no,.mv (.t 0)⟩,
  ⟨some 16,none,.no,.mv (.t 1)⟩,
  ⟨some 17,none,.no,.slice .str (.t 15) (some (.t 16)) none none⟩,
  ⟨some 4,none,.no,.mv (.t 14)⟩,
  ⟨some 5,none,.no,.mv (.t 17)⟩,
  ⟨some 6,none,.no,.mv (.v (.bool true))⟩]
def qvc7 : ACode := .seq (.reg qvr6) .ret
def qvc8 : ACode := .seq qvc5 qvc7
def qvc9 : ACode := .seq (.reg qvr0) qvc8
theorem qvok : cFn TC 93 = some (18, [.t 4, .t 5, .t 6], qvc9) := by kernel_rfl

end Am
end Go.Proofs.YtjgljhbmljgaeaaDoor
end
section
/- Codec: plain laws: numbers as_ bytes, and back. -/
namespace Go.Proofs.YtjgljhbmljgaeaaDoor
namespace Am
def u8 (n : Nat) : UInt8 := UInt8.ofNat n
theorem zht {n : Nat} (h : n < 256) : (u8 n).toNat = n := by unfold u8; rw [UInt8.toNat_ofNat']; omega
/-- Bytes behind which there are more. -/
def z3x : Nat -> Nat -> List UInt8
  | 0, _ => []
  | f + 1, n => if n < 128 then [u8 (n + 128)] else z3x f (n / 128) ++ [u8 (n % 128 + 128)]
theorem ze0 (f n : Nat) : z3x (f + 1) n = if n < 128 then [u8 (n + 128)] else z3x f (n / 128) ++ [u8 (n % 128 + 128)] := rfl
theorem zdz : ∀ (f g n : Nat), n < 128 ^ f -> n < 128 ^ g -> 0 < f -> 0 < g -> z3x f n = z3x g n
  | 0, _, _, _, _, h, _ => by omega
  | _ + 1, 0, _, _, _, _, h => by omega
  | f + 1, g + 1, n, h, h', _, _ => by
    simp only [z3x]
    by_cases h1 : n < 128
    · rw [if_pos h1, if_pos h1]
    · rw [if_neg h1, if_neg h1]
      rw [Nat.pow_succ] at h h'
      have hf : 0 < f := by
        rcases Nat.eq_zero_or_pos f with h0 | h0
        · subst h0; simp at h; omega
        · exact h0
      have hg : 0 < g := by
        rcases Nat.eq_zero_or_pos g with h0 | h0
        · subst h0; simp at h'; omega
        · exact h0
      rw [zdz f g (n / 128) (by omega) (by omega) hf hg]
/-- A number's bytes. -/
def numS (n : Nat) : List UInt8 := if n < 128 then [u8 n] else z3x 10 (n / 128) ++ [u8 (n % 128)]
end Am
end Go.Proofs.YtjgljhbmljgaeaaDoor
end
section
/- Codec: contracts: numbers. -/
namespace Go.Proofs.YtjgljhbmljgaeaaDoor
namespace Am
attribute [local irreducible] ACallsTo ACallsP
theorem or128 {n : Nat} (h : n < 128) : n ||| 128 = n + 128 := by
  have := Nat.two_pow_add_eq_or_of_lt (i := 7) (b := n) h 1
  simp at this
  rw [Nat.or_comm, <- this, Nat.add_comm]
theorem zjp (b : UInt8) (s : List UInt8) : zh (b :: s) = [.int .u8 b.toNat] :: zh s := by simp [zh, B8]
/-- Digits ahead of others. -/
def preF (m : Nat) : List UInt8 := if m = 0 then [] else z3x 10 m
theorem zoa {m : Nat} (h : 0 < m) (h2 : m < 18446744073709551616) : preF m = preF (m / 128) ++ [u8 (m % 128 + 128)] := by
  unfold preF
  rw [if_neg (by omega), show (10 : Nat) = 9 + 1 from rfl, ze0]
  by_cases h1 : m < 128
  · rw [if_pos h1, if_pos (by omega), show m % 128 + 128 = m + 128 by omega]; rfl
  · rw [if_neg h1, if_neg (by omega), zdz 9 10 (m / 128) (by omega) (by omega) (by decide) (by decide)]
theorem zn7 (n : Nat) : numS n = preF (n / 128) ++ [u8 (n % 128)] := by
  unfold numS preF
  by_cases h1 : n < 128
  · rw [if_pos h1, if_pos (by omega), show n % 128 = n by omega]; rfl
  · rw [if_neg h1, if_neg (by omega)]
set_option maxHeartbeats 4000000 in
theorem zkf (Y : Store) (n : Nat) (h : n < 18446744073709551616) : ACallsTo TC 103 [.int .u64 n] Y (.str (numS n)) Y := by
  refine ACallsTo.of_body qtok (by simp) fun hw _ => ?_
  have hb : [[AV.int .u8 ((n : Int) % 128)]] = zh [u8 (n % 128)] := by
    have := zht (n := n % 128) (by omega)
    simp [zh, B8, this]
  have hd : (n : Int) / 128 = ((n / 128 : Nat) : Int) := by simp
  have hn := zn7 n
  generalize u8 (n % 128) = c0 at *
  repeat' (first|refine zW.zs ?_|refine zW.zb ?_|refine zW.zc ?_|refine zW.zt rfl ?_|refine zW.zf rfl ?_|(refine zW.zd rfl (fun ht => ?_) (fun ht => ?_)<;>try (exfalso;omega))|((first|refine zW.zr ?_|refine zW.zk ?_|refine zW.ze ?_|refine zW.zq ?_|((first|apply zg0|apply zg1|apply zg2|apply zg3|apply zg4|apply zg5|apply zg6|apply zg7)<;>intro ht));all_goals try simp (disch:=first|omega|(simp only [lens,z6,z7,List.length_reverse,z13];first|done|omega)) only [go_sem,reduceEqDiff,Nat.reduceBEq,reduceAdd,reduceMul,reduceSub,reduceLeDiff,reduceToNat,reducePow, hb, hd]))
  refine zW.loop (fun k O Y' => ∃ (m : Nat) (b : List UInt8) (v : AV), m < 128 ^ k /\ m < 18446744073709551616 /\ preF m ++ b = numS n /\ 0 < b.length /\ b.length + k <= 12 /\ Ext Y Y' /\ (v = .vsl 1 (zh b) true \/ ∃ r, Y.length <= r /\ v = .sl r 0 b.length none 1 /\ Y'[r]? = some (some (zh b))) /\ O 0 = .int .u64 m /\ O 3 = v) 10 ?_ ?_
  · exact ⟨n / 128, [c0], _, by omega, by omega, hn.symm, by simp, by simp, Ext.refl _, .inl rfl, by simp (disch:=first|omega|(simp only [lens,z6,z7,List.length_reverse,z13];first|done|omega)) only [go_sem,reduceEqDiff,Nat.reduceBEq,reduceAdd,reduceMul,reduceSub,reduceLeDiff,reduceToNat,reducePow], by simp (disch:=first|omega|(simp only [lens,z6,z7,List.length_reverse,z13];first|done|omega)) only [go_sem,reduceEqDiff,Nat.reduceBEq,reduceAdd,reduceMul,reduceSub,reduceLeDiff,reduceToNat,reducePow, hb]⟩
  · rintro k O Y' ⟨m, b, v, hmk, hm, hmb, hb0, hbk, he, hv, q0, q3⟩
    by_cases h0 : m = 0
    · subst h0
      rw [<- hmb]
      have e0 : preF 0 ++ b = b := rfl
      rw [e0]
      rcases hv with rfl | ⟨r, hr, rfl, hg⟩
      · repeat' (first|refine zW.zs ?_|refine zW.zb ?_|refine zW.zc ?_|refine zW.zt rfl ?_|refine zW.zf rfl ?_|(refine zW.zd rfl (fun ht => ?_) (fun ht => ?_)<;>try (exfalso;omega))|((first|refine zW.zr ?_|refine zW.zk ?_|refine zW.ze ?_|refine zW.zq ?_|((first|apply zg0|apply zg1|apply zg2|apply zg3|apply zg4|apply zg5|apply zg6|apply zg7)<;>intro ht));all_goals try simp (disch:=first|omega|(simp only [lens,z6,z7,List.length_reverse,z13];first|done|omega)) only [go_sem,reduceEqDiff,Nat.reduceBEq,reduceAdd,reduceMul,reduceSub,reduceLeDiff,reduceToNat,reducePow, q0, q3]))
        exact Ext.pure hw he (zz _ rfl)
      · repeat' (first|refine zW.zs ?_|refine zW.zb ?_|refine zW.zc ?_|refine zW.zt rfl ?_|refine zW.zf rfl ?_|(refine zW.zd rfl (fun ht => ?_) (fun ht => ?_)<;>try (exfalso;omega))|((first|refine zW.zr ?_|refine zW.zk ?_|refine zW.ze ?_|refine zW.zq ?_|((first|apply zg0|apply zg1|apply zg2|apply zg3|apply zg4|apply zg5|apply zg6|apply zg7)<;>intro ht));all_goals try simp (disch:=first|omega|(simp only [lens,z6,z7,List.length_reverse,z13];first|done|omega)) only [go_sem,reduceEqDiff,Nat.reduceBEq,reduceAdd,reduceMul,reduceSub,reduceLeDiff,reduceToNat,reducePow, q0, q3, hg]))
        exact Ext.pure hw he (zz _ rfl)
    · have hst := zoa (m := m) (by omega) hm
      have hc8 := zht (n := m % 128 + 128) (by omega)
      have hor : ((((m : Int) % 128).toNat ||| 128 : Nat) : Int) = (((u8 (m % 128 + 128)).toNat : Nat) : Int) := by
        have : ((m : Int) % 128).toNat = m % 128 := by omega
        rw [this, or128 (by omega), hc8]
      have hd2 : (m : Int) / 128 = ((m / 128 : Nat) : Int) := by simp
      rw [hst, List.append_assoc] at hmb
      have hkk : ∃ k', k = k' + 1 := by
        cases k with
        | zero => simp at hmk; omega
        | succ k => exact ⟨k, rfl⟩
      obtain ⟨k, rfl⟩ := hkk
      rw [Nat.pow_succ] at hmk
      generalize u8 (m % 128 + 128) = c at *
      have hcat : [AV.int .u8 (c.toNat : Int)] :: zh b = zh (c :: b) := (zjp c b).symm
      have hlen : (zh b).length = b.length := z13 b
      rcases hv with rfl | ⟨r, hr, rfl, hg⟩
      · repeat' (first|refine zW.zs ?_|refine zW.zb ?_|refine zW.zc ?_|refine zW.zt rfl ?_|refine zW.zf rfl ?_|(refine zW.zd rfl (fun ht => ?_) (fun ht => ?_)<;>try (exfalso;omega))|((first|refine zW.zr ?_|refine zW.zk ?_|refine zW.ze ?_|refine zW.zq ?_|((first|apply zg0|apply zg1|apply zg2|apply zg3|apply zg4|apply zg5|apply zg6|apply zg7)<;>intro ht));all_goals try simp (disch:=first|omega|(simp only [lens,z6,z7,List.length_reverse,z13];first|done|omega)) only [go_sem,reduceEqDiff,Nat.reduceBEq,reduceAdd,reduceMul,reduceSub,reduceLeDiff,reduceToNat,reducePow, q0, q3, hor, hd2, hcat]))
        exact ⟨k, by omega, m / 128, c :: b, _, by omega, by omega, hmb, by simp, by simp; omega, he.app, .inr ⟨Y'.length, he.le, by simp [Nat.add_comm], by simp⟩, rfl, rfl⟩
      · repeat' (first|refine zW.zs ?_|refine zW.zb ?_|refine zW.zc ?_|refine zW.zt rfl ?_|refine zW.zf rfl ?_|(refine zW.zd rfl (fun ht => ?_) (fun ht => ?_)<;>try (exfalso;omega))|((first|refine zW.zr ?_|refine zW.zk ?_|refine zW.ze ?_|refine zW.zq ?_|((first|apply zg0|apply zg1|apply zg2|apply zg3|apply zg4|apply zg5|apply zg6|apply zg7)<;>intro ht));all_goals try simp (disch:=first|omega|(simp only [lens,z6,z7,List.length_reverse,z13];first|done|omega)) only [go_sem,reduceEqDiff,Nat.reduceBEq,reduceAdd,reduceMul,reduceSub,reduceLeDiff,reduceToNat,reducePow, q0, q3, hor, hd2, hcat, hg]))
        exact ⟨k, by omega, m / 128, c :: b, _, by omega, by omega, hmb, by simp, by simp; omega, he.app, .inr ⟨Y'.length, he.le, by simp [Nat.add_comm], by simp⟩, rfl, rfl⟩
end Am
end Go.Proofs.YtjgljhbmljgaeaaDoor
end
section
/- Codec: contracts: the number that stands ahead. -/
namespace Go.Proofs.YtjgljhbmljgaeaaDoor
namespace Am
attribute [local irreducible] ACallsTo ACallsP
end Am
end Go.Proofs.YtjgljhbmljgaeaaDoor
end
section
/- Codec: contracts: texts, what is cut off, hashes. -/
namespace Go.Proofs.YtjgljhbmljgaeaaDoor
namespace Am
attribute [local irreducible] ACallsTo ACallsP
def z4b (s : List UInt8) (n : Nat) : Option (List UInt8 × List UInt8) := if n <= s.length then some (s.take n, s.drop n) else none
def stV : Option (List UInt8 × List UInt8) -> AV
  | none => .tup [.str [], .str [], .bool false]
  | some (a, r) => .tup [.str a, .str r, .bool true]
def z7f (s : List UInt8) : List UInt8 := numS s.length ++ s
theorem zfx (n : Nat) : (numS n).length <= 11 := by
  unfold numS
  split
  · simp
  · have : ∀ f m, (z3x f m).length <= f := by
      intro f
      induction f with
      | zero => intro m; simp [z3x]
      | succ f ih =>
        intro m
        rw [ze0]
        split
        · simp
        · have := ih (m / 128); simp; omega
    have := this 10 (n / 128)
    simp; omega
set_option maxHeartbeats 4000000 in
theorem zkg (Y : Store) (s : List UInt8) (hs : s.length < 1000000000) : ACallsTo TC 92 [.str s] Y (.str (z7f s)) Y := by
  refine ACallsTo.of_body quok (by simp) fun hw _ => ?_
  have hN := fun Y => zkf Y s.length (by omega)
  have h1 := zfx s.length
  unfold z7f
  generalize numS s.length = N at *
  repeat' (first|refine zW.zs ?_|refine zW.zb ?_|refine zW.zc ?_|refine zW.zt rfl ?_|refine zW.zf rfl ?_|(refine zW.zd rfl (fun ht => ?_) (fun ht => ?_)<;>try (exfalso;omega))|((first|refine zW.zr ?_|refine zW.zk ?_|refine zW.ze ?_|refine zW.zq ?_|(apply callW.mk_pu; (first | exact (fun _ => hN _))) | (apply callW.za; (first | exact (hN _))) | ((first|apply zg0|apply zg1|apply zg2|apply zg3|apply zg4|apply zg5|apply zg6|apply zg7)<;>intro ht));all_goals try simp (disch:=first|omega|(simp only [lens,z6,z7,List.length_reverse,z13,zn];first|done|omega)) only [go_sem,reduceEqDiff,Nat.reduceBEq,reduceAdd,reduceMul,reduceSub,reduceLeDiff,reduceToNat,reducePow]))
  exact DownV.same hw (zz _ rfl)
set_option maxHeartbeats 4000000 in
theorem zqh (Y : Store) (s : List UInt8) (n : Nat) (hs : s.length < 1000000000) (hn : n < 18446744073709551616) : ACallsTo TC 93 [.str s, .int .u64 n] Y (stV (z4b s n)) Y := by
  refine ACallsTo.of_body qvok (by simp) fun hw _ => ?_
  by_cases h : n <= s.length
  · unfold z4b
    rw [if_pos h]
    unfold stV
    repeat' (first|refine zW.zs ?_|refine zW.zb ?_|refine zW.zc ?_|refine zW.zt rfl ?_|refine zW.zf rfl ?_|(refine zW.zd rfl (fun ht => ?_) (fun ht => ?_)<;>try (exfalso;omega))|((first|refine zW.zr ?_|refine zW.zk ?_|refine zW.ze ?_|refine zW.zq ?_|((first|apply zg0|apply zg1|apply zg2|apply zg3|apply zg4|apply zg5|apply zg6|apply zg7)<;>intro ht));all_goals try simp (disch:=first|omega|(simp only [lens,z6,z7,List.length_reverse,z13,zn];first|done|omega)) only [go_sem,reduceEqDiff,Nat.reduceBEq,reduceAdd,reduceMul,reduceSub,reduceLeDiff,reduceToNat,reducePow]))
    exact DownV.same hw (zz _ rfl)
  · unfold z4b
    rw [if_neg h]
    unfold stV
    repeat' (first|refine zW.zs ?_|refine zW.zb ?_|refine zW.zc ?_|refine zW.zt rfl ?_|refine zW.zf rfl ?_|(refine zW.zd rfl (fun ht => ?_) (fun ht => ?_)<;>try (exfalso;omega))|((first|refine zW.zr ?_|refine zW.zk ?_|refine zW.ze ?_|refine zW.zq ?_|((first|apply zg0|apply zg1|apply zg2|apply zg3|apply zg4|apply zg5|apply zg6|apply zg7)<;>intro ht));all_goals try simp (disch:=first|omega|(simp only [lens,z6,z7,List.length_reverse,z13,zn];first|done|omega)) only [go_sem,reduceEqDiff,Nat.reduceBEq,reduceAdd,reduceMul,reduceSub,reduceLeDiff,reduceToNat,reducePow]))
    exact DownV.same hw (zz _ rfl)
end Am
end Go.Proofs.YtjgljhbmljgaeaaDoor
end
section
/- Codec: contracts: the hash that stands ahead. -/
namespace Go.Proofs.YtjgljhbmljgaeaaDoor
namespace Am
attribute [local irreducible] ACallsTo ACallsP
def toH (l : List UInt8) : Hash := if h : l.length = 32 then ⟨l, h⟩ else zeroH
theorem hc_toH {l : List UInt8} (h : l.length = 32) : hc (toH l) = z8 l := by simp [toH, h, hc]
theorem zql (h : Hash) : toH h.1 = h := by simp [toH, h.2]
def unS (s : List UInt8) : Option (Hash × List UInt8) := (z4b s 32).map fun x => (toH x.1, x.2)
def unV : Option (Hash × List UInt8) -> AV
  | none => .tup [.agg (hc zeroH), .str [], .bool false]
  | some (h, r) => .tup [.agg (hc h), .str r, .bool true]
theorem zqs {s : List UInt8} (h : ¬ 32 <= s.length) : unS s = none := by simp [unS, z4b, h]
theorem zhu {s : List UInt8} (h : 32 <= s.length) : unS s = some (toH (s.take 32), s.drop 32) := by simp [unS, z4b, h]
theorem zhv (h : Hash) (r : List UInt8) : unV (some (h, r)) = .tup [.agg (hc h), .str r, .bool true] := rfl
theorem zqt : unV none = .tup [.agg z32, .str [], .bool false] := rfl
theorem rl_un {k : Nat} {cs : List AV} {r : List UInt8} {b : Bool} (h : RLs k cs) : RL k (.tup [.agg cs, .str r, .bool b]) := by
  simp only [RL, RLs]; exact ⟨h, trivial, trivial, trivial⟩
theorem zi2 : z32.length = 32 := rfl
set_option maxHeartbeats 4000000 in
theorem zkh (Y : Store) (s : List UInt8) (hs : s.length < 1000000000) : ACallsTo TC 84 [.str s] Y (unV (unS s)) Y := by
  refine ACallsTo.of_body qsok (by simp) fun hw _ => ?_
  have hT := fun Y => zqh Y s 32 hs (by omega)
  by_cases h : 32 <= s.length
  · rw [zhu h]
    rw [zhv, hc_toH (by simp; omega)]
    have ht : z4b s 32 = some (s.take 32, s.drop 32) := by simp [z4b, h]
    rw [ht] at hT
    unfold stV at hT
    have hl : (s.take 32).length = 32 := by simp; omega
    generalize s.take 32 = a at *
    have hf := ze7 a
    have hft : (zh a).take 32 = zh a := List.take_of_length_le (by rw [z13]; omega)
    have hfc : (z8 a).length = 32 := by rw [zn]; exact hl
    have hfd : (z8 a).drop 32 = [] := List.drop_of_length_le (by omega)
    have hfk : (z8 a).take 32 = z8 a := List.take_of_length_le (by omega)
    repeat' (first|refine zW.zs ?_|refine zW.zb ?_|refine zW.zc ?_|refine zW.zt rfl ?_|refine zW.zf rfl ?_|(refine zW.zd rfl (fun ht => ?_) (fun ht => ?_)<;>try (exfalso;omega))|((first|refine zW.zr ?_|refine zW.zk ?_|refine zW.ze ?_|refine zW.zq ?_|(apply callW.mk_pu; (first | exact (fun _ => hT _))) | (apply callW.za; (first | exact (hT _))) | ((first|apply zg0|apply zg1|apply zg2|apply zg3|apply zg4|apply zg5|apply zg6|apply zg7)<;>intro ht));all_goals try simp (disch:=first|omega|(simp only [lens,z6,z7,List.length_reverse,z13,zn];first|done|omega)) only [go_sem,reduceEqDiff,Nat.reduceBEq,reduceAdd,reduceMul,reduceSub,reduceLeDiff,reduceToNat,reducePow, hf, hft, hl, hfc, hfd, hfk, List.append_nil, zi2]))
    exact DownV.pure hw (rl_un (z25 _))
  · rw [zqs h, zqt]
    have ht : z4b s 32 = none := by simp [z4b, h]
    rw [ht] at hT
    unfold stV at hT
    have hbe : (zh []).flatten = ([] : List AV) := rfl
    repeat' (first|refine zW.zs ?_|refine zW.zb ?_|refine zW.zc ?_|refine zW.zt rfl ?_|refine zW.zf rfl ?_|(refine zW.zd rfl (fun ht => ?_) (fun ht => ?_)<;>try (exfalso;omega))|((first|refine zW.zr ?_|refine zW.zk ?_|refine zW.ze ?_|refine zW.zq ?_|(apply callW.mk_pu; (first | exact (fun _ => hT _))) | (apply callW.za; (first | exact (hT _))) | ((first|apply zg0|apply zg1|apply zg2|apply zg3|apply zg4|apply zg5|apply zg6|apply zg7)<;>intro ht));all_goals try simp (disch:=first|omega|(simp only [lens,z6,z7,List.length_reverse,z13,zn];first|done|omega)) only [go_sem,reduceEqDiff,Nat.reduceBEq,reduceAdd,reduceMul,reduceSub,reduceLeDiff,reduceToNat,reducePow, zi2, hbe, List.nil_append, List.drop_zero]))
    exact DownV.pure hw (rl_un (cs := z32) (z25 (List.replicate 32 0)))
end Am
end Go.Proofs.YtjgljhbmljgaeaaDoor
end
section
/- Codec: contracts: the list that stands ahead. -/
namespace Go.Proofs.YtjgljhbmljgaeaaDoor
namespace Am
attribute [local irreducible] ACallsTo ACallsP
end Am
end Go.Proofs.YtjgljhbmljgaeaaDoor
end
section
/- Codec: contracts: the reference's list. -/
namespace Go.Proofs.YtjgljhbmljgaeaaDoor
namespace Am
attribute [local irreducible] ACallsTo ACallsP
def catS (l : List Hash) : List UInt8 := (l.map (·.1)).flatten
theorem zb2 : ∀ (l : List Hash), (catS l).length = 32 * l.length
  | [] => rfl
  | h :: l => by
    have := zb2 l
    simp only [catS, List.map_cons, List.flatten_cons, List.length_append, List.length_cons, h.2] at this ⊢
    omega
theorem zk7 {l : List Hash} {i : Nat} (h : i < l.length) : catS (l.take (i + 1)) = catS (l.take i) ++ (hd l i).1 := by
  rw [zd9 h]; simp [catS]
end Am
end Go.Proofs.YtjgljhbmljgaeaaDoor
end
section
/- Abstract code. (Printed by wip/gen.) -/
set_option maxRecDepth 10000
namespace Go.Proofs.YtjgljhbmljgaeaaDoor
namespace Am



@[go_sem] def qwr0 : List AIns := [
  ⟨some 4,none,.no,.mv (.v .nilsl)⟩,
  ⟨some 5,none,.no,.mv (.v (.int .i64 0))⟩]
@[go_sem] def qwr1 : List AIns := [
  ⟨some 8,none,.no,.mv (.t 1)⟩,
  ⟨some 9,none,.no,.bin .lss .none (.t 8) (.v (.int .i64 0))⟩,
  ⟨some 10,none,.no,.mv (.t 9)⟩,
  ⟨some 11, some (10, false), .no, .mv (.t 1)⟩,
  ⟨some 12, some (10, false), .no, .mv (.t 0)⟩,
  ⟨some 13, some (10, false), .no, .lenSl (.t 12)⟩,
  ⟨some 14, some (10, false), .no, .bin .geq .none (.t 11) (.t 13)⟩,
  ⟨some 15,none,.no,.pick (.t 10) (.v (.bool true)) (.t 14)⟩]
@[go_sem] def qwr2 : List AIns := [
  ⟨some 4,none,.no,.mv (.v .nilsl)⟩,
  ⟨some 5,none,.no,.mv (.v (.int .i64 2))⟩]
def qwc3 : ACode := .seq (.reg qwr2) .ret
def qwc4 : ACode := .cond (.t 15) qwc3 .skip
def qwc5 : ACode := .seq (.reg qwr1) qwc4
@[go_sem] def qwr6 : List AIns := [
  ⟨some 6,none,.no,.mv (.v .nilsl)⟩]
@[go_sem] def qwr7 : List AIns := [
  ⟨some 16,none,.no,.mv (.t 0)⟩,
  ⟨some 17,none,.no,.lenSl (.t 16)⟩,
  ⟨some 18,none,.no,.bin .gtr .none (.t 17) (.v (.int .i64 1))⟩]
def qwc8 : ACode := .cond (.t 18) .skip (.exit 0)
def qwc9 : ACode := .seq (.reg qwr7) qwc8
@[go_sem] def qwr10 : List AIns := [
  ⟨some 19,none,.no,.mv (.t 0)⟩,
  ⟨some 20,none,.no,.lenSl (.t 19)⟩,
  ⟨some 21,none,.no,.call (.v (.fn 48 [])) [(.t 20)]⟩,
  ⟨some 7,none,.no,.mv (.t 21)⟩]
@[go_sem] def qwr11 : List AIns := [
  ⟨some 22,none,.no,.mv (.t 1)⟩,
  ⟨some 23,none,.no,.mv (.t 7)⟩,
  ⟨some 24,none,.no,.bin .lss .none (.t 22) (.t 23)⟩]
@[go_sem] def qwr12 : List AIns := [
  ⟨some 25,none,.no,.mv (.t 6)⟩,
  ⟨some 26,none,.no,.mv (.t 0)⟩,
  ⟨some 27,none,.no,.mv (.t 7)⟩,
  ⟨some 28,none,.no,.slice (.sl 32) (.t 26) (some (.t 27)) none none⟩,
  ⟨some 29,none,.no,.call (.v (.fn 24 [])) [(.t 28)]⟩,
  ⟨some 30,none,.no,.lit 32 [(.t 29)]⟩,
  ⟨some 31,none,.no,.app 32 (.t 25) (.t 30)⟩,
  ⟨some 6,none,.no,.mv (.t 31)⟩]
@[go_sem] def qwr13 : List AIns := [
  ⟨some 32,none,.no,.mv (.t 0)⟩,
  ⟨some 33,none,.no,.mv (.t 7)⟩,
  ⟨some 34,none,.no,.slice (.sl 32) (.t 32) none (some (.t 33)) none⟩,
  ⟨some 0,none,.no,.mv (.t 34)⟩]
def qwc14 : ACode := .seq (.reg qwr12) (.reg qwr13)
@[go_sem] def qwr15 : List AIns := [
  ⟨some 35,none,.no,.mv (.t 6)⟩,
  ⟨some 36,none,.no,.mv (.t 0)⟩,
  ⟨some 37,none,.no,.mv (.t 7)⟩,
  ⟨some 38,none,.no,.slice (.sl 32) (.t 36) none (some (.t 37)) none⟩,
  ⟨some 39,none,.no,.call (.v (.fn 24 [])) [(.t 38)]⟩,
  ⟨some 40,none,.no,.lit 32 [(.t 39)]⟩,
  ⟨some 41,none,.no,.app 32 (.t 35) (.t 40)⟩,
  ⟨some 6,none,.no,.mv (.t 41)⟩]
@[go_sem] def qwr16 : List AIns := [
  ⟨some 42,none,.no,.mv (.t 0)⟩,
  ⟨some 43,none,.no,.mv (.t 7)⟩,
  ⟨some 44,none,.no,.slice (.sl 32) (.t 42) (some (.t 43)) none none⟩,
  ⟨some 45,none,.no,.mv (.t 1)⟩,
  ⟨some 46,none,.no,.mv (.t 7)⟩,
  ⟨some 47,none,.no,.bin .sub .none (.t 45) (.t 46)⟩,
  ⟨some 0,none,.no,.mv (.t 44)⟩,
  ⟨some 1,none,.no,.mv (.t 47)⟩]
def qwc17 : ACode := .seq (.reg qwr15) (.reg qwr16)
def qwc18 : ACode := .cond (.t 24) qwc14 qwc17
def qwc19 : ACode := .seq (.reg qwr11) qwc18
def qwc20 : ACode := .seq (.reg qwr10) qwc19
def qwc21 : ACode := .block 1 qwc20
def qwc22 : ACode := .seq qwc9 qwc21
def qwc23 : ACode := .loop qwc22
@[go_sem] def qwr24 : List AIns := [
  ⟨some 48,none,.no,.mv (.t 6)⟩,
  ⟨some 49,none,.no,.call (.v (.fn 54 [])) [(.t 48)]⟩]
@[go_sem] def qwr25 : List AIns := [
  ⟨some 50,none,.no,.mv (.t 6)⟩,
  ⟨some 4,none,.no,.mv (.t 50)⟩,
  ⟨some 5,none,.no,.mv (.v (.int .i64 0))⟩]
def qwc26 : ACode := .seq (.reg qwr25) .ret
def qwc27 : ACode := .seq (.reg qwr24) qwc26
def qwc28 : ACode := .seq (.block 0 qwc23) qwc27
def qwc29 : ACode := .seq (.reg qwr6) qwc28
def qwc30 : ACode := .seq qwc5 qwc29
def qwc31 : ACode := .seq (.reg qwr0) qwc30
theorem qwok : cFn TC 30 = some (51, [.t 4, .t 5], qwc31) := by kernel_rfl

@[go_sem] def qxr0 : List AIns := [
  ⟨some 5,none,.no,.box (.t 0)⟩,
  ⟨some 9,none,.no,.box (.t 4)⟩,
  ⟨some 10,none,.no,.mv (.v (.int .i64 0))⟩]
@[go_sem] def qxr1 : List AIns := [
  ⟨some 15,none,.no,.mv (.t 2)⟩,
  ⟨some 16,none,.no,.bin .lss .none (.t 15) (.v (.int .i64 1))⟩,
  ⟨some 17,none,.no,.mv (.t 16)⟩,
  ⟨some 18, some (17, false), .no, .mv (.t 2)⟩,
  ⟨some 19, some (17, false), .no, .bin .gtr .none (.t 18) (.v (.int .i64 4096))⟩,
  ⟨some 20,none,.no,.pick (.t 17) (.v (.bool true)) (.t 19)⟩,
  ⟨some 21,none,.no,.mv (.t 20)⟩,
  ⟨some 22, some (21, false), .no, .mv (.t 1)⟩,
  ⟨some 23, some (21, false), .no, .bin .lss .none (.t 22) (.v (.int .i64 0))⟩,
  ⟨some 24,none,.no,.pick (.t 21) (.v (.bool true)) (.t 23)⟩,
  ⟨some 25,none,.no,.mv (.t 24)⟩,
  ⟨some 26, some (25, false), .no, .mv (.t 1)⟩,
  ⟨some 27, some (25, false), .no, .mv (.t 2)⟩,
  ⟨some 28, some (25, false), .no, .bin .geq .none (.t 26) (.t 27)⟩,
  ⟨some 29,none,.no,.pick (.t 25) (.v (.bool true)) (.t 28)⟩]
@[go_sem] def qxr2 : List AIns := [
  ⟨some 10,none,.no,.mv (.v (.int .i64 2))⟩]
def qxc3 : ACode := .seq (.reg qxr2) .ret
def qxc4 : ACode := .cond (.t 29) qxc3 .skip
def qxc5 : ACode := .seq (.reg qxr1) qxc4
@[go_sem] def qxr6 : List AIns := [
  ⟨some 30,none,.no,.mv (.t 2)⟩,
  ⟨some 31,none,.no,.bin .sub .none (.t 30) (.v (.int .i64 1))⟩,
  ⟨some 11,none,.no,.mv (.t 31)⟩]
@[go_sem] def qxr7 : List AIns := [
  ⟨some 12,none,.no,.mv (.v (.int .i64 0))⟩]
@[go_sem] def qxr8 : List AIns := [
  ⟨some 32,none,.no,.mv (.t 3)⟩,
  ⟨some 33,none,.no,.lenSl (.t 32)⟩,
  ⟨some 34,none,.no,.mv (.v (.int .i64 0))⟩]
@[go_sem] def qxr9 : List AIns := [
  ⟨some 35,none,.no,.bin .lss .none (.t 34) (.t 33)⟩]
@[go_sem] def qxr10 : List AIns := [
  ⟨some 36,none,.no,.iaSl 32 (.t 32) (.t 34)⟩,
  ⟨some 37,none,.no,.load true 32 (.t 36)⟩,
  ⟨some 14,none,.no,.alloc zZ0⟩,
  ⟨none,none,.no,.store 32 (.t 14) (.t 37)⟩]
@[go_sem] def qxr11 : List AIns := [
  ⟨some 38,none,.no,.mv (.t 11)⟩,
  ⟨some 39,none,.no,.bin .eql .none (.t 38) (.v (.int .i64 0))⟩]
def qxc12 : ACode := .cond (.t 39) (.exit 0) .skip
def qxc13 : ACode := .seq (.reg qxr11) qxc12
@[go_sem] def qxr14 : List AIns := [
  ⟨some 40,none,.no,.mv (.t 1)⟩,
  ⟨some 41,none,.no,.bin .rem .none (.t 40) (.v (.int .i64 2))⟩,
  ⟨some 42,none,.no,.bin .eql .none (.t 41) (.v (.int .i64 1))⟩,
  ⟨some 43,none,.no,.mv (.t 42)⟩,
  ⟨some 44, some (43, false), .no, .mv (.t 1)⟩,
  ⟨some 45, some (43, false), .no, .mv (.t 11)⟩,
  ⟨some 46, some (43, false), .no, .bin .eql .none (.t 44) (.t 45)⟩,
  ⟨some 47,none,.no,.pick (.t 43) (.v (.bool true)) (.t 46)⟩]
@[go_sem] def qxr15 : List AIns := [
  ⟨some 48,none,.no,.load true 32 (.t 14)⟩,
  ⟨some 49,none,.no,.load true 32 (.t 5)⟩,
  ⟨some 50,none,.no,.call (.v (.fn 49 [])) [(.t 48), (.t 49)]⟩,
  ⟨none,none,.no,.store 32 (.t 5) (.t 50)⟩]
@[go_sem] def qxr16 : List AIns := [
  ⟨some 51,none,.no,.mv (.t 1)⟩,
  ⟨some 52,none,.no,.bin .rem .none (.t 51) (.v (.int .i64 2))⟩,
  ⟨some 53,none,.no,.bin .eql .none (.t 52) (.v (.int .i64 0))⟩,
  ⟨some 54,none,.no,.mv (.t 53)⟩,
  ⟨some 55, some (54, true), .no, .mv (.t 1)⟩,
  ⟨some 56, some (54, true), .no, .bin .gtr .none (.t 55) (.v (.int .i64 0))⟩,
  ⟨some 57,none,.no,.pick (.t 54) (.t 56) (.v (.bool false))⟩]
def qxc17 : ACode := .cond (.t 57) .skip (.exit 2)
def qxc18 : ACode := .seq (.reg qxr16) qxc17
@[go_sem] def qxr19 : List AIns := [
  ⟨some 58,none,.no,.mv (.t 1)⟩,
  ⟨some 59,none,.no,.bin .quo .none (.t 58) (.v (.int .i64 2))⟩,
  ⟨some 60,none,.no,.mv (.t 11)⟩,
  ⟨some 61,none,.no,.bin .quo .none (.t 60) (.v (.int .i64 2))⟩,
  ⟨some 1,none,.no,.mv (.t 59)⟩,
  ⟨some 11,none,.no,.mv (.t 61)⟩]
def qxc20 : ACode := .block 3 (.reg qxr19)
def qxc21 : ACode := .seq qxc18 qxc20
def qxc22 : ACode := .loop qxc21
def qxc23 : ACode := .block 2 qxc22
def qxc24 : ACode := .seq (.reg qxr15) qxc23
@[go_sem] def qxr25 : List AIns := [
  ⟨some 62,none,.no,.load true 32 (.t 5)⟩,
  ⟨some 63,none,.no,.load true 32 (.t 14)⟩,
  ⟨some 64,none,.no,.call (.v (.fn 49 [])) [(.t 62), (.t 63)]⟩,
  ⟨none,none,.no,.store 32 (.t 5) (.t 64)⟩]
def qxc26 : ACode := .cond (.t 47) qxc24 (.reg qxr25)
def qxc27 : ACode := .seq (.reg qxr14) qxc26
@[go_sem] def qxr28 : List AIns := [
  ⟨some 65,none,.no,.mv (.t 1)⟩,
  ⟨some 66,none,.no,.bin .quo .none (.t 65) (.v (.int .i64 2))⟩,
  ⟨some 67,none,.no,.mv (.t 11)⟩,
  ⟨some 68,none,.no,.bin .quo .none (.t 67) (.v (.int .i64 2))⟩,
  ⟨some 1,none,.no,.mv (.t 66)⟩,
  ⟨some 11,none,.no,.mv (.t 68)⟩]
@[go_sem] def qxr29 : List AIns := [
  ⟨some 69,none,.no,.mv (.t 12)⟩,
  ⟨some 70,none,.no,.bin .add .none (.t 69) (.v (.int .i64 1))⟩,
  ⟨some 12,none,.no,.mv (.t 70)⟩]
def qxc30 : ACode := .seq (.reg qxr28) (.reg qxr29)
def qxc31 : ACode := .seq qxc27 qxc30
def qxc32 : ACode := .seq qxc13 qxc31
def qxc33 : ACode := .seq (.reg qxr10) qxc32
@[go_sem] def qxr34 : List AIns := [
  ⟨some 71,none,.no,.bin .add .none (.t 34) (.v (.int .i64 1))⟩,
  ⟨some 34,none,.no,.mv (.t 71)⟩]
def qxc35 : ACode := .seq (.block 1 qxc33) (.reg qxr34)
def qxc36 : ACode := .seq (.cond (.t 35) .skip (.exit 0)) qxc35
def qxc37 : ACode := .seq (.reg qxr9) qxc36
def qxc38 : ACode := .loop qxc37
def qxc39 : ACode := .block 0 qxc38
def qxc40 : ACode := .seq (.reg qxr8) qxc39
@[go_sem] def qxr41 : List AIns := [
  ⟨some 72,none,.no,.mv (.t 11)⟩,
  ⟨some 73,none,.no,.bin .neq .none (.t 72) (.v (.int .i64 0))⟩,
  ⟨some 74,none,.no,.mv (.t 73)⟩,
  ⟨some 75, some (74, false), .no, .mv (.t 12)⟩,
  ⟨some 76, some (74, false), .no, .mv (.t 3)⟩,
  ⟨some 77, some (74, false), .no, .lenSl (.t 76)⟩,
  ⟨some 78, some (74, false), .no, .bin .neq .none (.t 75) (.t 77)⟩,
  ⟨some 79,none,.no,.pick (.t 74) (.v (.bool true)) (.t 78)⟩,
  ⟨some 80,none,.no,.mv (.t 79)⟩,
  ⟨some 81, some (80, false), .no, .load true 32 (.t 5)⟩,
  ⟨some 82, some (80, false), .no, .load true 32 (.t 9)⟩,
  ⟨some 83, some (80, false), .no, .bin .neq (.agg (List.replicate 32 (.i .u8) ++ [])) (.t 81) (.t 82)⟩,
  ⟨some 84,none,.no,.pick (.t 80) (.v (.bool true)) (.t 83)⟩]
@[go_sem] def qxr42 : List AIns := [
  ⟨some 10,none,.no,.mv (.v (.int .i64 80))⟩]
def qxc43 : ACode := .seq (.reg qxr42) .ret
def qxc44 : ACode := .cond (.t 84) qxc43 .skip
def qxc45 : ACode := .seq (.reg qxr41) qxc44
@[go_sem] def qxr46 : List AIns := [
  ⟨some 10,none,.no,.mv (.v (.int .i64 0))⟩]
def qxc47 : ACode := .seq (.reg qxr46) .ret
def qxc48 : ACode := .seq qxc45 qxc47
def qxc49 : ACode := .seq qxc40 qxc48
def qxc50 : ACode := .seq .skip qxc49
def qxc51 : ACode := .seq (.reg qxr7) qxc50
def qxc52 : ACode := .seq (.reg qxr6) qxc51
def qxc53 : ACode := .seq qxc5 qxc52
def qxc54 : ACode := .scope qxc53
def qxc55 : ACode := .seq (.reg qxr0) qxc54
theorem qxok : cFn TC 36 = some (85, [.t 10], qxc55) := by kernel_rfl

@[go_sem] def qyr0 : List AIns := [
  ⟨some 4,none,.no,.mv (.t 0)⟩,
  ⟨some 5,none,.no,.lenSl (.t 4)⟩,
  ⟨some 6,none,.no,.bin .sub .none (.t 5) (.v (.int .i64 1))⟩,
  ⟨some 2,none,.no,.mv (.v (.int .i64 0))⟩,
  ⟨some 3,none,.no,.mv (.t 6)⟩]
@[go_sem] def qyr1 : List AIns := [
  ⟨some 7,none,.no,.mv (.t 2)⟩,
  ⟨some 8,none,.no,.mv (.t 3)⟩,
  ⟨some 9,none,.no,.bin .lss .none (.t 7) (.t 8)⟩]
def qyc2 : ACode := .cond (.t 9) .skip (.exit 0)
def qyc3 : ACode := .seq (.reg qyr1) qyc2
@[go_sem] def qyr4 : List AIns := [
  ⟨some 14,none,.no,.mv (.t 0)⟩,
  ⟨some 15,none,.no,.mv (.t 2)⟩,
  ⟨some 16,none,.no,.mv (.t 0)⟩,
  ⟨some 17,none,.no,.mv (.t 3)⟩,
  ⟨some 18,none,.no,.mv (.t 0)⟩,
  ⟨some 19,none,.no,.mv (.t 3)⟩,
  ⟨some 20,none,.no,.iaSl 32 (.t 18) (.t 19)⟩,
  ⟨some 21, none, .rd, .load true 32 (.t 20)⟩,
  ⟨some 22,none,.no,.mv (.t 0)⟩,
  ⟨some 23,none,.no,.mv (.t 2)⟩,
  ⟨some 24,none,.no,.iaSl 32 (.t 22) (.t 23)⟩,
  ⟨some 25, none, .rd, .load true 32 (.t 24)⟩,
  ⟨some 26,none,.no,.iaSl 32 (.t 14) (.t 15)⟩,
  ⟨none,none,.no,.store 32 (.t 26) (.t 21)⟩,
  ⟨some 27,none,.no,.iaSl 32 (.t 16) (.t 17)⟩,
  ⟨none,none,.no,.store 32 (.t 27) (.t 25)⟩]
@[go_sem] def qyr5 : List AIns := [
  ⟨some 10,none,.no,.mv (.t 2)⟩,
  ⟨some 11,none,.no,.bin .add .none (.t 10) (.v (.int .i64 1))⟩,
  ⟨some 12,none,.no,.mv (.t 3)⟩,
  ⟨some 13,none,.no,.bin .sub .none (.t 12) (.v (.int .i64 1))⟩,
  ⟨some 2,none,.no,.mv (.t 11)⟩,
  ⟨some 3,none,.no,.mv (.t 13)⟩]
def qyc6 : ACode := .seq (.block 1 (.reg qyr4)) (.reg qyr5)
def qyc7 : ACode := .seq qyc3 qyc6
def qyc8 : ACode := .loop qyc7
def qyc9 : ACode := .block 0 qyc8
def qyc10 : ACode := .seq (.reg qyr0) qyc9
theorem qyok : cFn TC 54 = some (28, [], qyc10) := by kernel_rfl

end Am
end Go.Proofs.YtjgljhbmljgaeaaDoor
end
