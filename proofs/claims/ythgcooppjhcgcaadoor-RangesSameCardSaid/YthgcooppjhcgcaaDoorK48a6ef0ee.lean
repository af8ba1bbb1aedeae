import Derived.Test.YthgcooppjhcgcaaDoorK3dff2359c
import Derived.Test.YthgcooppjhcgcaaDoorK27b2f0988
import Derived.Test.YthgcooppjhcgcaaDoorRows
import Derived.Test.YthgcooppjhcgcaaDoorCards
import Derived.Test.YthgcooppjhcgcaaDoorTie
import Derived.ProofKit
import Derived.LaidMore
import Derived.OpenShut
import Derived.Stop.Joined
import Derived.SevenTiedAt
import Derived.MakeChecks
section
set_option linter.unusedSimpArgs false
set_option linter.unusedVariables false
/- Proofs: the law ProofsProof: its contract. -/
set_option linter.unusedSimpArgs false
set_option linter.unusedVariables false
namespace Go.Proofs.YthgcooppjhcgcaaDoor
namespace Am
def hashTy : Ty := .row (List.replicate 32 (.int .u8))
theorem bytes_of : ∀ (n : Nat) (cs : List AV), ShRow (List.replicate n (.int .u8)) cs → ∃ h : List UInt8, cs = byteEsC h ∧ h.length = n
  | 0, cs, h => ⟨[], by simpa only [List.replicate_zero, ShRow, byteEsC, List.map_nil] using h, rfl⟩
  | n + 1, cs, h => by
    simp only [List.replicate_succ, ShRow, ShC] at h
    obtain ⟨_, b, rfl, ⟨x, rfl, h1, h2⟩, h3⟩ := h
    obtain ⟨l, rfl, hl⟩ := bytes_of n b h3
    simp only [IntKind.min, IntKind.max, IntKind.signed, IntKind.bits] at h1 h2
    simp at h1 h2
    refine ⟨UInt8.ofNat x.toNat :: l, ?_, by simp [hl]⟩
    have : ((UInt8.ofNat x.toNat).toNat : Int) = x := by rw [UInt8.toNat_ofNat']; omega
    simp only [byteEsC, List.map_cons, List.singleton_append, this]
theorem hash_of {cs : List AV} (h : ShC hashTy cs) : ∃ l : List UInt8, cs = byteEsC l ∧ l.length = 32 := bytes_of 32 cs (by simpa only [hashTy, ShC] using h)
theorem hashes_of : ∀ (es : List (List AV)), (∀ x ∈ es, ShC hashTy x) → ∃ hs, es = hrows hs ∧ H32 hs
  | [], _ => ⟨[], rfl, fun _ h => by simp at h⟩
  | e :: es, h => by
    obtain ⟨l, rfl, hl⟩ := hash_of (h e (by simp))
    obtain ⟨hs, rfl, hH⟩ := hashes_of es (fun x hx => h x (by simp [hx]))
    refine ⟨l :: hs, rfl, fun x hx => ?_⟩
    rcases List.mem_cons.1 hx with rfl | hx
    · exact hl
    · exact hH x hx
/-- A slice of hashes, as_ an argument. -/
theorem hsl_of {a : AV} (h : Sh (.sl 32 hashTy) a) : ∃ hs, SlV 32 (hrows hs) a ∧ H32 hs ∧ hs.length ≤ maxLen := by
  simp only [Sh, ShC] at h
  rcases h with h | ⟨es, h, hl, _, h2⟩
  · cases h
    exact ⟨[], .inl ⟨rfl, rfl⟩, fun _ h => by simp at h, Nat.zero_le _⟩
  · cases h
    obtain ⟨hs, rfl, hH⟩ := hashes_of es h2
    exact ⟨hs, .inr ⟨false, rfl⟩, hH, by rwa [hrows_len] at hl⟩
theorem RefP.ex (σ : Store) (hs : List (List UInt8)) (m : Int) : ∃ v σ', RefP σ hs m v σ' := ⟨_, _, _, rfl, .inl (own_is σ 32 _)⟩
end Am
end Go.Proofs.YthgcooppjhcgcaaDoor
end
section
set_option linter.unusedSimpArgs false
set_option linter.unusedVariables false
/- Hashes as_ one thing each: 32 bytes, hidden behind a name. -/
set_option linter.unusedSimpArgs false
set_option linter.unusedVariables false
namespace Go.Proofs.YthgcooppjhcgcaaDoor
namespace Am
abbrev Hash := {l : List UInt8 // l.length = 32}
def hc (h : Hash) : List AV := byteEsC h.1
def hr (l : List Hash) : List (List AV) := l.map hc
def hb (l : List Hash) : List (List UInt8) := l.map (·.1)
theorem hb_H (l : List Hash) : H32 (hb l) := fun x hx => by
  simp only [hb, List.mem_map] at hx
  obtain ⟨h, _, rfl⟩ := hx
  exact h.2
theorem hb_len (l : List Hash) : (hb l).length = l.length := by simp [hb]
theorem hb_take (l : List Hash) (n : Nat) : (hb l).take n = hb (l.take n) := by simp [hb, List.map_take]
theorem hb_drop (l : List Hash) (n : Nat) : (hb l).drop n = hb (l.drop n) := by simp [hb, List.map_drop]
theorem hr_hb (l : List Hash) : hrows (hb l) = hr l := by simp [hrows, hb, hr, hc]
theorem hb_of : ∀ {l : List (List UInt8)}, H32 l → ∃ m : List Hash, l = hb m
  | [], _ => ⟨[], rfl⟩
  | x :: l, h => by
    obtain ⟨m, hm⟩ := hb_of (l := l) fun y hy => h y (by simp [hy])
    exact ⟨⟨x, h x (by simp)⟩ :: m, by simp [hb, hm]⟩
theorem hb_inj : ∀ {a b : List Hash}, hb a = hb b → a = b
  | [], [], _ => rfl
  | [], _ :: _, h => by simp [hb] at h
  | _ :: _, [], h => by simp [hb] at h
  | x :: a, y :: b, h => by
    simp only [hb, List.map_cons, List.cons.injEq] at h
    rw [Subtype.ext h.1, hb_inj (a := a) (b := b) h.2]
@[go_sem] theorem hc_len (h : Hash) : (hc h).length = 32 := by rw [hc, byteEsC_len, h.2]
@[go_sem] theorem hc_drop (h : Hash) : (hc h).drop 32 = [] := List.drop_of_length_le (by rw [hc_len]; decide)
@[go_sem] theorem hc_take (h : Hash) : (hc h).take 32 = hc h := List.take_of_length_le (by rw [hc_len]; decide)
@[go_sem] theorem hc_take_app (h : Hash) (l : List AV) : (hc h ++ l).take 32 = hc h := by
  have := hc_len h
  rw [List.take_append_of_le_length (by omega), hc_take]
@[go_sem] theorem hc_drop_app (h : Hash) (l : List AV) : (hc h ++ l).drop 32 = l := by
  have := hc_len h
  rw [List.drop_append_of_le_length (by omega), hc_drop, List.nil_append]
@[go_sem] theorem hc_eq (a b : Hash) : eqCells (hc a) (hc b) = decide (a = b) := by
  rw [hc, hc, eq_hash, Bool.eq_iff_iff]
  simp [Subtype.ext_iff]
@[go_sem] theorem hc_kinds (h : Hash) : (hc h).map kindOf = (List.replicate 32 (LK.i .u8)).map some := kinds32 h.2
@[go_sem] theorem hr_len (l : List Hash) : (hr l).length = l.length := by simp [hr]
@[go_sem] theorem hr_take (l : List Hash) (n : Nat) : (hr l).take n = hr (l.take n) := by simp [hr, List.map_take]
@[go_sem] theorem hr_drop (l : List Hash) (n : Nat) : (hr l).drop n = hr (l.drop n) := by simp [hr, List.map_drop]
@[go_sem] theorem hr_set (l : List Hash) (i : Nat) (h : Hash) : (hr l).set i (hc h) = hr (l.set i h) := by simp [hr, List.map_set]
theorem hr_app (a b : List Hash) : hr (a ++ b) = hr a ++ hr b := by simp [hr]
theorem hr_nil : hr [] = [] := rfl
theorem hr_nil_iff {l : List Hash} : hr l = [] ↔ l = [] := by simp [hr]
def zeroH : Hash := ⟨List.replicate 32 0, by simp⟩
def hd (l : List Hash) (i : Nat) : Hash := l.getD i zeroH
@[go_sem] theorem hr_get {l : List Hash} {i : Nat} (h : i < l.length) : (hr l)[i]? = some (hc (hd l i)) := by
  simp [hr, hd, List.getElem?_map, List.getElem?_eq_getElem h]
theorem hd_get {l : List Hash} {i : Nat} (h : i < l.length) : hd l i = l[i] := by simp [hd, h]
theorem rl_hc {k : Nat} (h : Hash) : RLs k (hc h) := rl_bytes _
theorem rlss_hr {k : Nat} (l : List Hash) : RLss k (hr l) := by rw [← hr_hb]; exact rlss_h _
theorem shs_hc (k : Nat) (h : Hash) : shs k (hc h) = hc h := shs_bytes k _
def nodeH (a b : Hash) : Hash := ⟨nodeS a.1 b.1, nodeS_len _ _⟩
def rootH (l : List Hash) : Hash := ⟨rootS (hb l), rootS_len (hb_H l)⟩
def shaH (s : List UInt8) : Hash := ⟨shaS s, shaS_len s⟩
theorem rootH_one (h : Hash) : rootH [h] = h := rfl
theorem rootH_two {l : List Hash} (h : 2 ≤ l.length) : rootH l = nodeH (rootH (l.take (splitS l.length))) (rootH (l.drop (splitS l.length))) := by
  apply Subtype.ext
  show rootS (hb l) = nodeS (rootS (hb _)) (rootS (hb _))
  rw [← hb_take, ← hb_drop]
  have := rootS_two (l := hb l) (by rw [hb_len]; exact h)
  rwa [hb_len] at this
theorem trees_Node_h (σ : Store) (a b : Hash) : ACallsTo TC 81 [.agg (hc a), .agg (hc b)] σ (.agg (hc (nodeH a b))) σ := trees_Node_to σ a.1 b.1 a.2 b.2
theorem trees_Root_h (σ : Store) (l : List Hash) (x : AV) (hx : RdSl σ 32 (hr l) x) (hl : l.length < 1000000000) : ACallsTo TC 29 [x] σ (.agg (hc (rootH l))) σ :=
  trees_Root_rd σ (hb l) x (by rw [hr_hb]; exact hx) (hb_H l) (by rw [hb_len]; exact hl)
theorem Same_h (σ : Store) (A B : List Hash) (x y : AV) (hx : RdSl σ 32 (hr A) x) (hy : RdSl σ 32 (hr B) y) (hl : A.length < 1000000000) (hl2 : B.length < 1000000000) :
    ACallsTo TC 80 [x, y] σ (.bool (decide (A = B))) σ := by
  have := Same_rd σ (hb A) (hb B) x y (by rw [hr_hb]; exact hx) (by rw [hr_hb]; exact hy) (hb_H A) (hb_H B) (by rw [hb_len]; exact hl) (by rw [hb_len]; exact hl2)
  rwa [show decide (hb A = hb B) = decide (A = B) by rw [Bool.eq_iff_iff]; simp only [decide_eq_true_eq]; exact ⟨hb_inj, fun e => by rw [e]⟩] at this
/-- Some leaves. -/
def someHH (seed : UInt8) (i : Nat) : Hash := ⟨someH seed i, by simp [someH]⟩
def someL (seed : UInt8) (n : Nat) : List Hash := (List.range n).map (someHH seed)
theorem someL_hb (seed : UInt8) (n : Nat) : hb (someL seed n) = someS seed n := by simp [someL, hb, someS, someHH, Function.comp_def]
theorem Some_h (σ : Store) (n : Int) (seed : UInt8) (h : n < 1000000) : ACallsTo TC 79 [.int .i64 n, .int .u8 seed.toNat] σ (slVal 32 (hr (someL seed n.toNat))) σ := by
  have := Some_to σ n seed h
  rwa [← someL_hb, hr_hb] at this
theorem hsl_h {a : AV} (h : Sh (.sl 32 hashTy) a) : ∃ l : List Hash, SlV 32 (hr l) a ∧ l.length ≤ maxLen := by
  obtain ⟨hs, h1, h2, h3⟩ := hsl_of h
  obtain ⟨m, rfl⟩ := hb_of h2
  exact ⟨m, by rwa [hr_hb] at h1, by rwa [hb_len] at h3⟩
end Am
end Go.Proofs.YthgcooppjhcgcaaDoor
end
section
set_option linter.unusedSimpArgs false
set_option linter.unusedVariables false
/- Ranges: plain laws: trees side by side, and what is pushed behind them. -/
set_option linter.unusedSimpArgs false
set_option linter.unusedVariables false
namespace Go.Proofs.YthgcooppjhcgcaaDoor
namespace Am
/-- A tree behind others, the last one first. -/
def pushR : Nat → List Hash → Hash → List Hash
  | _, [], h => [h]
  | m, x :: rs, h => if m % 2 = 1 then pushR (m / 2) rs (nodeH x h) else h :: x :: rs
theorem pushR_even {m : Nat} {rs : List Hash} {h : Hash} (hm : m % 2 = 0) : pushR m rs h = h :: rs := by
  cases rs with
  | nil => rfl
  | cons x rs => simp [pushR, hm]
theorem pushR_odd {m : Nat} {rs : List Hash} {x h : Hash} (hm : m % 2 = 1) : pushR m (x :: rs) h = pushR (m / 2) rs (nodeH x h) := by simp [pushR, hm]
theorem push_len : ∀ (f m : Nat) (rs : List Hash) (h : Hash), m + 1 < 2 ^ f → rs.length = pc f m → (pushR m rs h).length = pc f (m + 1)
  | 0, _, _, _, h, _ => by simp at h
  | f + 1, m, rs, h, hm, hl => by
    have e2 := Nat.pow_succ (n := 2) (m := f)
    simp only [pc] at hl ⊢
    by_cases h1 : m % 2 = 1
    · match rs, hl with
      | [], hl => simp at hl; omega
      | x :: rs, hl =>
        simp only [List.length_cons] at hl
        rw [pushR_odd h1, push_len f (m / 2) rs (nodeH x h) (by omega) (by omega), show (m + 1) / 2 = m / 2 + 1 by omega]
        omega
    · rw [pushR_even (by omega), List.length_cons, show (m + 1) / 2 = m / 2 by omega]
      omega
theorem pc_two (j f m : Nat) : pc (f + j) (2 ^ j * m) = pc f m := by
  induction j with
  | zero => simp
  | succ j ih =>
    have h1 : 2 ^ (j + 1) * m = 2 * (2 ^ j * m) := by rw [Nat.pow_succ, Nat.mul_comm (2 ^ j) 2, Nat.mul_assoc]
    show pc ((f + j) + 1) _ = _
    simp only [pc]
    rw [h1, Nat.mul_div_cancel_left _ (by decide), ih]; omega
/-- Leaves behind a range, one by one. -/
def extR : Nat → List Hash → List Hash → List Hash
  | _, rs, [] => rs
  | n, rs, x :: l => extR (n + 1) (pushR n rs x) l
theorem extR_app : ∀ (n : Nat) (rs l m : List Hash), extR n rs (l ++ m) = extR (n + l.length) (extR n rs l) m
  | n, rs, [], m => by simp [extR]
  | n, rs, x :: l, m => by
    simp only [List.cons_append, extR, List.length_cons]
    rw [extR_app (n + 1), show n + 1 + l.length = n + (l.length + 1) by omega]
theorem extR_len : ∀ (f n : Nat) (rs l : List Hash), n + l.length < 2 ^ f → rs.length = pc f n → (extR n rs l).length = pc f (n + l.length)
  | _, _, _, [], _, h => h
  | f, n, rs, x :: l, h, hl => by
    simp only [List.length_cons] at h ⊢
    simp only [extR]
    rw [extR_len f (n + 1) _ l (by omega) (push_len f n rs x (by omega) hl), show n + 1 + l.length = n + (l.length + 1) by omega]
def ofR (l : List Hash) : List Hash := extR 0 [] l
theorem split_pow2 (j : Nat) : splitS (2 ^ (j + 1)) = 2 ^ j := by
  have : 0 < 2 ^ j := Nat.pow_pos (by decide)
  exact split_uniq (by rw [Nat.pow_succ]; omega) (Nat.le_refl _)
theorem root_pow2 {j : Nat} {c : List Hash} (h : c.length = 2 ^ (j + 1)) : rootH c = nodeH (rootH (c.take (2 ^ j))) (rootH (c.drop (2 ^ j))) := by
  have : 0 < 2 ^ j := Nat.pow_pos (by decide)
  rw [rootH_two (by rw [h, Nat.pow_succ]; omega), h, split_pow2]
/-- A full tree is pushed at once. -/
theorem ext_chunk : ∀ (j q : Nat) (rs c : List Hash), c.length = 2 ^ j → extR (2 ^ j * q) rs c = pushR q rs (rootH c)
  | 0, q, rs, c, h => by
    match c, h with
    | [x], _ => simp [extR, rootH_one]
  | j + 1, q, rs, c, h => by
    have hp : 0 < 2 ^ j := Nat.pow_pos (by decide)
    have e2 := Nat.pow_succ (n := 2) (m := j)
    have l1 : (c.take (2 ^ j)).length = 2 ^ j := by rw [List.length_take]; omega
    have l2 : (c.drop (2 ^ j)).length = 2 ^ j := by rw [List.length_drop]; omega
    have e : extR (2 ^ (j + 1) * q) rs c = extR (2 ^ (j + 1) * q) rs (c.take (2 ^ j) ++ c.drop (2 ^ j)) := by rw [List.take_append_drop]
    rw [e, extR_app, l1, show 2 ^ (j + 1) * q = 2 ^ j * (2 * q) by rw [e2, Nat.mul_assoc], ext_chunk j (2 * q) rs _ l1, show 2 ^ j * (2 * q) + 2 ^ j = 2 ^ j * (2 * q + 1) by rw [Nat.mul_add, Nat.mul_one],
      ext_chunk j (2 * q + 1) _ _ l2, pushR_even (m := 2 * q) (by omega), pushR_odd (by omega), show (2 * q + 1) / 2 = q by omega, root_pow2 h]
/-- The root of trees. -/
def rootR : List Hash → Hash
  | [] => shaH []
  | x :: rs => rs.foldl (fun o h => nodeH h o) x
theorem push_base : ∀ (j f i : Nat) (rs : List Hash) (a x : Hash), i + 1 < 2 ^ j → rs.length = pc f i → j ≤ f → pushR (2 ^ j + i) (rs ++ [a]) x = pushR i rs x ++ [a]
  | 0, _, _, _, _, _, h, _, _ => by simp at h
  | j + 1, 0, _, _, _, _, _, _, h => by omega
  | j + 1, f + 1, i, rs, a, x, h, hl, hj => by
    have e2 := Nat.pow_succ (n := 2) (m := j)
    simp only [pc] at hl
    by_cases h1 : i % 2 = 1
    · match rs, hl with
      | [], hl => simp at hl; omega
      | y :: rs, hl =>
        simp only [List.length_cons] at hl
        rw [List.cons_append, pushR_odd (by omega), pushR_odd h1, show (2 ^ (j + 1) + i) / 2 = 2 ^ j + i / 2 by omega]
        exact push_base j f (i / 2) rs a _ (by omega) (by omega) (by omega)
    · rw [pushR_even (by omega), pushR_even (by omega)]; rfl
theorem ext_base : ∀ (j : Nat) (b : List Hash) (i : Nat) (rs : List Hash) (a : Hash), i + b.length < 2 ^ j → rs.length = pc j i → extR (2 ^ j + i) (rs ++ [a]) b = extR i rs b ++ [a]
  | _, [], _, _, _, _, _ => rfl
  | j, x :: b, i, rs, a, h, hl => by
    simp only [List.length_cons] at h
    simp only [extR]
    rw [push_base j j i rs a x (by omega) hl (Nat.le_refl _), Nat.add_assoc]
    exact ext_base j b (i + 1) _ a (by omega) (push_len j i rs x (by omega) hl)
theorem rootR_snoc {l : List Hash} {a : Hash} (h : l ≠ []) : rootR (l ++ [a]) = nodeH a (rootR l) := by
  match l, h with
  | x :: l, _ => simp [rootR]
theorem ofR_root : ∀ (f : Nat) (l : List Hash), l.length < f → rootR (ofR l) = rootH l
  | 0, _, h => by omega
  | f + 1, [], _ => rfl
  | f + 1, x :: m, h => by
    obtain ⟨l, hl⟩ : ∃ l, l = x :: m := ⟨_, rfl⟩
    have hp : 0 < l.length := by rw [hl]; simp
    rw [← hl] at h ⊢
    clear hl
    have h1 := Nat.log2_self_le (n := l.length) (by omega)
    have h2 := Nat.lt_log2_self (n := l.length)
    generalize Nat.log2 l.length = j at *
    rw [Nat.pow_succ] at h2
    have hj : 0 < 2 ^ j := Nat.pow_pos (by decide)
    by_cases h3 : l.length = 2 ^ j
    · have := ext_chunk j 0 [] l h3
      rw [Nat.mul_zero] at this
      rw [ofR, this]; rfl
    · have l1 : (l.take (2 ^ j)).length = 2 ^ j := by rw [List.length_take]; omega
      have e : ofR l = extR 0 [] (l.take (2 ^ j) ++ l.drop (2 ^ j)) := by rw [List.take_append_drop]; rfl
      have c := ext_chunk j 0 [] _ l1
      rw [Nat.mul_zero] at c
      have b := ext_base j (l.drop (2 ^ j)) 0 [] (rootH (l.take (2 ^ j))) (by rw [List.length_drop]; omega) (by rw [pc_zero]; rfl)
      have hne : extR 0 [] (l.drop (2 ^ j)) ≠ [] := by
        intro hn
        have := extR_len (j + 1) 0 [] (l.drop (2 ^ j)) (by rw [List.length_drop, Nat.pow_succ]; omega) (by rw [pc_zero]; rfl)
        rw [hn] at this
        exact pc_pos (j + 1) _ (by rw [List.length_drop]; omega) (by rw [List.length_drop, Nat.pow_succ]; omega) this.symm
      have ih := ofR_root f (l.drop (2 ^ j)) (by rw [List.length_drop]; omega)
      simp only [ofR] at ih
      rw [e, extR_app, l1, c, show pushR 0 [] (rootH (l.take (2 ^ j))) = [] ++ [rootH (l.take (2 ^ j))] from rfl, show 0 + 2 ^ j = 2 ^ j + 0 by omega, b, rootR_snoc hne, ih, rootH_two (l := l) (by omega),
        split_uniq (n := l.length) (j := j) (by omega) (by rw [Nat.pow_succ]; omega)]
where
  pc_pos : ∀ (f n : Nat), 0 < n → n < 2 ^ f → pc f n ≠ 0
    | 0, n, h, h' => by simp at h'; omega
    | f + 1, n, h, h' => by
      rw [Nat.pow_succ] at h'
      simp only [pc]
      by_cases h1 : n % 2 = 1
      · omega
      · have := pc_pos f (n / 2) (by omega) (by omega); omega
end Am
end Go.Proofs.YthgcooppjhcgcaaDoor
end
section
set_option linter.unusedSimpArgs false
set_option linter.unusedVariables false
/- Ranges: plain laws: the parts of leaves that stand behind others. -/
set_option linter.unusedSimpArgs false
set_option linter.unusedVariables false
namespace Go.Proofs.YthgcooppjhcgcaaDoor
namespace Am
/-- How many leaves the next part has, of d behind n. -/
def StepIs (n d k : Nat) : Prop := ∃ t, k = 2 ^ t ∧ 2 ^ t ≤ d ∧ 2 ^ t ∣ n ∧ ¬ (2 ^ (t + 1) ≤ d ∧ 2 ^ (t + 1) ∣ n)
theorem StepIs.uniq {n d k k' : Nat} (h : StepIs n d k) (h' : StepIs n d k') : k = k' := by
  obtain ⟨t, rfl, a1, a2, a3⟩ := h
  obtain ⟨u, rfl, b1, b2, b3⟩ := h'
  rcases Nat.lt_trichotomy t u with hl | rfl | hl
  · exact absurd ⟨Nat.le_trans (Nat.pow_le_pow_right (by decide) hl) b1, Nat.dvd_trans (Nat.pow_dvd_pow 2 hl) b2⟩ a3
  · rfl
  · exact absurd ⟨Nat.le_trans (Nat.pow_le_pow_right (by decide) hl) a1, Nat.dvd_trans (Nat.pow_dvd_pow 2 hl) a2⟩ b3
def stepF : Nat → Nat → Nat → Nat → Nat
  | 0, _, _, k => k
  | f + 1, n, d, k => if 2 * k ≤ d ∧ n % (2 * k) = 0 then stepF f n d (2 * k) else k
theorem stepF_is : ∀ (f n d t : Nat), d < 2 ^ (f + t) → 2 ^ t ≤ d → 2 ^ t ∣ n → StepIs n d (stepF f n d (2 ^ t))
  | 0, n, d, t, h, h1, _ => by rw [Nat.zero_add] at h; omega
  | f + 1, n, d, t, h, h1, h2 => by
    have e2 : 2 * 2 ^ t = 2 ^ (t + 1) := by rw [Nat.pow_succ, Nat.mul_comm]
    simp only [stepF]
    rw [e2]
    split
    · rename_i hc
      exact stepF_is f n d (t + 1) (by rw [show f + (t + 1) = f + 1 + t by omega]; exact h) hc.1 (Nat.dvd_of_mod_eq_zero hc.2)
    · rename_i hc
      exact ⟨t, rfl, h1, h2, fun hh => hc ⟨hh.1, Nat.mod_eq_zero_of_dvd hh.2⟩⟩
def stepS (n d : Nat) : Nat := stepF 13 n d 1
theorem stepS_is {n d : Nat} (h : d < 8192) (h0 : 0 < d) : StepIs n d (stepS n d) := stepF_is 13 n d 0 h h0 ⟨n, by simp⟩
theorem stepS_pos {n d : Nat} (h : d < 8192) (h0 : 0 < d) : 0 < stepS n d ∧ stepS n d ≤ d := by
  obtain ⟨t, e, h1, _⟩ := stepS_is (n := n) h h0
  rw [e]; exact ⟨Nat.pow_pos (by decide), h1⟩
/-- How many leaves each part has. -/
def partsF : Nat → Nat → Nat → List Nat
  | 0, _, _ => []
  | f + 1, n, d => if d = 0 then [] else stepS n d :: partsF f (n + stepS n d) (d - stepS n d)
def partsS (n d : Nat) : List Nat := partsF d n d
theorem partsF_eq : ∀ (f g n d : Nat), d ≤ f → d ≤ g → d < 8192 → partsF f n d = partsF g n d
  | 0, 0, _, _, _, _, _ => rfl
  | 0, g + 1, n, d, h, _, _ => by simp only [partsF]; rw [if_pos (by omega)]
  | f + 1, 0, n, d, _, h, _ => by simp only [partsF]; rw [if_pos (by omega)]
  | f + 1, g + 1, n, d, h, h', hd => by
    simp only [partsF]
    by_cases h0 : d = 0
    · rw [if_pos h0, if_pos h0]
    · obtain ⟨s1, s2⟩ := stepS_pos (n := n) hd (by omega)
      rw [if_neg h0, if_neg h0, partsF_eq f g _ _ (by omega) (by omega) (by omega)]
theorem partsS_zero (n : Nat) : partsS n 0 = [] := rfl
theorem partsS_pos {n d : Nat} (h : d < 8192) (h0 : 0 < d) : partsS n d = stepS n d :: partsS (n + stepS n d) (d - stepS n d) := by
  obtain ⟨s1, s2⟩ := stepS_pos (n := n) h h0
  unfold partsS
  rw [show partsF d n d = partsF ((d - 1) + 1) n d by congr 1; omega]
  simp only [partsF]
  rw [if_neg (by omega), partsF_eq (d - 1) (d - stepS n d) _ _ (by omega) (Nat.le_refl _) (by omega)]
theorem partsS_sum : ∀ (f n d : Nat), d ≤ f → d < 8192 → (partsS n d).sum = d ∧ (partsS n d).length ≤ d
  | 0, n, d, h, _ => by obtain rfl : d = 0 := by omega
                        exact ⟨rfl, Nat.le_refl _⟩
  | f + 1, n, d, h, hd => by
    by_cases h0 : d = 0
    · subst h0; exact ⟨rfl, Nat.le_refl _⟩
    · obtain ⟨s1, s2⟩ := stepS_pos (n := n) hd (by omega)
      obtain ⟨i1, i2⟩ := partsS_sum f (n + stepS n d) (d - stepS n d) (by omega) (by omega)
      rw [partsS_pos hd (by omega), List.sum_cons, List.length_cons]
      omega
/-- The roots of parts. -/
def rootsL : List Nat → List Hash → List Hash
  | [], _ => []
  | k :: ks, l => rootH (l.take k) :: rootsL ks (l.drop k)
theorem rootsL_len : ∀ (ks : List Nat) (l : List Hash), (rootsL ks l).length = ks.length
  | [], _ => rfl
  | _ :: ks, l => by simp [rootsL, rootsL_len ks]
/-- Parts behind a range. -/
def mergeL : Nat → List Hash → List Nat → List Hash → List Hash
  | _, rs, [], _ => rs
  | n, rs, k :: ks, p => mergeL (n + k) (pushR (n / k) rs (hd p 0)) ks (p.drop 1)
theorem merge_ext : ∀ (f n d : Nat) (rs l : List Hash), d ≤ f → d < 8192 → l.length = d → mergeL n rs (partsS n d) (rootsL (partsS n d) l) = extR n rs l
  | 0, n, d, rs, l, h, _, hl => by
    obtain rfl : d = 0 := by omega
    obtain rfl : l = [] := List.eq_nil_of_length_eq_zero hl
    rfl
  | f + 1, n, d, rs, l, h, hd', hl => by
    by_cases h0 : d = 0
    · subst h0
      obtain rfl : l = [] := List.eq_nil_of_length_eq_zero hl
      rfl
    · obtain ⟨s1, s2⟩ := stepS_pos (n := n) hd' (by omega)
      obtain ⟨t, e, h1, ⟨q, hq⟩, _⟩ := stepS_is (n := n) hd' (by omega)
      have lt : (l.take (stepS n d)).length = stepS n d := by rw [List.length_take]; omega
      rw [partsS_pos hd' (by omega)]
      simp only [rootsL, mergeL, List.drop_one, List.tail_cons]
      rw [show hd (rootH (l.take (stepS n d)) :: rootsL (partsS (n + stepS n d) (d - stepS n d)) (l.drop (stepS n d))) 0 = rootH (l.take (stepS n d)) from rfl]
      rw [merge_ext f _ _ _ _ (by omega) (by omega) (by rw [List.length_drop]; omega)]
      have ec := ext_chunk t q rs (l.take (stepS n d)) (by rw [lt, e])
      rw [← hq] at ec
      have eq_ : n / stepS n d = q := by
        rw [e, hq]
        exact Nat.mul_div_cancel_left _ (Nat.pow_pos (by decide))
      rw [eq_, ← ec]
      have := extR_app n rs (l.take (stepS n d)) (l.drop (stepS n d))
      rw [lt, List.take_append_drop] at this
      exact this.symm
theorem merge_len : ∀ (f n d : Nat) (rs p : List Hash), d ≤ f → n + d < 8192 → rs.length = pc 13 n → (mergeL n rs (partsS n d) p).length = pc 13 (n + d)
  | 0, n, d, rs, p, h, _, hl => by obtain rfl : d = 0 := by omega
                                   exact hl
  | f + 1, n, d, rs, p, h, hd', hl => by
    by_cases h0 : d = 0
    · subst h0; exact hl
    · obtain ⟨s1, s2⟩ := stepS_pos (n := n) (d := d) (by omega) (by omega)
      obtain ⟨t, e, h1, ⟨q, hq⟩, _⟩ := stepS_is (n := n) (d := d) (by omega) (by omega)
      rw [partsS_pos (by omega) (by omega)]
      simp only [mergeL]
      have hp : 0 < 2 ^ t := Nat.pow_pos (by decide)
      have eq_ : n / stepS n d = q := by
        rw [e, hq]
        exact Nat.mul_div_cancel_left _ hp
      have ht : t ≤ 12 := by
        rcases Nat.lt_or_ge t 13 with h | h
        · omega
        · have := Nat.pow_le_pow_right (n := 2) (by decide) h
          omega
      have e13 : (2 : Nat) ^ 13 = 2 ^ t * 2 ^ (13 - t) := by rw [← Nat.pow_add]; congr 1; omega
      have hpl := push_len (13 - t) q rs (hd p 0) (by
        have hh : 2 ^ t * (q + 1) < 2 ^ t * 2 ^ (13 - t) := by rw [← e13, Nat.mul_add, ← hq]; omega
        exact Nat.lt_of_mul_lt_mul_left hh) (by
        have := pc_two t (13 - t) q
        rw [← hq, show 13 - t + t = 13 by omega] at this
        rw [hl, this])
      have := merge_len f (n + stepS n d) (d - stepS n d) (pushR (n / stepS n d) rs (hd p 0)) (p.drop 1) (by omega) (by omega) (by
        rw [eq_, hpl]
        have := pc_two t (13 - t) (q + 1)
        rw [show 13 - t + t = 13 by omega] at this
        rw [← this, Nat.mul_add, ← hq, e]; simp)
      rw [this]; congr 1; omega
end Am
end Go.Proofs.YthgcooppjhcgcaaDoor
end
section
set_option linter.unusedSimpArgs false
set_option linter.unusedVariables false
/- Abstract code. (Printed by wip/gen.) -/
set_option maxRecDepth 10000
namespace Go.Proofs.YthgcooppjhcgcaaDoor
namespace Am



@[go_sem] def speculumlaw05_RangesSame_r0 : List AIns := [
  ⟨some 4, none, .no, .mv (.v (.bool false))⟩]
@[go_sem] def speculumlaw05_RangesSame_r1 : List AIns := [
  ⟨some 20, none, .no, .mv (.t 0)⟩,
  ⟨some 21, none, .no, .lenSl (.t 20)⟩,
  ⟨some 22, none, .no, .bin .gtr .none (.t 21) (.v (.int .i64 (80)))⟩]
@[go_sem] def speculumlaw05_RangesSame_r2 : List AIns := [
  ⟨some 23, none, .no, .call (.v (.fn 15 [])) []⟩,
  ⟨some 4, none, .no, .mv (.t 23)⟩]
def speculumlaw05_RangesSame_c3 : ACode := .seq (.reg speculumlaw05_RangesSame_r2) .ret
def speculumlaw05_RangesSame_c4 : ACode := .cond (.t 22) speculumlaw05_RangesSame_c3 .skip
def speculumlaw05_RangesSame_c5 : ACode := .seq (.reg speculumlaw05_RangesSame_r1) speculumlaw05_RangesSame_c4
@[go_sem] def speculumlaw05_RangesSame_r6 : List AIns := [
  ⟨some 24, none, .no, .mv (.t 1)⟩,
  ⟨some 25, none, .no, .conv (.int .i64) (.t 24)⟩,
  ⟨some 26, none, .no, .mv (.t 0)⟩,
  ⟨some 27, none, .no, .lenSl (.t 26)⟩,
  ⟨some 28, none, .no, .bin .add .none (.t 27) (.v (.int .i64 (1)))⟩,
  ⟨some 29, none, .no, .bin .rem .none (.t 25) (.t 28)⟩,
  ⟨some 5, none, .no, .mv (.t 29)⟩]
@[go_sem] def speculumlaw05_RangesSame_r7 : List AIns := [
  ⟨some 31, none, .no, .mv (.t 0)⟩,
  ⟨some 32, none, .no, .call (.v (.fn 25 [])) [(.t 31)]⟩,
  ⟨some 30, none, .no, .mv (.t 32)⟩,
  ⟨some 33, none, .no, .ext 0 (.t 30)⟩,
  ⟨some 34, none, .no, .ext 1 (.t 30)⟩,
  ⟨some 6, none, .no, .alloc [(.int .i64 (0)), .nilsl]⟩,
  ⟨none, none, .no, .store 2 (.t 6) (.t 33)⟩,
  ⟨some 7, none, .no, .mv (.t 34)⟩]
@[go_sem] def speculumlaw05_RangesSame_r8 : List AIns := [
  ⟨some 35, none, .no, .mv (.t 7)⟩,
  ⟨some 36, none, .no, .bin .neq .none (.t 35) (.v (.int .i64 (0)))⟩,
  ⟨some 37, none, .no, .mv (.t 36)⟩,
  ⟨some 38, some (37, false), .no, .load true 2 (.t 6)⟩,
  ⟨some 39, some (37, false), .no, .call (.v (.fn 21 [])) [(.t 38)]⟩,
  ⟨some 40, some (37, false), .no, .un .not (.t 39)⟩,
  ⟨some 41, none, .no, .pick (.t 37) (.v (.bool true)) (.t 40)⟩]
@[go_sem] def speculumlaw05_RangesSame_r9 : List AIns := [
  ⟨some 4, none, .no, .mv (.v (.bool false))⟩]
def speculumlaw05_RangesSame_c10 : ACode := .seq (.reg speculumlaw05_RangesSame_r9) .ret
def speculumlaw05_RangesSame_c11 : ACode := .cond (.t 41) speculumlaw05_RangesSame_c10 .skip
def speculumlaw05_RangesSame_c12 : ACode := .seq (.reg speculumlaw05_RangesSame_r8) speculumlaw05_RangesSame_c11
@[go_sem] def speculumlaw05_RangesSame_r13 : List AIns := [
  ⟨some 8, none, .no, .alloc [(.int .i64 (0)), .nilsl]⟩]
@[go_sem] def speculumlaw05_RangesSame_r14 : List AIns := [
  ⟨some 9, none, .no, .mv (.v (.int .i64 (0)))⟩]
@[go_sem] def speculumlaw05_RangesSame_r15 : List AIns := [
  ⟨some 42, none, .no, .mv (.t 9)⟩,
  ⟨some 43, none, .no, .mv (.t 0)⟩,
  ⟨some 44, none, .no, .lenSl (.t 43)⟩,
  ⟨some 45, none, .no, .bin .lss .none (.t 42) (.t 44)⟩]
def speculumlaw05_RangesSame_c16 : ACode := .cond (.t 45) .skip (.exit 0)
def speculumlaw05_RangesSame_c17 : ACode := .seq (.reg speculumlaw05_RangesSame_r15) speculumlaw05_RangesSame_c16
@[go_sem] def speculumlaw05_RangesSame_r18 : List AIns := [
  ⟨some 49, none, .rd, .load true 2 (.t 8)⟩,
  ⟨some 50, none, .no, .mv (.t 0)⟩,
  ⟨some 51, none, .no, .mv (.t 9)⟩,
  ⟨some 52, none, .no, .iaSl 32 (.t 50) (.t 51)⟩,
  ⟨some 53, none, .rd, .load true 32 (.t 52)⟩,
  ⟨some 54, none, .no, .call (.v (.fn 26 [])) [(.t 49), (.t 53)]⟩,
  ⟨some 48, none, .no, .mv (.t 54)⟩,
  ⟨some 55, none, .no, .ext 0 (.t 48)⟩,
  ⟨some 56, none, .no, .ext 1 (.t 48)⟩,
  ⟨none, none, .no, .store 2 (.t 8) (.t 55)⟩,
  ⟨some 7, none, .no, .mv (.t 56)⟩]
@[go_sem] def speculumlaw05_RangesSame_r19 : List AIns := [
  ⟨some 57, none, .no, .mv (.t 7)⟩,
  ⟨some 58, none, .no, .bin .neq .none (.t 57) (.v (.int .i64 (0)))⟩]
@[go_sem] def speculumlaw05_RangesSame_r20 : List AIns := [
  ⟨some 4, none, .no, .mv (.v (.bool false))⟩]
def speculumlaw05_RangesSame_c21 : ACode := .seq (.reg speculumlaw05_RangesSame_r20) .ret
def speculumlaw05_RangesSame_c22 : ACode := .cond (.t 58) speculumlaw05_RangesSame_c21 .skip
def speculumlaw05_RangesSame_c23 : ACode := .seq (.reg speculumlaw05_RangesSame_r19) speculumlaw05_RangesSame_c22
def speculumlaw05_RangesSame_c24 : ACode := .seq (.reg speculumlaw05_RangesSame_r18) speculumlaw05_RangesSame_c23
@[go_sem] def speculumlaw05_RangesSame_r25 : List AIns := [
  ⟨some 46, none, .no, .mv (.t 9)⟩,
  ⟨some 47, none, .no, .bin .add .none (.t 46) (.v (.int .i64 (1)))⟩,
  ⟨some 9, none, .no, .mv (.t 47)⟩]
def speculumlaw05_RangesSame_c26 : ACode := .seq (.block 1 speculumlaw05_RangesSame_c24) (.reg speculumlaw05_RangesSame_r25)
def speculumlaw05_RangesSame_c27 : ACode := .seq speculumlaw05_RangesSame_c17 speculumlaw05_RangesSame_c26
def speculumlaw05_RangesSame_c28 : ACode := .loop speculumlaw05_RangesSame_c27
def speculumlaw05_RangesSame_c29 : ACode := .block 0 speculumlaw05_RangesSame_c28
def speculumlaw05_RangesSame_c30 : ACode := .seq (.reg speculumlaw05_RangesSame_r14) speculumlaw05_RangesSame_c29
@[go_sem] def speculumlaw05_RangesSame_r31 : List AIns := [
  ⟨some 60, none, .no, .mv (.t 0)⟩,
  ⟨some 61, none, .no, .mv (.t 5)⟩,
  ⟨some 62, none, .no, .slice (.sl 32) (.t 60) none (some (.t 61)) none⟩,
  ⟨some 63, none, .no, .call (.v (.fn 25 [])) [(.t 62)]⟩,
  ⟨some 59, none, .no, .mv (.t 63)⟩,
  ⟨some 64, none, .no, .ext 0 (.t 59)⟩,
  ⟨some 65, none, .no, .ext 1 (.t 59)⟩,
  ⟨some 10, none, .no, .alloc [(.int .i64 (0)), .nilsl]⟩,
  ⟨none, none, .no, .store 2 (.t 10) (.t 64)⟩,
  ⟨some 11, none, .no, .mv (.t 65)⟩]
@[go_sem] def speculumlaw05_RangesSame_r32 : List AIns := [
  ⟨some 67, none, .rd, .load true 2 (.t 10)⟩,
  ⟨some 68, none, .no, .mv (.t 0)⟩,
  ⟨some 69, none, .no, .mv (.t 5)⟩,
  ⟨some 70, none, .no, .slice (.sl 32) (.t 68) (some (.t 69)) none none⟩,
  ⟨some 71, none, .ef, .call (.v (.fn 16 [])) [(.t 67), (.t 70)]⟩,
  ⟨some 66, none, .no, .mv (.t 71)⟩,
  ⟨some 72, none, .no, .ext 0 (.t 66)⟩,
  ⟨some 73, none, .no, .ext 1 (.t 66)⟩,
  ⟨some 12, none, .ef, .alloc [(.int .i64 (0)), .nilsl]⟩,
  ⟨none, none, .no, .store 2 (.t 12) (.t 72)⟩,
  ⟨some 13, none, .no, .mv (.t 73)⟩]
@[go_sem] def speculumlaw05_RangesSame_r33 : List AIns := [
  ⟨some 67, none, .rd, .load true 2 (.t 10)⟩,
  ⟨some 68, none, .no, .mv (.t 0)⟩,
  ⟨some 69, none, .no, .mv (.t 5)⟩,
  ⟨some 70, none, .no, .slice (.sl 32) (.t 68) (some (.t 69)) none none⟩,
  ⟨some 12, none, .ef, .alloc [(.int .i64 (0)), .nilsl]⟩,
  ⟨some 71, none, .ef, .call (.v (.fn 16 [])) [(.t 67), (.t 70)]⟩,
  ⟨some 66, none, .no, .mv (.t 71)⟩,
  ⟨some 72, none, .no, .ext 0 (.t 66)⟩,
  ⟨some 73, none, .no, .ext 1 (.t 66)⟩,
  ⟨none, none, .no, .store 2 (.t 12) (.t 72)⟩,
  ⟨some 13, none, .no, .mv (.t 73)⟩]
@[go_sem] def speculumlaw05_RangesSame_r34 : List AIns := [
  ⟨some 75, none, .no, .mv (.t 5)⟩,
  ⟨some 76, none, .no, .mv (.t 0)⟩,
  ⟨some 77, none, .no, .mv (.t 5)⟩,
  ⟨some 78, none, .no, .slice (.sl 32) (.t 76) (some (.t 77)) none none⟩,
  ⟨some 79, none, .no, .call (.v (.fn 27 [])) [(.t 75), (.t 78)]⟩,
  ⟨some 74, none, .no, .mv (.t 79)⟩,
  ⟨some 80, none, .no, .ext 0 (.t 74)⟩,
  ⟨some 81, none, .no, .ext 1 (.t 74)⟩,
  ⟨some 14, none, .no, .mv (.t 80)⟩,
  ⟨some 15, none, .no, .mv (.t 81)⟩]
@[go_sem] def speculumlaw05_RangesSame_r35 : List AIns := [
  ⟨some 83, none, .no, .load true 2 (.t 10)⟩,
  ⟨some 84, none, .no, .mv (.t 0)⟩,
  ⟨some 85, none, .no, .lenSl (.t 84)⟩,
  ⟨some 86, none, .no, .mv (.t 14)⟩,
  ⟨some 87, none, .no, .call (.v (.fn 23 [])) [(.t 83), (.t 85), (.t 86)]⟩,
  ⟨some 82, none, .no, .mv (.t 87)⟩,
  ⟨some 88, none, .no, .ext 0 (.t 82)⟩,
  ⟨some 89, none, .no, .ext 1 (.t 82)⟩,
  ⟨some 16, none, .no, .alloc [(.int .i64 (0)), .nilsl]⟩,
  ⟨none, none, .no, .store 2 (.t 16) (.t 88)⟩,
  ⟨some 17, none, .no, .mv (.t 89)⟩]
@[go_sem] def speculumlaw05_RangesSame_r36 : List AIns := [
  ⟨some 90, none, .no, .mv (.t 11)⟩,
  ⟨some 91, none, .no, .bin .neq .none (.t 90) (.v (.int .i64 (0)))⟩,
  ⟨some 92, none, .no, .mv (.t 91)⟩,
  ⟨some 93, some (92, false), .no, .mv (.t 13)⟩,
  ⟨some 94, some (92, false), .no, .bin .neq .none (.t 93) (.v (.int .i64 (0)))⟩,
  ⟨some 95, none, .no, .pick (.t 92) (.v (.bool true)) (.t 94)⟩,
  ⟨some 96, none, .no, .mv (.t 95)⟩,
  ⟨some 97, some (96, false), .no, .mv (.t 15)⟩,
  ⟨some 98, some (96, false), .no, .bin .neq .none (.t 97) (.v (.int .i64 (0)))⟩,
  ⟨some 99, none, .no, .pick (.t 96) (.v (.bool true)) (.t 98)⟩,
  ⟨some 100, none, .no, .mv (.t 99)⟩,
  ⟨some 101, some (100, false), .no, .mv (.t 17)⟩,
  ⟨some 102, some (100, false), .no, .bin .neq .none (.t 101) (.v (.int .i64 (0)))⟩,
  ⟨some 103, none, .no, .pick (.t 100) (.v (.bool true)) (.t 102)⟩,
  ⟨some 104, none, .no, .mv (.t 103)⟩,
  ⟨some 105, some (104, false), .no, .load true 2 (.t 6)⟩,
  ⟨some 106, some (104, false), .no, .load true 2 (.t 8)⟩,
  ⟨some 107, some (104, false), .no, .call (.v (.fn 28 [])) [(.t 105), (.t 106)]⟩,
  ⟨some 108, some (104, false), .no, .un .not (.t 107)⟩,
  ⟨some 109, none, .no, .pick (.t 104) (.v (.bool true)) (.t 108)⟩,
  ⟨some 110, none, .no, .mv (.t 109)⟩,
  ⟨some 111, some (110, false), .no, .load true 2 (.t 6)⟩,
  ⟨some 112, some (110, false), .no, .load true 2 (.t 12)⟩,
  ⟨some 113, some (110, false), .no, .call (.v (.fn 28 [])) [(.t 111), (.t 112)]⟩,
  ⟨some 114, some (110, false), .no, .un .not (.t 113)⟩,
  ⟨some 115, none, .no, .pick (.t 110) (.v (.bool true)) (.t 114)⟩,
  ⟨some 116, none, .no, .mv (.t 115)⟩,
  ⟨some 117, some (116, false), .no, .load true 2 (.t 6)⟩,
  ⟨some 118, some (116, false), .no, .load true 2 (.t 16)⟩,
  ⟨some 119, some (116, false), .no, .call (.v (.fn 28 [])) [(.t 117), (.t 118)]⟩,
  ⟨some 120, some (116, false), .no, .un .not (.t 119)⟩,
  ⟨some 121, none, .no, .pick (.t 116) (.v (.bool true)) (.t 120)⟩]
@[go_sem] def speculumlaw05_RangesSame_r37 : List AIns := [
  ⟨some 4, none, .no, .mv (.v (.bool false))⟩]
def speculumlaw05_RangesSame_c38 : ACode := .seq (.reg speculumlaw05_RangesSame_r37) .ret
def speculumlaw05_RangesSame_c39 : ACode := .cond (.t 121) speculumlaw05_RangesSame_c38 .skip
def speculumlaw05_RangesSame_c40 : ACode := .seq (.reg speculumlaw05_RangesSame_r36) speculumlaw05_RangesSame_c39
@[go_sem] def speculumlaw05_RangesSame_r41 : List AIns := [
  ⟨some 123, none, .no, .load true 2 (.t 6)⟩,
  ⟨some 124, none, .no, .call (.v (.fn 18 [])) [(.t 123)]⟩,
  ⟨some 122, none, .no, .mv (.t 124)⟩,
  ⟨some 125, none, .no, .ext 0 (.t 122)⟩,
  ⟨some 126, none, .no, .ext 1 (.t 122)⟩,
  ⟨some 18, none, .no, .alloc [(.int .u8 (0)), (.int .u8 (0)), (.int .u8 (0)), (.int .u8 (0)), (.int .u8 (0)), (.int .u8 (0)), (.int .u8 (0)), (.int .u8 (0)), (.int .u8 (0)), (.int .u8 (0)), (.int .u8 (0)), (.int .u8 (0)), (.int .u8 (0)), (.int .u8 (0)), (.int .u8 (0)), (.int .u8 (0)), (.int .u8 (0)), (.int .u8 (0)), (.int .u8 (0)), (.int .u8 (0)), (.int .u8 (0)), (.int .u8 (0)), (.int .u8 (0)), (.int .u8 (0)), (.int .u8 (0)), (.int .u8 (0)), (.int .u8 (0)), (.int .u8 (0)), (.int .u8 (0)), (.int .u8 (0)), (.int .u8 (0)), (.int .u8 (0))]⟩,
  ⟨none, none, .no, .store 32 (.t 18) (.t 125)⟩,
  ⟨some 19, none, .no, .mv (.t 126)⟩]
@[go_sem] def speculumlaw05_RangesSame_r42 : List AIns := [
  ⟨some 127, none, .no, .mv (.t 19)⟩,
  ⟨some 128, none, .no, .bin .eql .none (.t 127) (.v (.int .i64 (0)))⟩,
  ⟨some 129, none, .no, .mv (.t 128)⟩,
  ⟨some 130, some (129, true), .rd, .load true 32 (.t 18)⟩,
  ⟨some 131, some (129, true), .no, .mv (.t 0)⟩,
  ⟨some 132, some (129, true), .ef, .call (.v (.fn 29 [])) [(.t 131)]⟩,
  ⟨some 133, some (129, true), .no, .bin .eql (.agg (List.replicate 32 (.i .u8) ++ [])) (.t 130) (.t 132)⟩,
  ⟨some 134, none, .no, .pick (.t 129) (.t 133) (.v (.bool false))⟩,
  ⟨some 135, none, .no, .mv (.t 134)⟩,
  ⟨some 136, some (135, true), .no, .call (.v (.fn 15 [])) []⟩,
  ⟨some 137, none, .no, .pick (.t 135) (.t 136) (.v (.bool false))⟩,
  ⟨some 4, none, .no, .mv (.t 137)⟩]
def speculumlaw05_RangesSame_c43 : ACode := .seq (.reg speculumlaw05_RangesSame_r42) .ret
def speculumlaw05_RangesSame_c44 : ACode := .seq (.reg speculumlaw05_RangesSame_r41) speculumlaw05_RangesSame_c43
def speculumlaw05_RangesSame_c45 : ACode := .seq speculumlaw05_RangesSame_c40 speculumlaw05_RangesSame_c44
def speculumlaw05_RangesSame_c46 : ACode := .seq (.reg speculumlaw05_RangesSame_r35) speculumlaw05_RangesSame_c45
def speculumlaw05_RangesSame_c47 : ACode := .seq (.reg speculumlaw05_RangesSame_r34) speculumlaw05_RangesSame_c46
def speculumlaw05_RangesSame_c48 : ACode := .seq (.reg2 speculumlaw05_RangesSame_r32 speculumlaw05_RangesSame_r33) speculumlaw05_RangesSame_c47
def speculumlaw05_RangesSame_c49 : ACode := .seq (.reg speculumlaw05_RangesSame_r31) speculumlaw05_RangesSame_c48
def speculumlaw05_RangesSame_c50 : ACode := .seq speculumlaw05_RangesSame_c30 speculumlaw05_RangesSame_c49
def speculumlaw05_RangesSame_c51 : ACode := .seq (.reg speculumlaw05_RangesSame_r13) speculumlaw05_RangesSame_c50
def speculumlaw05_RangesSame_c52 : ACode := .seq speculumlaw05_RangesSame_c12 speculumlaw05_RangesSame_c51
def speculumlaw05_RangesSame_c53 : ACode := .seq (.reg speculumlaw05_RangesSame_r7) speculumlaw05_RangesSame_c52
def speculumlaw05_RangesSame_c54 : ACode := .seq (.reg speculumlaw05_RangesSame_r6) speculumlaw05_RangesSame_c53
def speculumlaw05_RangesSame_c55 : ACode := .seq speculumlaw05_RangesSame_c5 speculumlaw05_RangesSame_c54
def speculumlaw05_RangesSame_c56 : ACode := .seq (.reg speculumlaw05_RangesSame_r0) speculumlaw05_RangesSame_c55
theorem speculumlaw05_RangesSame_ok : cFn TC 4 = some (138, [.t 4], speculumlaw05_RangesSame_c56) := by kernel_rfl

@[go_sem] def speculumlaw05_ranged_r0 : List AIns := [
  ⟨some 0, none, .no, .mv (.v (.bool false))⟩]
@[go_sem] def speculumlaw05_ranged_r1 : List AIns := [
  ⟨some 13, none, .no, .call (.v (.fn 79 [])) [(.v (.int .i64 (6))), (.v (.int .u8 (9)))]⟩,
  ⟨some 1, none, .no, .mv (.t 13)⟩]
@[go_sem] def speculumlaw05_ranged_r2 : List AIns := [
  ⟨some 15, none, .no, .mv (.t 1)⟩,
  ⟨some 16, none, .no, .slice (.sl 32) (.t 15) none (some (.v (.int .i64 (5)))) none⟩,
  ⟨some 17, none, .no, .call (.v (.fn 25 [])) [(.t 16)]⟩,
  ⟨some 14, none, .no, .mv (.t 17)⟩,
  ⟨some 18, none, .no, .ext 0 (.t 14)⟩,
  ⟨some 19, none, .no, .ext 1 (.t 14)⟩,
  ⟨some 2, none, .no, .alloc [(.int .i64 (0)), .nilsl]⟩,
  ⟨none, none, .no, .store 2 (.t 2) (.t 18)⟩,
  ⟨some 3, none, .no, .mv (.t 19)⟩]
@[go_sem] def speculumlaw05_ranged_r3 : List AIns := [
  ⟨some 21, none, .rd, .load true 2 (.t 2)⟩,
  ⟨some 22, none, .no, .mv (.t 1)⟩,
  ⟨some 23, none, .no, .iaSl 32 (.t 22) (.v (.int .i64 (5)))⟩,
  ⟨some 24, none, .rd, .load true 32 (.t 23)⟩,
  ⟨some 25, none, .ef, .call (.v (.fn 26 [])) [(.t 21), (.t 24)]⟩,
  ⟨some 20, none, .no, .mv (.t 25)⟩,
  ⟨some 26, none, .no, .ext 0 (.t 20)⟩,
  ⟨some 27, none, .no, .ext 1 (.t 20)⟩,
  ⟨some 4, none, .ef, .alloc [(.int .i64 (0)), .nilsl]⟩,
  ⟨none, none, .no, .store 2 (.t 4) (.t 26)⟩,
  ⟨some 5, none, .no, .mv (.t 27)⟩]
@[go_sem] def speculumlaw05_ranged_r4 : List AIns := [
  ⟨some 21, none, .rd, .load true 2 (.t 2)⟩,
  ⟨some 22, none, .no, .mv (.t 1)⟩,
  ⟨some 23, none, .no, .iaSl 32 (.t 22) (.v (.int .i64 (5)))⟩,
  ⟨some 24, none, .rd, .load true 32 (.t 23)⟩,
  ⟨some 4, none, .ef, .alloc [(.int .i64 (0)), .nilsl]⟩,
  ⟨some 25, none, .ef, .call (.v (.fn 26 [])) [(.t 21), (.t 24)]⟩,
  ⟨some 20, none, .no, .mv (.t 25)⟩,
  ⟨some 26, none, .no, .ext 0 (.t 20)⟩,
  ⟨some 27, none, .no, .ext 1 (.t 20)⟩,
  ⟨none, none, .no, .store 2 (.t 4) (.t 26)⟩,
  ⟨some 5, none, .no, .mv (.t 27)⟩]
@[go_sem] def speculumlaw05_ranged_r5 : List AIns := [
  ⟨some 29, none, .no, .mv (.t 1)⟩,
  ⟨some 30, none, .no, .slice (.sl 32) (.t 29) (some (.v (.int .i64 (1)))) (some (.v (.int .i64 (5)))) none⟩,
  ⟨some 31, none, .no, .call (.v (.fn 27 [])) [(.v (.int .i64 (1))), (.t 30)]⟩,
  ⟨some 28, none, .no, .mv (.t 31)⟩,
  ⟨some 32, none, .no, .ext 0 (.t 28)⟩,
  ⟨some 33, none, .no, .ext 1 (.t 28)⟩,
  ⟨some 6, none, .no, .mv (.t 32)⟩,
  ⟨some 7, none, .no, .mv (.t 33)⟩]
@[go_sem] def speculumlaw05_ranged_r6 : List AIns := [
  ⟨some 35, none, .no, .mv (.t 1)⟩,
  ⟨some 36, none, .no, .slice (.sl 32) (.t 35) none (some (.v (.int .i64 (1)))) none⟩,
  ⟨some 37, none, .no, .call (.v (.fn 25 [])) [(.t 36)]⟩,
  ⟨some 34, none, .no, .mv (.t 37)⟩,
  ⟨some 38, none, .no, .ext 0 (.t 34)⟩,
  ⟨some 39, none, .no, .ext 1 (.t 34)⟩,
  ⟨some 8, none, .no, .alloc [(.int .i64 (0)), .nilsl]⟩,
  ⟨none, none, .no, .store 2 (.t 8) (.t 38)⟩,
  ⟨some 9, none, .no, .mv (.t 39)⟩]
@[go_sem] def speculumlaw05_ranged_r7 : List AIns := [
  ⟨some 41, none, .no, .load true 2 (.t 8)⟩,
  ⟨some 42, none, .no, .mv (.t 6)⟩,
  ⟨some 43, none, .no, .call (.v (.fn 23 [])) [(.t 41), (.v (.int .i64 (5))), (.t 42)]⟩,
  ⟨some 40, none, .no, .mv (.t 43)⟩,
  ⟨some 44, none, .no, .ext 0 (.t 40)⟩,
  ⟨some 45, none, .no, .ext 1 (.t 40)⟩,
  ⟨some 10, none, .no, .alloc [(.int .i64 (0)), .nilsl]⟩,
  ⟨none, none, .no, .store 2 (.t 10) (.t 44)⟩,
  ⟨some 11, none, .no, .mv (.t 45)⟩]
@[go_sem] def speculumlaw05_ranged_r8 : List AIns := [
  ⟨some 46, none, .no, .mv (.t 1)⟩,
  ⟨some 47, none, .no, .slice (.sl 32) (.t 46) none (some (.v (.int .i64 (4)))) none⟩,
  ⟨some 48, none, .no, .call (.v (.fn 29 [])) [(.t 47)]⟩,
  ⟨some 12, none, .no, .alloc [(.int .u8 (0)), (.int .u8 (0)), (.int .u8 (0)), (.int .u8 (0)), (.int .u8 (0)), (.int .u8 (0)), (.int .u8 (0)), (.int .u8 (0)), (.int .u8 (0)), (.int .u8 (0)), (.int .u8 (0)), (.int .u8 (0)), (.int .u8 (0)), (.int .u8 (0)), (.int .u8 (0)), (.int .u8 (0)), (.int .u8 (0)), (.int .u8 (0)), (.int .u8 (0)), (.int .u8 (0)), (.int .u8 (0)), (.int .u8 (0)), (.int .u8 (0)), (.int .u8 (0)), (.int .u8 (0)), (.int .u8 (0)), (.int .u8 (0)), (.int .u8 (0)), (.int .u8 (0)), (.int .u8 (0)), (.int .u8 (0)), (.int .u8 (0))]⟩,
  ⟨none, none, .no, .store 32 (.t 12) (.t 48)⟩]
@[go_sem] def speculumlaw05_ranged_r9 : List AIns := [
  ⟨some 49, none, .no, .mv (.t 3)⟩,
  ⟨some 50, none, .no, .bin .eql .none (.t 49) (.v (.int .i64 (0)))⟩,
  ⟨some 51, none, .no, .mv (.t 50)⟩,
  ⟨some 52, some (51, true), .no, .mv (.t 5)⟩,
  ⟨some 53, some (51, true), .no, .bin .eql .none (.t 52) (.v (.int .i64 (0)))⟩,
  ⟨some 54, none, .no, .pick (.t 51) (.t 53) (.v (.bool false))⟩,
  ⟨some 55, none, .no, .mv (.t 54)⟩,
  ⟨some 56, some (55, true), .no, .mv (.t 7)⟩,
  ⟨some 57, some (55, true), .no, .bin .eql .none (.t 56) (.v (.int .i64 (0)))⟩,
  ⟨some 58, none, .no, .pick (.t 55) (.t 57) (.v (.bool false))⟩,
  ⟨some 59, none, .no, .mv (.t 58)⟩,
  ⟨some 60, some (59, true), .no, .mv (.t 9)⟩,
  ⟨some 61, some (59, true), .no, .bin .eql .none (.t 60) (.v (.int .i64 (0)))⟩,
  ⟨some 62, none, .no, .pick (.t 59) (.t 61) (.v (.bool false))⟩,
  ⟨some 63, none, .no, .mv (.t 62)⟩,
  ⟨some 64, some (63, true), .no, .mv (.t 11)⟩,
  ⟨some 65, some (63, true), .no, .bin .eql .none (.t 64) (.v (.int .i64 (0)))⟩,
  ⟨some 66, none, .no, .pick (.t 63) (.t 65) (.v (.bool false))⟩,
  ⟨some 67, none, .no, .mv (.t 66)⟩,
  ⟨some 68, some (67, true), .no, .fa 0 (.t 2)⟩,
  ⟨some 69, some (67, true), .no, .load false 1 (.t 68)⟩,
  ⟨some 70, some (67, true), .no, .bin .eql .none (.t 69) (.v (.int .i64 (5)))⟩,
  ⟨some 71, none, .no, .pick (.t 67) (.t 70) (.v (.bool false))⟩,
  ⟨some 72, none, .no, .mv (.t 71)⟩,
  ⟨some 73, some (72, true), .no, .fa 1 (.t 2)⟩,
  ⟨some 74, some (72, true), .rd, .load false 1 (.t 73)⟩,
  ⟨some 75, some (72, true), .rd, .load true 32 (.t 12)⟩,
  ⟨some 76, some (72, true), .no, .mv (.t 1)⟩,
  ⟨some 77, some (72, true), .no, .iaSl 32 (.t 76) (.v (.int .i64 (4)))⟩,
  ⟨some 78, some (72, true), .rd, .load true 32 (.t 77)⟩,
  ⟨some 79, some (72, true), .no, .lit 32 [(.t 75), (.t 78)]⟩,
  ⟨some 80, some (72, true), .no, .call (.v (.fn 80 [])) [(.t 74), (.t 79)]⟩,
  ⟨some 81, none, .no, .pick (.t 72) (.t 80) (.v (.bool false))⟩,
  ⟨some 82, none, .no, .mv (.t 81)⟩,
  ⟨some 83, some (82, true), .no, .fa 1 (.t 4)⟩,
  ⟨some 84, some (82, true), .rd, .load false 1 (.t 83)⟩,
  ⟨some 85, some (82, true), .rd, .load true 32 (.t 12)⟩,
  ⟨some 86, some (82, true), .no, .mv (.t 1)⟩,
  ⟨some 87, some (82, true), .no, .iaSl 32 (.t 86) (.v (.int .i64 (4)))⟩,
  ⟨some 88, some (82, true), .rd, .load true 32 (.t 87)⟩,
  ⟨some 89, some (82, true), .no, .mv (.t 1)⟩,
  ⟨some 90, some (82, true), .no, .iaSl 32 (.t 89) (.v (.int .i64 (5)))⟩,
  ⟨some 91, some (82, true), .rd, .load true 32 (.t 90)⟩,
  ⟨some 92, some (82, true), .ef, .call (.v (.fn 81 [])) [(.t 88), (.t 91)]⟩,
  ⟨some 93, some (82, true), .no, .lit 32 [(.t 85), (.t 92)]⟩,
  ⟨some 94, some (82, true), .no, .call (.v (.fn 80 [])) [(.t 84), (.t 93)]⟩,
  ⟨some 95, none, .no, .pick (.t 82) (.t 94) (.v (.bool false))⟩,
  ⟨some 96, none, .no, .mv (.t 95)⟩,
  ⟨some 97, some (96, true), .no, .mv (.t 6)⟩,
  ⟨some 98, some (96, true), .no, .mv (.t 1)⟩,
  ⟨some 99, some (96, true), .no, .iaSl 32 (.t 98) (.v (.int .i64 (1)))⟩,
  ⟨some 100, some (96, true), .rd, .load true 32 (.t 99)⟩,
  ⟨some 101, some (96, true), .no, .mv (.t 1)⟩,
  ⟨some 102, some (96, true), .no, .iaSl 32 (.t 101) (.v (.int .i64 (2)))⟩,
  ⟨some 103, some (96, true), .rd, .load true 32 (.t 102)⟩,
  ⟨some 104, some (96, true), .no, .mv (.t 1)⟩,
  ⟨some 105, some (96, true), .no, .iaSl 32 (.t 104) (.v (.int .i64 (3)))⟩,
  ⟨some 106, some (96, true), .rd, .load true 32 (.t 105)⟩,
  ⟨some 107, some (96, true), .ef, .call (.v (.fn 81 [])) [(.t 103), (.t 106)]⟩,
  ⟨some 108, some (96, true), .no, .mv (.t 1)⟩,
  ⟨some 109, some (96, true), .no, .iaSl 32 (.t 108) (.v (.int .i64 (4)))⟩,
  ⟨some 110, some (96, true), .rd, .load true 32 (.t 109)⟩,
  ⟨some 111, some (96, true), .no, .lit 32 [(.t 100), (.t 107), (.t 110)]⟩,
  ⟨some 112, some (96, true), .no, .call (.v (.fn 80 [])) [(.t 97), (.t 111)]⟩,
  ⟨some 113, none, .no, .pick (.t 96) (.t 112) (.v (.bool false))⟩,
  ⟨some 114, none, .no, .mv (.t 113)⟩,
  ⟨some 115, some (114, true), .rd, .load true 2 (.t 2)⟩,
  ⟨some 116, some (114, true), .rd, .load true 2 (.t 10)⟩,
  ⟨some 117, some (114, true), .no, .call (.v (.fn 28 [])) [(.t 115), (.t 116)]⟩,
  ⟨some 118, none, .no, .pick (.t 114) (.t 117) (.v (.bool false))⟩,
  ⟨some 119, none, .no, .mv (.t 118)⟩,
  ⟨some 120, some (119, true), .no, .load true 32 (.t 12)⟩,
  ⟨some 121, some (119, true), .no, .build [(.int .u8 (0)), (.int .u8 (0)), (.int .u8 (0)), (.int .u8 (0)), (.int .u8 (0)), (.int .u8 (0)), (.int .u8 (0)), (.int .u8 (0)), (.int .u8 (0)), (.int .u8 (0)), (.int .u8 (0)), (.int .u8 (0)), (.int .u8 (0)), (.int .u8 (0)), (.int .u8 (0)), (.int .u8 (0)), (.int .u8 (0)), (.int .u8 (0)), (.int .u8 (0)), (.int .u8 (0)), (.int .u8 (0)), (.int .u8 (0)), (.int .u8 (0)), (.int .u8 (0)), (.int .u8 (0)), (.int .u8 (0)), (.int .u8 (0)), (.int .u8 (0)), (.int .u8 (0)), (.int .u8 (0)), (.int .u8 (0)), (.int .u8 (0))] []⟩,
  ⟨some 122, some (119, true), .no, .bin .neq (.agg (List.replicate 32 (.i .u8) ++ [])) (.t 120) (.t 121)⟩,
  ⟨some 123, none, .no, .pick (.t 119) (.t 122) (.v (.bool false))⟩,
  ⟨some 0, none, .no, .mv (.t 123)⟩]
def speculumlaw05_ranged_c10 : ACode := .seq (.reg speculumlaw05_ranged_r9) .ret
def speculumlaw05_ranged_c11 : ACode := .seq (.reg speculumlaw05_ranged_r8) speculumlaw05_ranged_c10
def speculumlaw05_ranged_c12 : ACode := .seq (.reg speculumlaw05_ranged_r7) speculumlaw05_ranged_c11
def speculumlaw05_ranged_c13 : ACode := .seq (.reg speculumlaw05_ranged_r6) speculumlaw05_ranged_c12
def speculumlaw05_ranged_c14 : ACode := .seq (.reg speculumlaw05_ranged_r5) speculumlaw05_ranged_c13
def speculumlaw05_ranged_c15 : ACode := .seq (.reg2 speculumlaw05_ranged_r3 speculumlaw05_ranged_r4) speculumlaw05_ranged_c14
def speculumlaw05_ranged_c16 : ACode := .seq (.reg speculumlaw05_ranged_r2) speculumlaw05_ranged_c15
def speculumlaw05_ranged_c17 : ACode := .seq (.reg speculumlaw05_ranged_r1) speculumlaw05_ranged_c16
def speculumlaw05_ranged_c18 : ACode := .seq (.reg speculumlaw05_ranged_r0) speculumlaw05_ranged_c17
theorem speculumlaw05_ranged_ok : cFn TC 15 = some (124, [.t 0], speculumlaw05_ranged_c18) := by kernel_rfl

@[go_sem] def ranges_Part_r0 : List AIns := [
  ⟨some 4, none, .no, .mv (.v .nilsl)⟩,
  ⟨some 5, none, .no, .mv (.v (.int .i64 (0)))⟩]
@[go_sem] def ranges_Part_r1 : List AIns := [
  ⟨some 9, none, .no, .mv (.t 0)⟩,
  ⟨some 10, none, .no, .bin .lss .none (.t 9) (.v (.int .i64 (0)))⟩,
  ⟨some 11, none, .no, .mv (.t 10)⟩,
  ⟨some 12, some (11, false), .no, .mv (.t 0)⟩,
  ⟨some 13, some (11, false), .no, .bin .gtr .none (.t 12) (.v (.int .i64 (4096)))⟩,
  ⟨some 14, none, .no, .pick (.t 11) (.v (.bool true)) (.t 13)⟩,
  ⟨some 15, none, .no, .mv (.t 14)⟩,
  ⟨some 16, some (15, false), .no, .mv (.t 1)⟩,
  ⟨some 17, some (15, false), .no, .lenSl (.t 16)⟩,
  ⟨some 18, some (15, false), .no, .mv (.t 0)⟩,
  ⟨some 19, some (15, false), .no, .bin .sub .none (.v (.int .i64 (4096))) (.t 18)⟩,
  ⟨some 20, some (15, false), .no, .bin .gtr .none (.t 17) (.t 19)⟩,
  ⟨some 21, none, .no, .pick (.t 15) (.v (.bool true)) (.t 20)⟩]
@[go_sem] def ranges_Part_r2 : List AIns := [
  ⟨some 4, none, .no, .mv (.v .nilsl)⟩,
  ⟨some 5, none, .no, .mv (.v (.int .i64 (2)))⟩]
def ranges_Part_c3 : ACode := .seq (.reg ranges_Part_r2) .ret
def ranges_Part_c4 : ACode := .cond (.t 21) ranges_Part_c3 .skip
def ranges_Part_c5 : ACode := .seq (.reg ranges_Part_r1) ranges_Part_c4
@[go_sem] def ranges_Part_r6 : List AIns := [
  ⟨some 6, none, .no, .mv (.v .nilsl)⟩]
@[go_sem] def ranges_Part_r7 : List AIns := [
  ⟨some 22, none, .no, .mv (.t 0)⟩,
  ⟨some 23, none, .no, .mv (.t 1)⟩,
  ⟨some 24, none, .no, .lenSl (.t 23)⟩,
  ⟨some 25, none, .no, .bin .add .none (.t 22) (.t 24)⟩,
  ⟨some 7, none, .no, .mv (.t 25)⟩]
@[go_sem] def ranges_Part_r8 : List AIns := [
  ⟨some 26, none, .no, .mv (.t 0)⟩,
  ⟨some 27, none, .no, .mv (.t 7)⟩,
  ⟨some 28, none, .no, .bin .lss .none (.t 26) (.t 27)⟩]
def ranges_Part_c9 : ACode := .cond (.t 28) .skip (.exit 0)
def ranges_Part_c10 : ACode := .seq (.reg ranges_Part_r8) ranges_Part_c9
@[go_sem] def ranges_Part_r11 : List AIns := [
  ⟨some 29, none, .no, .mv (.t 0)⟩,
  ⟨some 30, none, .no, .mv (.t 7)⟩,
  ⟨some 31, none, .no, .call (.v (.fn 92 [])) [(.t 29), (.t 30)]⟩,
  ⟨some 8, none, .no, .mv (.t 31)⟩]
@[go_sem] def ranges_Part_r12 : List AIns := [
  ⟨some 32, none, .no, .mv (.t 6)⟩,
  ⟨some 33, none, .no, .mv (.t 1)⟩,
  ⟨some 34, none, .no, .mv (.t 8)⟩,
  ⟨some 35, none, .no, .slice (.sl 32) (.t 33) none (some (.t 34)) none⟩,
  ⟨some 36, none, .no, .call (.v (.fn 29 [])) [(.t 35)]⟩,
  ⟨some 37, none, .no, .lit 32 [(.t 36)]⟩,
  ⟨some 38, none, .no, .app 32 (.t 32) (.t 37)⟩,
  ⟨some 6, none, .no, .mv (.t 38)⟩]
@[go_sem] def ranges_Part_r13 : List AIns := [
  ⟨some 39, none, .no, .mv (.t 0)⟩,
  ⟨some 40, none, .no, .mv (.t 8)⟩,
  ⟨some 41, none, .no, .bin .add .none (.t 39) (.t 40)⟩,
  ⟨some 42, none, .no, .mv (.t 1)⟩,
  ⟨some 43, none, .no, .mv (.t 8)⟩,
  ⟨some 44, none, .no, .slice (.sl 32) (.t 42) (some (.t 43)) none none⟩,
  ⟨some 0, none, .no, .mv (.t 41)⟩,
  ⟨some 1, none, .no, .mv (.t 44)⟩]
def ranges_Part_c14 : ACode := .seq (.reg ranges_Part_r12) (.reg ranges_Part_r13)
def ranges_Part_c15 : ACode := .seq (.reg ranges_Part_r11) ranges_Part_c14
def ranges_Part_c16 : ACode := .block 1 ranges_Part_c15
def ranges_Part_c17 : ACode := .seq ranges_Part_c10 ranges_Part_c16
def ranges_Part_c18 : ACode := .loop ranges_Part_c17
def ranges_Part_c19 : ACode := .block 0 ranges_Part_c18
def ranges_Part_c20 : ACode := .seq (.reg ranges_Part_r7) ranges_Part_c19
@[go_sem] def ranges_Part_r21 : List AIns := [
  ⟨some 45, none, .no, .mv (.t 6)⟩,
  ⟨some 4, none, .no, .mv (.t 45)⟩,
  ⟨some 5, none, .no, .mv (.v (.int .i64 (0)))⟩]
def ranges_Part_c22 : ACode := .seq (.reg ranges_Part_r21) .ret
def ranges_Part_c23 : ACode := .seq ranges_Part_c20 ranges_Part_c22
def ranges_Part_c24 : ACode := .seq (.reg ranges_Part_r6) ranges_Part_c23
def ranges_Part_c25 : ACode := .seq ranges_Part_c5 ranges_Part_c24
def ranges_Part_c26 : ACode := .seq (.reg ranges_Part_r0) ranges_Part_c25
theorem ranges_Part_ok : cFn TC 27 = some (46, [.t 4, .t 5], ranges_Part_c26) := by kernel_rfl

@[go_sem] def ranges_Of_r0 : List AIns := [
  ⟨some 2, none, .no, .alloc [(.int .i64 (0)), .nilsl]⟩,
  ⟨some 3, none, .no, .mv (.v (.int .i64 (0)))⟩]
@[go_sem] def ranges_Of_r1 : List AIns := [
  ⟨some 4, none, .no, .build [(.int .i64 (0)), .nilsl] []⟩,
  ⟨some 5, none, .no, .mv (.t 0)⟩,
  ⟨some 6, none, .no, .call (.v (.fn 16 [])) [(.t 4), (.t 5)]⟩,
  ⟨some 7, none, .no, .ext 0 (.t 6)⟩,
  ⟨some 8, none, .no, .ext 1 (.t 6)⟩,
  ⟨none, none, .no, .store 2 (.t 2) (.t 7)⟩,
  ⟨some 3, none, .no, .mv (.t 8)⟩]
def ranges_Of_c2 : ACode := .seq (.reg ranges_Of_r1) .ret
def ranges_Of_c3 : ACode := .seq (.reg ranges_Of_r0) ranges_Of_c2
theorem ranges_Of_ok : cFn TC 25 = some (9, [.c 2 true 2, .t 3], ranges_Of_c3) := by kernel_rfl

@[go_sem] def ranges_Same_r0 : List AIns := [
  ⟨some 2, none, .no, .box (.t 0)⟩,
  ⟨some 3, none, .no, .box (.t 1)⟩,
  ⟨some 4, none, .no, .mv (.v (.bool false))⟩]
@[go_sem] def ranges_Same_r1 : List AIns := [
  ⟨some 5, none, .no, .fa 0 (.t 2)⟩,
  ⟨some 6, none, .no, .load false 1 (.t 5)⟩,
  ⟨some 7, none, .no, .fa 0 (.t 3)⟩,
  ⟨some 8, none, .no, .load false 1 (.t 7)⟩,
  ⟨some 9, none, .no, .bin .eql .none (.t 6) (.t 8)⟩,
  ⟨some 10, none, .no, .mv (.t 9)⟩,
  ⟨some 11, some (10, true), .no, .fa 1 (.t 2)⟩,
  ⟨some 12, some (10, true), .no, .load false 1 (.t 11)⟩,
  ⟨some 13, some (10, true), .no, .fa 1 (.t 3)⟩,
  ⟨some 14, some (10, true), .no, .load false 1 (.t 13)⟩,
  ⟨some 15, some (10, true), .no, .call (.v (.fn 94 [])) [(.t 12), (.t 14)]⟩,
  ⟨some 16, none, .no, .pick (.t 10) (.t 15) (.v (.bool false))⟩,
  ⟨some 4, none, .no, .mv (.t 16)⟩]
def ranges_Same_c2 : ACode := .seq (.reg ranges_Same_r1) .ret
def ranges_Same_c3 : ACode := .seq (.reg ranges_Same_r0) ranges_Same_c2
theorem ranges_Same_ok : cFn TC 28 = some (17, [.t 4], ranges_Same_c3) := by kernel_rfl

@[go_sem] def ranges_Append_r0 : List AIns := [
  ⟨some 2, none, .no, .box (.t 0)⟩,
  ⟨some 3, none, .no, .box (.t 1)⟩,
  ⟨some 4, none, .no, .alloc [(.int .i64 (0)), .nilsl]⟩,
  ⟨some 5, none, .no, .mv (.v (.int .i64 (0)))⟩]
@[go_sem] def ranges_Append_r1 : List AIns := [
  ⟨some 6, none, .no, .load true 2 (.t 2)⟩,
  ⟨some 7, none, .no, .load true 32 (.t 3)⟩,
  ⟨some 8, none, .no, .lit 32 [(.t 7)]⟩,
  ⟨some 9, none, .no, .call (.v (.fn 16 [])) [(.t 6), (.t 8)]⟩,
  ⟨some 10, none, .no, .ext 0 (.t 9)⟩,
  ⟨some 11, none, .no, .ext 1 (.t 9)⟩,
  ⟨none, none, .no, .store 2 (.t 4) (.t 10)⟩,
  ⟨some 5, none, .no, .mv (.t 11)⟩]
def ranges_Append_c2 : ACode := .seq (.reg ranges_Append_r1) .ret
def ranges_Append_c3 : ACode := .seq (.reg ranges_Append_r0) ranges_Append_c2
theorem ranges_Append_ok : cFn TC 26 = some (12, [.c 4 true 2, .t 5], ranges_Append_c3) := by kernel_rfl

@[go_sem] def ranges_Extend_r0 : List AIns := [
  ⟨some 2, none, .no, .box (.t 0)⟩,
  ⟨some 4, none, .no, .alloc [(.int .i64 (0)), .nilsl]⟩,
  ⟨some 5, none, .no, .mv (.v (.int .i64 (0)))⟩]
@[go_sem] def ranges_Extend_r1 : List AIns := [
  ⟨some 9, none, .no, .load true 2 (.t 2)⟩,
  ⟨some 10, none, .no, .call (.v (.fn 21 [])) [(.t 9)]⟩,
  ⟨some 11, none, .no, .un .not (.t 10)⟩,
  ⟨some 8, none, .no, .mv (.t 11)⟩]
@[go_sem] def ranges_Extend_r2 : List AIns := [
  ⟨some 12, none, .no, .build [(.int .i64 (0)), .nilsl] []⟩,
  ⟨none, none, .no, .store 2 (.t 4) (.t 12)⟩,
  ⟨some 5, none, .no, .mv (.v (.int .i64 (2)))⟩]
def ranges_Extend_c3 : ACode := .seq (.reg ranges_Extend_r2) .ret
@[go_sem] def ranges_Extend_r4 : List AIns := [
  ⟨some 14, none, .no, .mv (.t 1)⟩,
  ⟨some 15, none, .no, .lenSl (.t 14)⟩,
  ⟨some 16, none, .no, .fa 0 (.t 2)⟩,
  ⟨some 17, none, .no, .load false 1 (.t 16)⟩,
  ⟨some 18, none, .no, .bin .sub .none (.v (.int .i64 (4096))) (.t 17)⟩,
  ⟨some 19, none, .no, .bin .gtr .none (.t 15) (.t 18)⟩,
  ⟨some 13, none, .no, .mv (.t 19)⟩]
@[go_sem] def ranges_Extend_r5 : List AIns := [
  ⟨some 20, none, .no, .build [(.int .i64 (0)), .nilsl] []⟩,
  ⟨none, none, .no, .store 2 (.t 4) (.t 20)⟩,
  ⟨some 5, none, .no, .mv (.v (.int .i64 (60)))⟩]
def ranges_Extend_c6 : ACode := .seq (.reg ranges_Extend_r5) .ret
def ranges_Extend_c7 : ACode := .cond (.t 13) ranges_Extend_c6 .skip
def ranges_Extend_c8 : ACode := .seq (.reg ranges_Extend_r4) ranges_Extend_c7
def ranges_Extend_c9 : ACode := .cond (.t 8) ranges_Extend_c3 ranges_Extend_c8
def ranges_Extend_c10 : ACode := .seq (.reg ranges_Extend_r1) ranges_Extend_c9
@[go_sem] def ranges_Extend_r11 : List AIns := [
  ⟨some 21, none, .no, .fa 1 (.t 2)⟩,
  ⟨some 22, none, .no, .load false 1 (.t 21)⟩,
  ⟨some 23, none, .no, .call (.v (.fn 82 [])) [(.t 22)]⟩,
  ⟨some 24, none, .no, .fa 1 (.t 2)⟩,
  ⟨none, none, .no, .store 1 (.t 24) (.t 23)⟩]
@[go_sem] def ranges_Extend_r12 : List AIns := [
  ⟨some 25, none, .no, .mv (.t 1)⟩,
  ⟨some 26, none, .no, .lenSl (.t 25)⟩,
  ⟨some 27, none, .no, .mv (.v (.int .i64 (0)))⟩]
@[go_sem] def ranges_Extend_r13 : List AIns := [
  ⟨some 28, none, .no, .bin .lss .none (.t 27) (.t 26)⟩]
@[go_sem] def ranges_Extend_r14 : List AIns := [
  ⟨some 29, none, .no, .iaSl 32 (.t 25) (.t 27)⟩,
  ⟨some 30, none, .no, .load true 32 (.t 29)⟩,
  ⟨some 7, none, .no, .alloc [(.int .u8 (0)), (.int .u8 (0)), (.int .u8 (0)), (.int .u8 (0)), (.int .u8 (0)), (.int .u8 (0)), (.int .u8 (0)), (.int .u8 (0)), (.int .u8 (0)), (.int .u8 (0)), (.int .u8 (0)), (.int .u8 (0)), (.int .u8 (0)), (.int .u8 (0)), (.int .u8 (0)), (.int .u8 (0)), (.int .u8 (0)), (.int .u8 (0)), (.int .u8 (0)), (.int .u8 (0)), (.int .u8 (0)), (.int .u8 (0)), (.int .u8 (0)), (.int .u8 (0)), (.int .u8 (0)), (.int .u8 (0)), (.int .u8 (0)), (.int .u8 (0)), (.int .u8 (0)), (.int .u8 (0)), (.int .u8 (0)), (.int .u8 (0))]⟩,
  ⟨none, none, .no, .store 32 (.t 7) (.t 30)⟩]
@[go_sem] def ranges_Extend_r15 : List AIns := [
  ⟨some 31, none, .no, .load true 2 (.t 2)⟩,
  ⟨some 32, none, .no, .load true 32 (.t 7)⟩,
  ⟨some 33, none, .no, .call (.v (.fn 83 [])) [(.t 31), (.v (.int .i64 (1))), (.t 32)]⟩,
  ⟨none, none, .no, .store 2 (.t 2) (.t 33)⟩]
def ranges_Extend_c16 : ACode := .seq (.reg ranges_Extend_r14) (.reg ranges_Extend_r15)
@[go_sem] def ranges_Extend_r17 : List AIns := [
  ⟨some 34, none, .no, .bin .add .none (.t 27) (.v (.int .i64 (1)))⟩,
  ⟨some 27, none, .no, .mv (.t 34)⟩]
def ranges_Extend_c18 : ACode := .seq (.block 2 ranges_Extend_c16) (.reg ranges_Extend_r17)
def ranges_Extend_c19 : ACode := .seq (.cond (.t 28) .skip (.exit 1)) ranges_Extend_c18
def ranges_Extend_c20 : ACode := .seq (.reg ranges_Extend_r13) ranges_Extend_c19
def ranges_Extend_c21 : ACode := .loop ranges_Extend_c20
def ranges_Extend_c22 : ACode := .block 1 ranges_Extend_c21
def ranges_Extend_c23 : ACode := .seq (.reg ranges_Extend_r12) ranges_Extend_c22
@[go_sem] def ranges_Extend_r24 : List AIns := [
  ⟨some 35, none, .no, .load true 2 (.t 2)⟩,
  ⟨none, none, .no, .store 2 (.t 4) (.t 35)⟩,
  ⟨some 5, none, .no, .mv (.v (.int .i64 (0)))⟩]
def ranges_Extend_c25 : ACode := .seq (.reg ranges_Extend_r24) .ret
def ranges_Extend_c26 : ACode := .seq ranges_Extend_c23 ranges_Extend_c25
def ranges_Extend_c27 : ACode := .seq (.reg ranges_Extend_r11) ranges_Extend_c26
def ranges_Extend_c28 : ACode := .seq (.block 0 ranges_Extend_c10) ranges_Extend_c27
def ranges_Extend_c29 : ACode := .seq (.reg ranges_Extend_r0) ranges_Extend_c28
theorem ranges_Extend_ok : cFn TC 16 = some (36, [.c 4 true 2, .t 5], ranges_Extend_c29) := by kernel_rfl

@[go_sem] def ranges_Valid_r0 : List AIns := [
  ⟨some 1, none, .no, .box (.t 0)⟩,
  ⟨some 2, none, .no, .mv (.v (.bool false))⟩]
@[go_sem] def ranges_Valid_r1 : List AIns := [
  ⟨some 3, none, .no, .fa 0 (.t 1)⟩,
  ⟨some 4, none, .no, .load false 1 (.t 3)⟩,
  ⟨some 5, none, .no, .bin .geq .none (.t 4) (.v (.int .i64 (0)))⟩,
  ⟨some 6, none, .no, .mv (.t 5)⟩,
  ⟨some 7, some (6, true), .no, .fa 0 (.t 1)⟩,
  ⟨some 8, some (6, true), .no, .load false 1 (.t 7)⟩,
  ⟨some 9, some (6, true), .no, .bin .leq .none (.t 8) (.v (.int .i64 (4096)))⟩,
  ⟨some 10, none, .no, .pick (.t 6) (.t 9) (.v (.bool false))⟩,
  ⟨some 11, none, .no, .mv (.t 10)⟩,
  ⟨some 12, some (11, true), .no, .fa 1 (.t 1)⟩,
  ⟨some 13, some (11, true), .rd, .load false 1 (.t 12)⟩,
  ⟨some 14, some (11, true), .no, .lenSl (.t 13)⟩,
  ⟨some 15, some (11, true), .no, .fa 0 (.t 1)⟩,
  ⟨some 16, some (11, true), .rd, .load false 1 (.t 15)⟩,
  ⟨some 17, some (11, true), .ef, .call (.v (.fn 90 [])) [(.t 16)]⟩,
  ⟨some 18, some (11, true), .no, .bin .eql .none (.t 14) (.t 17)⟩,
  ⟨some 19, none, .no, .pick (.t 11) (.t 18) (.v (.bool false))⟩,
  ⟨some 2, none, .no, .mv (.t 19)⟩]
def ranges_Valid_c2 : ACode := .seq (.reg ranges_Valid_r1) .ret
def ranges_Valid_c3 : ACode := .seq (.reg ranges_Valid_r0) ranges_Valid_c2
theorem ranges_Valid_ok : cFn TC 21 = some (20, [.t 2], ranges_Valid_c3) := by kernel_rfl

@[go_sem] def ranges_Root_r0 : List AIns := [
  ⟨some 1, none, .no, .box (.t 0)⟩,
  ⟨some 2, none, .no, .alloc [(.int .u8 (0)), (.int .u8 (0)), (.int .u8 (0)), (.int .u8 (0)), (.int .u8 (0)), (.int .u8 (0)), (.int .u8 (0)), (.int .u8 (0)), (.int .u8 (0)), (.int .u8 (0)), (.int .u8 (0)), (.int .u8 (0)), (.int .u8 (0)), (.int .u8 (0)), (.int .u8 (0)), (.int .u8 (0)), (.int .u8 (0)), (.int .u8 (0)), (.int .u8 (0)), (.int .u8 (0)), (.int .u8 (0)), (.int .u8 (0)), (.int .u8 (0)), (.int .u8 (0)), (.int .u8 (0)), (.int .u8 (0)), (.int .u8 (0)), (.int .u8 (0)), (.int .u8 (0)), (.int .u8 (0)), (.int .u8 (0)), (.int .u8 (0))]⟩,
  ⟨some 3, none, .no, .mv (.v (.int .i64 (0)))⟩]
@[go_sem] def ranges_Root_r1 : List AIns := [
  ⟨some 9, none, .no, .load true 2 (.t 1)⟩,
  ⟨some 10, none, .no, .call (.v (.fn 21 [])) [(.t 9)]⟩,
  ⟨some 11, none, .no, .un .not (.t 10)⟩,
  ⟨some 8, none, .no, .mv (.t 11)⟩]
@[go_sem] def ranges_Root_r2 : List AIns := [
  ⟨some 12, none, .no, .build [(.int .u8 (0)), (.int .u8 (0)), (.int .u8 (0)), (.int .u8 (0)), (.int .u8 (0)), (.int .u8 (0)), (.int .u8 (0)), (.int .u8 (0)), (.int .u8 (0)), (.int .u8 (0)), (.int .u8 (0)), (.int .u8 (0)), (.int .u8 (0)), (.int .u8 (0)), (.int .u8 (0)), (.int .u8 (0)), (.int .u8 (0)), (.int .u8 (0)), (.int .u8 (0)), (.int .u8 (0)), (.int .u8 (0)), (.int .u8 (0)), (.int .u8 (0)), (.int .u8 (0)), (.int .u8 (0)), (.int .u8 (0)), (.int .u8 (0)), (.int .u8 (0)), (.int .u8 (0)), (.int .u8 (0)), (.int .u8 (0)), (.int .u8 (0))] []⟩,
  ⟨none, none, .no, .store 32 (.t 2) (.t 12)⟩,
  ⟨some 3, none, .no, .mv (.v (.int .i64 (2)))⟩]
def ranges_Root_c3 : ACode := .seq (.reg ranges_Root_r2) .ret
@[go_sem] def ranges_Root_r4 : List AIns := [
  ⟨some 14, none, .no, .fa 0 (.t 1)⟩,
  ⟨some 15, none, .no, .load false 1 (.t 14)⟩,
  ⟨some 16, none, .no, .bin .eql .none (.t 15) (.v (.int .i64 (0)))⟩,
  ⟨some 13, none, .no, .mv (.t 16)⟩]
@[go_sem] def ranges_Root_r5 : List AIns := [
  ⟨some 17, none, .no, .call (.v (.fn 29 [])) [(.v .nilsl)]⟩,
  ⟨none, none, .no, .store 32 (.t 2) (.t 17)⟩,
  ⟨some 3, none, .no, .mv (.v (.int .i64 (0)))⟩]
def ranges_Root_c6 : ACode := .seq (.reg ranges_Root_r5) .ret
def ranges_Root_c7 : ACode := .cond (.t 13) ranges_Root_c6 .skip
def ranges_Root_c8 : ACode := .seq (.reg ranges_Root_r4) ranges_Root_c7
def ranges_Root_c9 : ACode := .cond (.t 8) ranges_Root_c3 ranges_Root_c8
def ranges_Root_c10 : ACode := .seq (.reg ranges_Root_r1) ranges_Root_c9
@[go_sem] def ranges_Root_r11 : List AIns := [
  ⟨some 18, none, .no, .fa 1 (.t 1)⟩,
  ⟨some 19, none, .no, .load false 1 (.t 18)⟩,
  ⟨some 20, none, .no, .lenSl (.t 19)⟩,
  ⟨some 21, none, .no, .bin .sub .none (.t 20) (.v (.int .i64 (1)))⟩,
  ⟨some 4, none, .no, .mv (.t 21)⟩]
@[go_sem] def ranges_Root_r12 : List AIns := [
  ⟨some 22, none, .no, .fa 1 (.t 1)⟩,
  ⟨some 23, none, .no, .load false 1 (.t 22)⟩,
  ⟨some 24, none, .no, .mv (.t 4)⟩,
  ⟨some 25, none, .no, .iaSl 32 (.t 23) (.t 24)⟩,
  ⟨some 26, none, .no, .load true 32 (.t 25)⟩,
  ⟨some 5, none, .no, .alloc [(.int .u8 (0)), (.int .u8 (0)), (.int .u8 (0)), (.int .u8 (0)), (.int .u8 (0)), (.int .u8 (0)), (.int .u8 (0)), (.int .u8 (0)), (.int .u8 (0)), (.int .u8 (0)), (.int .u8 (0)), (.int .u8 (0)), (.int .u8 (0)), (.int .u8 (0)), (.int .u8 (0)), (.int .u8 (0)), (.int .u8 (0)), (.int .u8 (0)), (.int .u8 (0)), (.int .u8 (0)), (.int .u8 (0)), (.int .u8 (0)), (.int .u8 (0)), (.int .u8 (0)), (.int .u8 (0)), (.int .u8 (0)), (.int .u8 (0)), (.int .u8 (0)), (.int .u8 (0)), (.int .u8 (0)), (.int .u8 (0)), (.int .u8 (0))]⟩,
  ⟨none, none, .no, .store 32 (.t 5) (.t 26)⟩]
@[go_sem] def ranges_Root_r13 : List AIns := [
  ⟨some 27, none, .no, .fa 1 (.t 1)⟩,
  ⟨some 28, none, .no, .load false 1 (.t 27)⟩,
  ⟨some 29, none, .no, .mv (.t 4)⟩,
  ⟨some 30, none, .no, .slice (.sl 32) (.t 28) none (some (.t 29)) none⟩,
  ⟨some 31, none, .no, .call (.v (.fn 87 [])) [(.t 30)]⟩]
@[go_sem] def ranges_Root_r14 : List AIns := [
  ⟨some 7, none, .no, .alloc [(.int .u8 (0)), (.int .u8 (0)), (.int .u8 (0)), (.int .u8 (0)), (.int .u8 (0)), (.int .u8 (0)), (.int .u8 (0)), (.int .u8 (0)), (.int .u8 (0)), (.int .u8 (0)), (.int .u8 (0)), (.int .u8 (0)), (.int .u8 (0)), (.int .u8 (0)), (.int .u8 (0)), (.int .u8 (0)), (.int .u8 (0)), (.int .u8 (0)), (.int .u8 (0)), (.int .u8 (0)), (.int .u8 (0)), (.int .u8 (0)), (.int .u8 (0)), (.int .u8 (0)), (.int .u8 (0)), (.int .u8 (0)), (.int .u8 (0)), (.int .u8 (0)), (.int .u8 (0)), (.int .u8 (0)), (.int .u8 (0)), (.int .u8 (0))]⟩,
  ⟨none, none, .no, .store 32 (.t 7) (.t 33)⟩]
@[go_sem] def ranges_Root_r15 : List AIns := [
  ⟨some 34, none, .no, .load true 32 (.t 7)⟩,
  ⟨some 35, none, .no, .load true 32 (.t 5)⟩,
  ⟨some 36, none, .no, .call (.v (.fn 81 [])) [(.t 34), (.t 35)]⟩,
  ⟨none, none, .no, .store 32 (.t 5) (.t 36)⟩]
def ranges_Root_c16 : ACode := .block 2 (.reg ranges_Root_r15)
def ranges_Root_c17 : ACode := .rangef (.t 31) [32, 33] (.reg ranges_Root_r14) ranges_Root_c16
def ranges_Root_c18 : ACode := .block 1 ranges_Root_c17
def ranges_Root_c19 : ACode := .seq (.reg ranges_Root_r13) ranges_Root_c18
@[go_sem] def ranges_Root_r20 : List AIns := [
  ⟨some 37, none, .no, .load true 32 (.t 5)⟩,
  ⟨none, none, .no, .store 32 (.t 2) (.t 37)⟩,
  ⟨some 3, none, .no, .mv (.v (.int .i64 (0)))⟩]
def ranges_Root_c21 : ACode := .seq (.reg ranges_Root_r20) .ret
def ranges_Root_c22 : ACode := .seq ranges_Root_c19 ranges_Root_c21
def ranges_Root_c23 : ACode := .seq (.reg ranges_Root_r12) ranges_Root_c22
def ranges_Root_c24 : ACode := .seq (.reg ranges_Root_r11) ranges_Root_c23
def ranges_Root_c25 : ACode := .seq (.block 0 ranges_Root_c10) ranges_Root_c24
def ranges_Root_c26 : ACode := .seq (.reg ranges_Root_r0) ranges_Root_c25
theorem ranges_Root_ok : cFn TC 18 = some (38, [.c 2 true 32, .t 3], ranges_Root_c26) := by kernel_rfl

@[go_sem] def ranges_Merge_r0 : List AIns := [
  ⟨some 3, none, .no, .box (.t 0)⟩,
  ⟨some 6, none, .no, .alloc [(.int .i64 (0)), .nilsl]⟩,
  ⟨some 7, none, .no, .mv (.v (.int .i64 (0)))⟩]
@[go_sem] def ranges_Merge_r1 : List AIns := [
  ⟨some 8, none, .no, .load true 2 (.t 3)⟩,
  ⟨some 9, none, .no, .call (.v (.fn 21 [])) [(.t 8)]⟩,
  ⟨some 10, none, .no, .un .not (.t 9)⟩,
  ⟨some 11, none, .no, .mv (.t 10)⟩,
  ⟨some 12, some (11, false), .no, .mv (.t 1)⟩,
  ⟨some 13, some (11, false), .no, .fa 0 (.t 3)⟩,
  ⟨some 14, some (11, false), .no, .load false 1 (.t 13)⟩,
  ⟨some 15, some (11, false), .no, .bin .lss .none (.t 12) (.t 14)⟩,
  ⟨some 16, none, .no, .pick (.t 11) (.v (.bool true)) (.t 15)⟩,
  ⟨some 17, none, .no, .mv (.t 16)⟩,
  ⟨some 18, some (17, false), .no, .mv (.t 1)⟩,
  ⟨some 19, some (17, false), .no, .bin .gtr .none (.t 18) (.v (.int .i64 (4096)))⟩,
  ⟨some 20, none, .no, .pick (.t 17) (.v (.bool true)) (.t 19)⟩]
@[go_sem] def ranges_Merge_r2 : List AIns := [
  ⟨some 21, none, .no, .build [(.int .i64 (0)), .nilsl] []⟩,
  ⟨none, none, .no, .store 2 (.t 6) (.t 21)⟩,
  ⟨some 7, none, .no, .mv (.v (.int .i64 (2)))⟩]
def ranges_Merge_c3 : ACode := .seq (.reg ranges_Merge_r2) .ret
def ranges_Merge_c4 : ACode := .cond (.t 20) ranges_Merge_c3 .skip
def ranges_Merge_c5 : ACode := .seq (.reg ranges_Merge_r1) ranges_Merge_c4
@[go_sem] def ranges_Merge_r6 : List AIns := [
  ⟨some 22, none, .no, .fa 1 (.t 3)⟩,
  ⟨some 23, none, .no, .load false 1 (.t 22)⟩,
  ⟨some 24, none, .no, .call (.v (.fn 82 [])) [(.t 23)]⟩,
  ⟨some 25, none, .no, .fa 1 (.t 3)⟩,
  ⟨none, none, .no, .store 1 (.t 25) (.t 24)⟩]
@[go_sem] def ranges_Merge_r7 : List AIns := [
  ⟨some 26, none, .no, .fa 0 (.t 3)⟩,
  ⟨some 27, none, .no, .load false 1 (.t 26)⟩,
  ⟨some 28, none, .no, .mv (.t 1)⟩,
  ⟨some 29, none, .no, .bin .lss .none (.t 27) (.t 28)⟩]
def ranges_Merge_c8 : ACode := .cond (.t 29) .skip (.exit 0)
def ranges_Merge_c9 : ACode := .seq (.reg ranges_Merge_r7) ranges_Merge_c8
@[go_sem] def ranges_Merge_r10 : List AIns := [
  ⟨some 30, none, .no, .mv (.t 2)⟩,
  ⟨some 31, none, .no, .lenSl (.t 30)⟩,
  ⟨some 32, none, .no, .bin .eql .none (.t 31) (.v (.int .i64 (0)))⟩]
@[go_sem] def ranges_Merge_r11 : List AIns := [
  ⟨some 33, none, .no, .build [(.int .i64 (0)), .nilsl] []⟩,
  ⟨none, none, .no, .store 2 (.t 6) (.t 33)⟩,
  ⟨some 7, none, .no, .mv (.v (.int .i64 (2)))⟩]
def ranges_Merge_c12 : ACode := .seq (.reg ranges_Merge_r11) .ret
def ranges_Merge_c13 : ACode := .cond (.t 32) ranges_Merge_c12 .skip
def ranges_Merge_c14 : ACode := .seq (.reg ranges_Merge_r10) ranges_Merge_c13
@[go_sem] def ranges_Merge_r15 : List AIns := [
  ⟨some 34, none, .rd, .load true 2 (.t 3)⟩,
  ⟨some 35, none, .no, .fa 0 (.t 3)⟩,
  ⟨some 36, none, .rd, .load false 1 (.t 35)⟩,
  ⟨some 37, none, .no, .mv (.t 1)⟩,
  ⟨some 38, none, .ef, .call (.v (.fn 92 [])) [(.t 36), (.t 37)]⟩,
  ⟨some 39, none, .no, .mv (.t 2)⟩,
  ⟨some 40, none, .no, .iaSl 32 (.t 39) (.v (.int .i64 (0)))⟩,
  ⟨some 41, none, .rd, .load true 32 (.t 40)⟩,
  ⟨some 42, none, .no, .call (.v (.fn 83 [])) [(.t 34), (.t 38), (.t 41)]⟩,
  ⟨some 43, none, .no, .mv (.t 2)⟩,
  ⟨some 44, none, .no, .slice (.sl 32) (.t 43) (some (.v (.int .i64 (1)))) none none⟩,
  ⟨none, none, .no, .store 2 (.t 3) (.t 42)⟩,
  ⟨some 2, none, .no, .mv (.t 44)⟩]
def ranges_Merge_c16 : ACode := .seq ranges_Merge_c14 (.reg ranges_Merge_r15)
def ranges_Merge_c17 : ACode := .block 1 ranges_Merge_c16
def ranges_Merge_c18 : ACode := .seq ranges_Merge_c9 ranges_Merge_c17
def ranges_Merge_c19 : ACode := .loop ranges_Merge_c18
@[go_sem] def ranges_Merge_r20 : List AIns := [
  ⟨some 45, none, .no, .mv (.t 2)⟩,
  ⟨some 46, none, .no, .lenSl (.t 45)⟩,
  ⟨some 47, none, .no, .bin .gtr .none (.t 46) (.v (.int .i64 (0)))⟩]
@[go_sem] def ranges_Merge_r21 : List AIns := [
  ⟨some 48, none, .no, .build [(.int .i64 (0)), .nilsl] []⟩,
  ⟨none, none, .no, .store 2 (.t 6) (.t 48)⟩,
  ⟨some 7, none, .no, .mv (.v (.int .i64 (2)))⟩]
def ranges_Merge_c22 : ACode := .seq (.reg ranges_Merge_r21) .ret
def ranges_Merge_c23 : ACode := .cond (.t 47) ranges_Merge_c22 .skip
def ranges_Merge_c24 : ACode := .seq (.reg ranges_Merge_r20) ranges_Merge_c23
@[go_sem] def ranges_Merge_r25 : List AIns := [
  ⟨some 49, none, .no, .load true 2 (.t 3)⟩,
  ⟨none, none, .no, .store 2 (.t 6) (.t 49)⟩,
  ⟨some 7, none, .no, .mv (.v (.int .i64 (0)))⟩]
def ranges_Merge_c26 : ACode := .seq (.reg ranges_Merge_r25) .ret
def ranges_Merge_c27 : ACode := .seq ranges_Merge_c24 ranges_Merge_c26
def ranges_Merge_c28 : ACode := .seq (.block 0 ranges_Merge_c19) ranges_Merge_c27
def ranges_Merge_c29 : ACode := .seq (.reg ranges_Merge_r6) ranges_Merge_c28
def ranges_Merge_c30 : ACode := .seq ranges_Merge_c5 ranges_Merge_c29
def ranges_Merge_c31 : ACode := .seq (.reg ranges_Merge_r0) ranges_Merge_c30
theorem ranges_Merge_ok : cFn TC 23 = some (50, [.c 6 true 2, .t 7], ranges_Merge_c31) := by kernel_rfl

@[go_sem] def ranges_step_r0 : List AIns := [
  ⟨some 4, none, .no, .mv (.v (.int .i64 (0)))⟩]
@[go_sem] def ranges_step_r1 : List AIns := [
  ⟨some 5, none, .no, .mv (.v (.int .i64 (1)))⟩]
@[go_sem] def ranges_step_r2 : List AIns := [
  ⟨some 6, none, .no, .mv (.t 5)⟩,
  ⟨some 7, none, .no, .mv (.t 1)⟩,
  ⟨some 8, none, .no, .mv (.t 0)⟩,
  ⟨some 9, none, .no, .bin .sub .none (.t 7) (.t 8)⟩,
  ⟨some 10, none, .no, .bin .quo .none (.t 9) (.v (.int .i64 (2)))⟩,
  ⟨some 11, none, .no, .bin .leq .none (.t 6) (.t 10)⟩,
  ⟨some 12, none, .no, .mv (.t 11)⟩,
  ⟨some 13, some (12, true), .no, .mv (.t 0)⟩,
  ⟨some 14, some (12, true), .no, .mv (.t 5)⟩,
  ⟨some 15, some (12, true), .no, .bin .mul .none (.v (.int .i64 (2))) (.t 14)⟩,
  ⟨some 16, some (12, true), .no, .bin .rem .none (.t 13) (.t 15)⟩,
  ⟨some 17, some (12, true), .no, .bin .eql .none (.t 16) (.v (.int .i64 (0)))⟩,
  ⟨some 18, none, .no, .pick (.t 12) (.t 17) (.v (.bool false))⟩]
def ranges_step_c3 : ACode := .cond (.t 18) .skip (.exit 0)
def ranges_step_c4 : ACode := .seq (.reg ranges_step_r2) ranges_step_c3
@[go_sem] def ranges_step_r5 : List AIns := [
  ⟨some 19, none, .no, .mv (.t 5)⟩,
  ⟨some 20, none, .no, .bin .mul .none (.t 19) (.v (.int .i64 (2)))⟩,
  ⟨some 5, none, .no, .mv (.t 20)⟩]
def ranges_step_c6 : ACode := .block 1 (.reg ranges_step_r5)
def ranges_step_c7 : ACode := .seq ranges_step_c4 ranges_step_c6
def ranges_step_c8 : ACode := .loop ranges_step_c7
@[go_sem] def ranges_step_r9 : List AIns := [
  ⟨some 21, none, .no, .mv (.t 5)⟩,
  ⟨some 4, none, .no, .mv (.t 21)⟩]
def ranges_step_c10 : ACode := .seq (.reg ranges_step_r9) .ret
def ranges_step_c11 : ACode := .seq (.block 0 ranges_step_c8) ranges_step_c10
def ranges_step_c12 : ACode := .seq (.reg ranges_step_r1) ranges_step_c11
def ranges_step_c13 : ACode := .seq (.reg ranges_step_r0) ranges_step_c12
theorem ranges_step_ok : cFn TC 92 = some (22, [.t 4], ranges_step_c13) := by kernel_rfl

@[go_sem] def slices_Equal_api_Hash__r0 : List AIns := [
  ⟨some 4, none, .no, .mv (.v (.bool false))⟩]
@[go_sem] def slices_Equal_api_Hash__r1 : List AIns := [
  ⟨some 6, none, .no, .mv (.t 0)⟩,
  ⟨some 7, none, .no, .lenSl (.t 6)⟩,
  ⟨some 8, none, .no, .mv (.t 1)⟩,
  ⟨some 9, none, .no, .lenSl (.t 8)⟩,
  ⟨some 10, none, .no, .bin .neq .none (.t 7) (.t 9)⟩]
@[go_sem] def slices_Equal_api_Hash__r2 : List AIns := [
  ⟨some 4, none, .no, .mv (.v (.bool false))⟩]
def slices_Equal_api_Hash__c3 : ACode := .seq (.reg slices_Equal_api_Hash__r2) .ret
def slices_Equal_api_Hash__c4 : ACode := .cond (.t 10) slices_Equal_api_Hash__c3 .skip
def slices_Equal_api_Hash__c5 : ACode := .seq (.reg slices_Equal_api_Hash__r1) slices_Equal_api_Hash__c4
@[go_sem] def slices_Equal_api_Hash__r6 : List AIns := [
  ⟨some 11, none, .no, .mv (.t 0)⟩,
  ⟨some 12, none, .no, .lenSl (.t 11)⟩,
  ⟨some 13, none, .no, .mv (.v (.int .i64 (0)))⟩]
@[go_sem] def slices_Equal_api_Hash__r7 : List AIns := [
  ⟨some 14, none, .no, .bin .lss .none (.t 13) (.t 12)⟩]
@[go_sem] def slices_Equal_api_Hash__r8 : List AIns := [
  ⟨some 15, none, .no, .mv (.t 13)⟩,
  ⟨some 5, none, .no, .mv (.t 15)⟩]
@[go_sem] def slices_Equal_api_Hash__r9 : List AIns := [
  ⟨some 16, none, .no, .mv (.t 0)⟩,
  ⟨some 17, none, .no, .mv (.t 5)⟩,
  ⟨some 18, none, .no, .iaSl 32 (.t 16) (.t 17)⟩,
  ⟨some 19, none, .rd, .load true 32 (.t 18)⟩,
  ⟨some 20, none, .no, .mv (.t 1)⟩,
  ⟨some 21, none, .no, .mv (.t 5)⟩,
  ⟨some 22, none, .no, .iaSl 32 (.t 20) (.t 21)⟩,
  ⟨some 23, none, .rd, .load true 32 (.t 22)⟩,
  ⟨some 24, none, .no, .bin .neq (.agg (List.replicate 32 (.i .u8) ++ [])) (.t 19) (.t 23)⟩]
@[go_sem] def slices_Equal_api_Hash__r10 : List AIns := [
  ⟨some 4, none, .no, .mv (.v (.bool false))⟩]
def slices_Equal_api_Hash__c11 : ACode := .seq (.reg slices_Equal_api_Hash__r10) .ret
def slices_Equal_api_Hash__c12 : ACode := .cond (.t 24) slices_Equal_api_Hash__c11 .skip
def slices_Equal_api_Hash__c13 : ACode := .seq (.reg slices_Equal_api_Hash__r9) slices_Equal_api_Hash__c12
def slices_Equal_api_Hash__c14 : ACode := .seq (.reg slices_Equal_api_Hash__r8) slices_Equal_api_Hash__c13
@[go_sem] def slices_Equal_api_Hash__r15 : List AIns := [
  ⟨some 25, none, .no, .bin .add .none (.t 13) (.v (.int .i64 (1)))⟩,
  ⟨some 13, none, .no, .mv (.t 25)⟩]
def slices_Equal_api_Hash__c16 : ACode := .seq (.block 1 slices_Equal_api_Hash__c14) (.reg slices_Equal_api_Hash__r15)
def slices_Equal_api_Hash__c17 : ACode := .seq (.cond (.t 14) .skip (.exit 0)) slices_Equal_api_Hash__c16
def slices_Equal_api_Hash__c18 : ACode := .seq (.reg slices_Equal_api_Hash__r7) slices_Equal_api_Hash__c17
def slices_Equal_api_Hash__c19 : ACode := .loop slices_Equal_api_Hash__c18
def slices_Equal_api_Hash__c20 : ACode := .block 0 slices_Equal_api_Hash__c19
def slices_Equal_api_Hash__c21 : ACode := .seq (.reg slices_Equal_api_Hash__r6) slices_Equal_api_Hash__c20
@[go_sem] def slices_Equal_api_Hash__r22 : List AIns := [
  ⟨some 4, none, .no, .mv (.v (.bool true))⟩]
def slices_Equal_api_Hash__c23 : ACode := .seq (.reg slices_Equal_api_Hash__r22) .ret
def slices_Equal_api_Hash__c24 : ACode := .seq slices_Equal_api_Hash__c21 slices_Equal_api_Hash__c23
def slices_Equal_api_Hash__c25 : ACode := .seq slices_Equal_api_Hash__c5 slices_Equal_api_Hash__c24
def slices_Equal_api_Hash__c26 : ACode := .seq (.reg slices_Equal_api_Hash__r0) slices_Equal_api_Hash__c25
theorem slices_Equal_api_Hash__ok : cFn TC 94 = some (26, [.t 4], slices_Equal_api_Hash__c26) := by kernel_rfl

@[go_sem] def slices_Clone_api_Hash__r0 : List AIns := [
  ⟨some 2, none, .no, .mv (.v .nilsl)⟩]
@[go_sem] def slices_Clone_api_Hash__r1 : List AIns := [
  ⟨some 3, none, .no, .mv (.t 0)⟩,
  ⟨some 4, none, .no, .bin .eql .slc (.t 3) (.v .nilsl)⟩]
@[go_sem] def slices_Clone_api_Hash__r2 : List AIns := [
  ⟨some 2, none, .no, .mv (.v .nilsl)⟩]
def slices_Clone_api_Hash__c3 : ACode := .seq (.reg slices_Clone_api_Hash__r2) .ret
def slices_Clone_api_Hash__c4 : ACode := .cond (.t 4) slices_Clone_api_Hash__c3 .skip
def slices_Clone_api_Hash__c5 : ACode := .seq (.reg slices_Clone_api_Hash__r1) slices_Clone_api_Hash__c4
@[go_sem] def slices_Clone_api_Hash__r6 : List AIns := [
  ⟨some 5, none, .no, .lit 32 []⟩,
  ⟨some 6, none, .no, .mv (.t 0)⟩,
  ⟨some 7, none, .no, .app 32 (.t 5) (.t 6)⟩,
  ⟨some 2, none, .no, .mv (.t 7)⟩]
def slices_Clone_api_Hash__c7 : ACode := .seq (.reg slices_Clone_api_Hash__r6) .ret
def slices_Clone_api_Hash__c8 : ACode := .seq slices_Clone_api_Hash__c5 slices_Clone_api_Hash__c7
def slices_Clone_api_Hash__c9 : ACode := .seq (.reg slices_Clone_api_Hash__r0) slices_Clone_api_Hash__c8
theorem slices_Clone_api_Hash__ok : cFn TC 82 = some (8, [.t 2], slices_Clone_api_Hash__c9) := by kernel_rfl

@[go_sem] def ranges_push_r0 : List AIns := [
  ⟨some 3, none, .no, .box (.t 0)⟩,
  ⟨some 5, none, .no, .box (.t 2)⟩,
  ⟨some 6, none, .no, .alloc [(.int .i64 (0)), .nilsl]⟩]
@[go_sem] def ranges_push_r1 : List AIns := [
  ⟨some 9, none, .no, .fa 1 (.t 3)⟩,
  ⟨some 10, none, .no, .load false 1 (.t 9)⟩,
  ⟨some 11, none, .no, .call (.v (.fn 82 [])) [(.t 10)]⟩,
  ⟨some 7, none, .no, .mv (.t 11)⟩]
@[go_sem] def ranges_push_r2 : List AIns := [
  ⟨some 12, none, .no, .mv (.t 1)⟩,
  ⟨some 8, none, .no, .mv (.t 12)⟩]
@[go_sem] def ranges_push_r3 : List AIns := [
  ⟨some 13, none, .no, .fa 0 (.t 3)⟩,
  ⟨some 14, none, .no, .load false 1 (.t 13)⟩,
  ⟨some 15, none, .no, .mv (.t 8)⟩,
  ⟨some 16, none, .no, .bin .and .none (.t 14) (.t 15)⟩,
  ⟨some 17, none, .no, .bin .neq .none (.t 16) (.v (.int .i64 (0)))⟩]
def ranges_push_c4 : ACode := .cond (.t 17) .skip (.exit 0)
def ranges_push_c5 : ACode := .seq (.reg ranges_push_r3) ranges_push_c4
@[go_sem] def ranges_push_r6 : List AIns := [
  ⟨some 20, none, .no, .mv (.t 7)⟩,
  ⟨some 21, none, .no, .mv (.t 7)⟩,
  ⟨some 22, none, .no, .lenSl (.t 21)⟩,
  ⟨some 23, none, .no, .bin .sub .none (.t 22) (.v (.int .i64 (1)))⟩,
  ⟨some 24, none, .no, .iaSl 32 (.t 20) (.t 23)⟩,
  ⟨some 25, none, .rd, .load true 32 (.t 24)⟩,
  ⟨some 26, none, .rd, .load true 32 (.t 5)⟩,
  ⟨some 27, none, .no, .call (.v (.fn 81 [])) [(.t 25), (.t 26)]⟩,
  ⟨none, none, .no, .store 32 (.t 5) (.t 27)⟩]
@[go_sem] def ranges_push_r7 : List AIns := [
  ⟨some 28, none, .no, .mv (.t 7)⟩,
  ⟨some 29, none, .no, .mv (.t 7)⟩,
  ⟨some 30, none, .no, .lenSl (.t 29)⟩,
  ⟨some 31, none, .no, .bin .sub .none (.t 30) (.v (.int .i64 (1)))⟩,
  ⟨some 32, none, .no, .slice (.sl 32) (.t 28) none (some (.t 31)) none⟩,
  ⟨some 7, none, .no, .mv (.t 32)⟩]
def ranges_push_c8 : ACode := .seq (.reg ranges_push_r6) (.reg ranges_push_r7)
@[go_sem] def ranges_push_r9 : List AIns := [
  ⟨some 18, none, .no, .mv (.t 8)⟩,
  ⟨some 19, none, .no, .bin .mul .none (.t 18) (.v (.int .i64 (2)))⟩,
  ⟨some 8, none, .no, .mv (.t 19)⟩]
def ranges_push_c10 : ACode := .seq (.block 1 ranges_push_c8) (.reg ranges_push_r9)
def ranges_push_c11 : ACode := .seq ranges_push_c5 ranges_push_c10
def ranges_push_c12 : ACode := .loop ranges_push_c11
def ranges_push_c13 : ACode := .block 0 ranges_push_c12
def ranges_push_c14 : ACode := .seq (.reg ranges_push_r2) ranges_push_c13
@[go_sem] def ranges_push_r15 : List AIns := [
  ⟨some 33, none, .no, .fa 0 (.t 3)⟩,
  ⟨some 34, none, .rd, .load false 1 (.t 33)⟩,
  ⟨some 35, none, .no, .mv (.t 1)⟩,
  ⟨some 36, none, .no, .bin .add .none (.t 34) (.t 35)⟩,
  ⟨some 37, none, .no, .mv (.t 7)⟩,
  ⟨some 38, none, .rd, .load true 32 (.t 5)⟩,
  ⟨some 39, none, .no, .lit 32 [(.t 38)]⟩,
  ⟨some 40, none, .ef, .app 32 (.t 37) (.t 39)⟩,
  ⟨some 41, none, .no, .build [(.int .i64 (0)), .nilsl] [(0, 1, (.t 36)), (1, 1, (.t 40))]⟩,
  ⟨none, none, .no, .store 2 (.t 6) (.t 41)⟩]
def ranges_push_c16 : ACode := .seq (.reg ranges_push_r15) .ret
def ranges_push_c17 : ACode := .seq ranges_push_c14 ranges_push_c16
def ranges_push_c18 : ACode := .seq (.reg ranges_push_r1) ranges_push_c17
def ranges_push_c19 : ACode := .seq (.reg ranges_push_r0) ranges_push_c18
theorem ranges_push_ok : cFn TC 83 = some (42, [.c 6 true 2], ranges_push_c19) := by kernel_rfl

@[go_sem] def slices_Backward_api_Hash__r0 : List AIns := [
  ⟨some 1, none, .no, .box (.t 0)⟩,
  ⟨some 2, none, .no, .mv (.v .nilfn)⟩]
@[go_sem] def slices_Backward_api_Hash__r1 : List AIns := [
  ⟨some 3, none, .no, .mkfn 144 [(.t 1)]⟩,
  ⟨some 2, none, .no, .mv (.t 3)⟩]
def slices_Backward_api_Hash__c2 : ACode := .seq (.reg slices_Backward_api_Hash__r1) .ret
def slices_Backward_api_Hash__c3 : ACode := .seq (.reg slices_Backward_api_Hash__r0) slices_Backward_api_Hash__c2
theorem slices_Backward_api_Hash__ok : cFn TC 87 = some (4, [.t 2], slices_Backward_api_Hash__c3) := by kernel_rfl

end Am
end Go.Proofs.YthgcooppjhcgcaaDoor
end
section
set_option linter.unusedSimpArgs false
set_option linter.unusedVariables false
/- Ranges: contracts: slices.Clone, slices.Equal, Valid; how many leaves the next part has. -/
set_option linter.unusedSimpArgs false
set_option linter.unusedVariables false
namespace Go.Proofs.YthgcooppjhcgcaaDoor
namespace Am
theorem ACallsP.toDown {C : Ctx} {f : FuncId} {args : List AV} {σ σ2 : Store} {v2 : AV} {P : AV → Store → Prop} (h : ACallsP C f args σ P)
    (hd : Wf σ.length σ → ∀ v σ', P v σ' → DownV σ.length v σ' v2 σ2) : ACallsTo C f args σ v2 σ2 := by
  intro γ w cargs hR ha
  rcases h γ w cargs hR ha with ⟨h1, h2⟩ | ⟨cv, v, γ', σ', w', h1, hp, h2, h3, h4⟩
  · refine .inl ⟨h1, h2.mono ?_⟩
    rintro e w' ⟨cv, v, γ', σ', rfl, hp, k1, k2, k3⟩
    obtain ⟨γ2, q1, q2, q3⟩ := (hd hR.wf v σ' hp).sound k2 k3 k1 hR.gl (by rw [hR.len]; exact Nat.le_refl _)
    exact ⟨cv, γ2, rfl, q1, q2, q3⟩
  · obtain ⟨γ2, q1, q2, q3⟩ := (hd hR.wf v σ' hp).sound h3 h4 h2 hR.gl (by rw [hR.len]; exact Nat.le_refl _)
    exact .inr ⟨cv, γ2, w', h1, q1, q2, q3⟩
theorem slen {σ : Store} {r : Nat} {x : Option AObj} (h : σ[r]? = some x) : r < σ.length := (List.getElem?_eq_some_iff.1 h).1
/-- All new objects are let go, and read as_ they are. -/
def FrzD (τ news : Store) : DC := keepD τ news [] id (fun _ => true)
theorem DownV.all {τ news : Store} {v v2 : AV} (hw : Wf τ.length τ) (h : DR (FrzD τ news) v2 v) : DownV τ.length v (τ ++ news) v2 τ :=
  ⟨FrzD τ news, rfl, by show DownS τ.length (keepD τ news [] id (fun _ => true)) τ; simpa using keepD_ok (kept := []) (idx := id) (fzl := fun _ => true) (news := news) hw (by simp) (by simp) (by simp) (by simp), h⟩
theorem FrzD.same {τ news : Store} {v : AV} (h : RL τ.length v) : DR (FrzD τ news) v v := DR.refl (keepD_base _ _ _) v h
theorem FrzD.sl {τ news : Store} {r off : Nat} {lim : Option Nat} {esz : Nat} {o es : AObj} (hk : τ.length ≤ r) (ho : (τ ++ news)[r]? = some (some o)) (hl : off + es.length ≤ o.length) (he : (o.drop off).take es.length = es) (hr : RLss τ.length es) :
    DR (FrzD τ news) (.vsl esz es false) (.sl r off es.length lim esz) := by
  simp only [DR, FrzD, keepD]
  right
  exact ⟨r, off, lim, o, rfl, by simpa using hk, ho, hl, by simp, by rw [he]; exact DRss.refl (keepD_base [] id (fun _ => true)) _ hr⟩
theorem drA {D : DC} {a b : List AV} (h : DRs D a b) : DR D (.agg a) (.agg b) := by simp only [DR]; exact ⟨b, rfl, h⟩
theorem OwnN.frz {sz : Nat} {τ news : Store} {v : AV} {es : List (List AV)} (h : OwnN sz τ (τ ++ news) v es) (hr : RLss τ.length es) : DR (FrzD τ news) (slVal sz es) v := by
  by_cases h0 : es = []
  · obtain ⟨n2, _, ⟨rfl, rfl⟩ | ⟨j, h1, _⟩⟩ := h
    · simp [slVal, DR]
    · exact absurd h0 h1
  · obtain ⟨r, rfl, hg, hk⟩ := h.sl h0
    unfold slVal
    rw [if_neg h0]
    exact FrzD.sl hk hg (by omega) (by simp) hr
/-- Slots, as_ a list. -/
def lkp : List (Nat × AV) → Env
  | [], _ => .any
  | (a, v) :: l, t => bif t == a then v else lkp l t
@[go_sem] theorem lkp_cons {a t : Nat} {v : AV} {l : List (Nat × AV)} : lkp ((a, v) :: l) t = bif t == a then v else lkp l t := rfl
/-- Own elements, or an empty literal. -/
def OwnE (sz : Nat) (τ σ' : Store) (v : AV) (es : List (List AV)) : Prop := OwnN sz τ σ' v es ∨ (es = [] ∧ v = .vsl sz [] true ∧ ∃ news, σ' = τ ++ news)
theorem OwnE.ext {sz : Nat} {τ σ' : Store} {v : AV} {es : List (List AV)} (h : OwnE sz τ σ' v es) : ∃ news, σ' = τ ++ news := by
  rcases h with h | ⟨_, _, h⟩
  · exact h.ext
  · exact h
theorem OwnE.rd {sz : Nat} {τ σ' : Store} {v : AV} {es : List (List AV)} (h : OwnE sz τ σ' v es) : RdSl σ' sz es v := by
  rcases h with h | ⟨rfl, rfl, _⟩
  · exact h.rd
  · exact .inl (.inr ⟨true, rfl⟩)
theorem OwnE.len {sz : Nat} {τ σ' : Store} {v : AV} {es : List (List AV)} (h : OwnE sz τ σ' v es) : rLenSl v = some (.int .i64 es.length) := h.rd.len
theorem OwnE.app {sz : Nat} {τ σ' : Store} {v : AV} {es ys : List (List AV)} (h : OwnE sz τ σ' v es) (h0 : ys.length ≠ 0) (hl : es.length + ys.length ≤ 1073741824) :
    ∃ v' σ'', aApp σ' sz v ys = some (v', σ'') ∧ OwnN sz τ σ'' v' (es ++ ys) := by
  rcases h with h | ⟨rfl, rfl, news, rfl⟩
  · exact h.app h0 hl
  · refine ⟨.sl (τ ++ news).length 0 ys.length none sz, (τ ++ news) ++ [some ys], by rw [app_v, if_neg h0, if_pos ⟨rfl, rfl, hl⟩]; simp, news ++ [some ys], by rw [List.append_assoc], .inr ⟨news.length, ?_, by simp, by rw [List.getElem?_append_right (Nat.le_refl _)]; simp⟩⟩
    intro e; exact h0 (by rw [(List.append_eq_nil_iff.1 e).2]; rfl)
theorem RdSl.elems {σ : Store} {sz : Nat} {es : List (List AV)} {x : AV} (h : RdSl σ sz es x) : slElems σ x = some es := by
  rcases h with (⟨rfl, rfl⟩ | ⟨ex, rfl⟩) | ⟨r, off, lim, o, rfl, hg, h1, h2⟩
  · rfl
  · rfl
  · rw [slElems_sl, hg]; simp only; rw [if_pos h1, h2]
set_option maxHeartbeats 4000000 in
theorem Clone_h (σ : Store) (l : List Hash) (x : AV) (hx : RdSl σ 32 (hr l) x) (hl : l.length < 1000000) :
    ACallsP TC 82 [x] σ (fun v σ' => OwnE 32 σ σ' v (hr l) ∧ (x = .nilsl ↔ v = .nilsl)) := by
  rcases hx with (⟨rfl, hnil⟩ | ⟨ex, rfl⟩) | ⟨r, off, lim, o, rfl, hg, h1, h2⟩
  · refine ACallsTo.toP (v := .nilsl) (σ' := σ) ?_ ⟨.inl ⟨[], by simp, .inl ⟨hnil, rfl⟩⟩, Iff.rfl⟩
    refine ACallsTo.of_body slices_Clone_api_Hash__ok (by simp) fun hw _ => ?_
    repeat' (first | refine SWp.seq ?_ | refine SWp.block ?_ | refine SWp.scope ?_ | refine SWp.condT rfl ?_ | refine SWp.condF rfl ?_ | (refine SWp.condD rfl (fun ht => ?_) (fun ht => ?_) <;> try (exfalso; omega)) | ((first | refine SWp.reg ?_ | refine SWp.skip ?_ | refine SWp.exit ?_ | refine SWp.ret ?_ | ((first | apply splitG | apply splitGB | apply splitR | apply splitRB | apply splitE | apply splitEB | apply splitC | apply splitCB) <;> intro ht)); all_goals try simp (disch := first | omega | (simp only [lens]; first | done | omega)) only [go_sem, Nat.reduceEqDiff, Nat.reduceBEq, Nat.reduceAdd, Nat.reduceMul, Nat.reduceSub, Nat.reduceLeDiff, Int.reduceToNat, Int.reducePow]))
    exact DownV.same hw (rlB_ok _ rfl)
  · by_cases h0 : l = []
    · subst h0
      refine ACallsTo.toP (v := .vsl 32 [] true) (σ' := σ) ?_ ⟨.inr ⟨rfl, rfl, [], by simp⟩, by simp⟩
      refine ACallsTo.of_body slices_Clone_api_Hash__ok (by simp) fun hw _ => ?_
      rw [hr_nil]
      repeat' (first | refine SWp.seq ?_ | refine SWp.block ?_ | refine SWp.scope ?_ | refine SWp.condT rfl ?_ | refine SWp.condF rfl ?_ | (refine SWp.condD rfl (fun ht => ?_) (fun ht => ?_) <;> try (exfalso; omega)) | ((first | refine SWp.reg ?_ | refine SWp.skip ?_ | refine SWp.exit ?_ | refine SWp.ret ?_ | ((first | apply splitG | apply splitGB | apply splitR | apply splitRB | apply splitE | apply splitEB | apply splitC | apply splitCB) <;> intro ht)); all_goals try simp (disch := first | omega | (simp only [lens]; first | done | omega)) only [go_sem, Nat.reduceEqDiff, Nat.reduceBEq, Nat.reduceAdd, Nat.reduceMul, Nat.reduceSub, Nat.reduceLeDiff, Int.reduceToNat, Int.reducePow]))
      exact DownV.same hw (rlB_ok _ rfl)
    · have hne : ¬ l.length = 0 := fun e => h0 (List.eq_nil_of_length_eq_zero e)
      refine ACallsP.of_keep slices_Clone_api_Hash__ok (by simp) ?_
      repeat' (first | refine SWp.seq ?_ | refine SWp.block ?_ | refine SWp.scope ?_ | refine SWp.condT rfl ?_ | refine SWp.condF rfl ?_ | (refine SWp.condD rfl (fun ht => ?_) (fun ht => ?_) <;> try (exfalso; omega)) | ((first | refine SWp.reg ?_ | refine SWp.skip ?_ | refine SWp.exit ?_ | refine SWp.ret ?_ | ((first | apply splitG | apply splitGB | apply splitR | apply splitRB | apply splitE | apply splitEB | apply splitC | apply splitCB) <;> intro ht)); all_goals try simp (disch := first | omega | (simp only [lens]; first | done | omega)) only [go_sem, Nat.reduceEqDiff, Nat.reduceBEq, Nat.reduceAdd, Nat.reduceMul, Nat.reduceSub, Nat.reduceLeDiff, Int.reduceToNat, Int.reducePow, hne, app_v]))
      refine .inl ⟨[some (hr l)], by simp, .inr ⟨0, by rw [Ne, hr_nil_iff]; exact h0, ?_, by simp⟩⟩
      simp [hr_len]
  · have hrl := hr_len l
    by_cases h0 : l = []
    · subst h0
      refine ACallsTo.toP (v := .vsl 32 [] true) (σ' := σ) ?_ ⟨.inr ⟨rfl, rfl, [], by simp⟩, by simp⟩
      refine ACallsTo.of_body slices_Clone_api_Hash__ok (by simp) fun hw _ => ?_
      rw [hr_nil] at *
      repeat' (first | refine SWp.seq ?_ | refine SWp.block ?_ | refine SWp.scope ?_ | refine SWp.condT rfl ?_ | refine SWp.condF rfl ?_ | (refine SWp.condD rfl (fun ht => ?_) (fun ht => ?_) <;> try (exfalso; omega)) | ((first | refine SWp.reg ?_ | refine SWp.skip ?_ | refine SWp.exit ?_ | refine SWp.ret ?_ | ((first | apply splitG | apply splitGB | apply splitR | apply splitRB | apply splitE | apply splitEB | apply splitC | apply splitCB) <;> intro ht)); all_goals try simp (disch := first | omega | (simp only [lens]; first | done | omega)) only [go_sem, Nat.reduceEqDiff, Nat.reduceBEq, Nat.reduceAdd, Nat.reduceMul, Nat.reduceSub, Nat.reduceLeDiff, Int.reduceToNat, Int.reducePow, hg, slElems_sl, h1, h2]))
      exact DownV.same hw (rlB_ok _ rfl)
    · have hne : ¬ l.length = 0 := fun e => h0 (List.eq_nil_of_length_eq_zero e)
      rw [hrl] at h1 h2
      refine ACallsP.of_keep slices_Clone_api_Hash__ok (by simp) ?_
      repeat' (first | refine SWp.seq ?_ | refine SWp.block ?_ | refine SWp.scope ?_ | refine SWp.condT rfl ?_ | refine SWp.condF rfl ?_ | (refine SWp.condD rfl (fun ht => ?_) (fun ht => ?_) <;> try (exfalso; omega)) | ((first | refine SWp.reg ?_ | refine SWp.skip ?_ | refine SWp.exit ?_ | refine SWp.ret ?_ | ((first | apply splitG | apply splitGB | apply splitR | apply splitRB | apply splitE | apply splitEB | apply splitC | apply splitCB) <;> intro ht)); all_goals try simp (disch := first | omega | (simp only [lens]; first | done | omega)) only [go_sem, Nat.reduceEqDiff, Nat.reduceBEq, Nat.reduceAdd, Nat.reduceMul, Nat.reduceSub, Nat.reduceLeDiff, Int.reduceToNat, Int.reducePow, hg, hne, app_v, slElems_sl, h1, h2]))
      refine .inl ⟨[some (hr l)], by simp, .inr ⟨0, by rw [Ne, hr_nil_iff]; exact h0, ?_, by simp⟩⟩
      simp [hr_len]
end Am
end Go.Proofs.YthgcooppjhcgcaaDoor
end
section
set_option linter.unusedSimpArgs false
set_option linter.unusedVariables false
/- Ranges: contracts: slices.Equal, Valid, step, push. -/
set_option linter.unusedSimpArgs false
set_option linter.unusedVariables false
namespace Go.Proofs.YthgcooppjhcgcaaDoor
namespace Am
theorem take_hd {l : List Hash} {i : Nat} (h : i < l.length) : l.take (i + 1) = l.take i ++ [hd l i] := by
  rw [hd_get h]; exact (List.take_append_getElem h).symm
set_option maxHeartbeats 4000000 in
theorem Equal_v (σ : Store) (A B : List Hash) (x y : AV) (hx : SlV 32 (hr A) x) (hy : SlV 32 (hr B) y) (hl : A.length < 1000000000) (hl2 : B.length < 1000000000) :
    ACallsTo TC 94 [x, y] σ (.bool (decide (A = B))) σ := by
  refine ACallsTo.of_body slices_Equal_api_Hash__ok (by simp) fun hw _ => ?_
  have r1 := hx.len
  have r2 := hy.len
  rw [hr_len] at r1 r2
  unfold rLenSl at r1 r2
  by_cases hL : A.length = B.length
  · repeat' (first | refine SWp.seq ?_ | refine SWp.block ?_ | refine SWp.scope ?_ | refine SWp.condT rfl ?_ | refine SWp.condF rfl ?_ | (refine SWp.condD rfl (fun ht => ?_) (fun ht => ?_) <;> try (exfalso; omega)) | ((first | refine SWp.reg ?_ | refine SWp.skip ?_ | refine SWp.exit ?_ | refine SWp.ret ?_ | ((first | apply splitG | apply splitGB | apply splitR | apply splitRB | apply splitE | apply splitEB | apply splitC | apply splitCB) <;> intro ht)); all_goals try simp (disch := first | omega | (simp only [lens]; first | done | omega)) only [go_sem, Nat.reduceEqDiff, Nat.reduceBEq, Nat.reduceAdd, Nat.reduceMul, Nat.reduceSub, Nat.reduceLeDiff, Int.reduceToNat, Int.reducePow, r1, r2]))
    refine SWp.loop (fun m ρ σ' => ∃ i : Nat, σ' = σ ∧ m + i = A.length ∧ A.take i = B.take i ∧ ρ 0 = x ∧ ρ 1 = y ∧ ρ 12 = .int .i64 A.length ∧ ρ 13 = .int .i64 i) A.length ?_ ?_
    · exact ⟨0, rfl, by omega, rfl, by simp (disch := first | omega | (simp only [lens]; first | done | omega)) only [go_sem, Nat.reduceEqDiff, Nat.reduceBEq, Nat.reduceAdd, Nat.reduceMul, Nat.reduceSub, Nat.reduceLeDiff, Int.reduceToNat, Int.reducePow], by simp (disch := first | omega | (simp only [lens]; first | done | omega)) only [go_sem, Nat.reduceEqDiff, Nat.reduceBEq, Nat.reduceAdd, Nat.reduceMul, Nat.reduceSub, Nat.reduceLeDiff, Int.reduceToNat, Int.reducePow], by simp (disch := first | omega | (simp only [lens]; first | done | omega)) only [go_sem, Nat.reduceEqDiff, Nat.reduceBEq, Nat.reduceAdd, Nat.reduceMul, Nat.reduceSub, Nat.reduceLeDiff, Int.reduceToNat, Int.reducePow, r1], by simp (disch := first | omega | (simp only [lens]; first | done | omega)) only [go_sem, Nat.reduceEqDiff, Nat.reduceBEq, Nat.reduceAdd, Nat.reduceMul, Nat.reduceSub, Nat.reduceLeDiff, Int.reduceToNat, Int.reducePow]; rfl⟩
    · rintro m ρ σ' ⟨i, rfl, hm, hp, q0, q1, q12, q13⟩
      by_cases hi : i < A.length
      · have hi2 : i < B.length := by omega
        obtain ⟨e1, rfl⟩ := hx.vsl (by rw [hr_len]; omega)
        obtain ⟨e2, rfl⟩ := hy.vsl (by rw [hr_len]; omega)
        have hn1 := take_hd hi
        have hn2 := take_hd hi2
        by_cases he : hd A i = hd B i
        · have hn : A.take (i + 1) = B.take (i + 1) := by rw [hn1, hn2, hp, he]
          have hde := decide_eq_true he
          clear hn1 hn2
          repeat' (first | refine SWp.seq ?_ | refine SWp.block ?_ | refine SWp.scope ?_ | refine SWp.condT rfl ?_ | refine SWp.condF rfl ?_ | (refine SWp.condD rfl (fun ht => ?_) (fun ht => ?_) <;> try (exfalso; omega)) | ((first | refine SWp.regS ?_ | refine SWp.skip ?_ | refine SWp.exit ?_ | refine SWp.ret ?_ | ((first | apply splitG | apply splitGB | apply splitR | apply splitRB | apply splitE | apply splitEB | apply splitC | apply splitCB) <;> intro ht)); all_goals try simp (disch := first | omega | (simp only [lens]; first | done | omega)) only [go_sem, Nat.reduceEqDiff, Nat.reduceBEq, Nat.reduceAdd, Nat.reduceMul, Nat.reduceSub, Nat.reduceLeDiff, Int.reduceToNat, Int.reducePow, q0, q1, q12, q13, hde]))
          exact ⟨A.length - (i + 1), by omega, i + 1, by omega, hn, by simp⟩
        · have e : decide (A = B) = false := decide_eq_false fun e => he (by subst e; rfl)
          have hde := decide_eq_false he
          rw [e]
          repeat' (first | refine SWp.seq ?_ | refine SWp.block ?_ | refine SWp.scope ?_ | refine SWp.condT rfl ?_ | refine SWp.condF rfl ?_ | (refine SWp.condD rfl (fun ht => ?_) (fun ht => ?_) <;> try (exfalso; omega)) | ((first | refine SWp.regS ?_ | refine SWp.skip ?_ | refine SWp.exit ?_ | refine SWp.ret ?_ | ((first | apply splitG | apply splitGB | apply splitR | apply splitRB | apply splitE | apply splitEB | apply splitC | apply splitCB) <;> intro ht)); all_goals try simp (disch := first | omega | (simp only [lens]; first | done | omega)) only [go_sem, Nat.reduceEqDiff, Nat.reduceBEq, Nat.reduceAdd, Nat.reduceMul, Nat.reduceSub, Nat.reduceLeDiff, Int.reduceToNat, Int.reducePow, q0, q1, q12, q13, hde]))
          exact DownV.same hw (rlB_ok _ rfl)
      · have e : decide (A = B) = true := decide_eq_true (by
          rw [List.take_of_length_le (by omega), List.take_of_length_le (by omega)] at hp
          exact hp)
        rw [e]
        repeat' (first | refine SWp.seq ?_ | refine SWp.block ?_ | refine SWp.scope ?_ | refine SWp.condT rfl ?_ | refine SWp.condF rfl ?_ | (refine SWp.condD rfl (fun ht => ?_) (fun ht => ?_) <;> try (exfalso; omega)) | ((first | refine SWp.reg ?_ | refine SWp.skip ?_ | refine SWp.exit ?_ | refine SWp.ret ?_ | ((first | apply splitG | apply splitGB | apply splitR | apply splitRB | apply splitE | apply splitEB | apply splitC | apply splitCB) <;> intro ht)); all_goals try simp (disch := first | omega | (simp only [lens]; first | done | omega)) only [go_sem, Nat.reduceEqDiff, Nat.reduceBEq, Nat.reduceAdd, Nat.reduceMul, Nat.reduceSub, Nat.reduceLeDiff, Int.reduceToNat, Int.reducePow, q0, q1, q12, q13]))
        exact DownV.same hw (rlB_ok _ rfl)
  · have e : decide (A = B) = false := decide_eq_false fun e => hL (by rw [e])
    have hL' : ¬ (A.length : Int) = B.length := by omega
    rw [e]
    repeat' (first | refine SWp.seq ?_ | refine SWp.block ?_ | refine SWp.scope ?_ | refine SWp.condT rfl ?_ | refine SWp.condF rfl ?_ | (refine SWp.condD rfl (fun ht => ?_) (fun ht => ?_) <;> try (exfalso; omega)) | ((first | refine SWp.reg ?_ | refine SWp.skip ?_ | refine SWp.exit ?_ | refine SWp.ret ?_ | ((first | apply splitG | apply splitGB | apply splitR | apply splitRB | apply splitE | apply splitEB | apply splitC | apply splitCB) <;> intro ht)); all_goals try simp (disch := first | omega | (simp only [lens]; first | done | omega)) only [go_sem, Nat.reduceEqDiff, Nat.reduceBEq, Nat.reduceAdd, Nat.reduceMul, Nat.reduceSub, Nat.reduceLeDiff, Int.reduceToNat, Int.reducePow, r1, r2, hL']))
    exact DownV.same hw (rlB_ok _ rfl)
theorem Equal_h (σ : Store) (A B : List Hash) (x y : AV) (hx : RdSl σ 32 (hr A) x) (hy : RdSl σ 32 (hr B) y) (hl : A.length < 1000000000) (hl2 : B.length < 1000000000) :
    ACallsTo TC 94 [x, y] σ (.bool (decide (A = B))) σ := by
  obtain ⟨x0, h0, hd⟩ := hx.lend (rlss_hr A)
  obtain ⟨y0, h1, hd1⟩ := hy.lend (rlss_hr B)
  have := ACallsTo.lend glok (Equal_v [] A B x0 y0 h0 h1 hl hl2) (drsc hd (drs1 hd1))
  rwa [show sh σ.length (.bool (decide (A = B))) = .bool (decide (A = B)) from rfl, shS_nil, List.append_nil] at this
def validR (n : Int) (len : Nat) : Bool := decide (0 ≤ n ∧ n ≤ 4096 ∧ len = pc 64 n.toNat)
theorem ranges_Valid_h (σ : Store) (n : Int) (hs : List Hash) (x : AV) (hx : RdSl σ 32 (hr hs) x) :
    ACallsTo TC 21 [.agg [.int .i64 n, x]] σ (.bool (validR n hs.length)) σ := by
  have r1 := hx.len
  rw [hr_len] at r1
  unfold rLenSl at r1
  refine ACallsTo.of_body ranges_Valid_ok (by simp) fun hw _ => ?_
  by_cases h1 : 0 ≤ n ∧ n ≤ 4096
  · have h := fun σ => bits_Ones_to σ n (by omega)
    by_cases h2 : hs.length = pc 64 n.toNat
    · have e : validR n hs.length = true := decide_eq_true ⟨h1.1, h1.2, h2⟩
      have h2' : (hs.length : Int) = pc 64 n.toNat := by omega
      rw [e]
      repeat' (first | refine SWp.seq ?_ | refine SWp.block ?_ | refine SWp.scope ?_ | refine SWp.condT rfl ?_ | refine SWp.condF rfl ?_ | (refine SWp.condD rfl (fun ht => ?_) (fun ht => ?_) <;> try (exfalso; omega)) | ((first | refine SWp.reg ?_ | refine SWp.skip ?_ | refine SWp.exit ?_ | refine SWp.ret ?_ | (apply callW.mk_pu; (first | exact (fun _ => h _))) | (apply callW.any; (first | exact (h _))) | ((first | apply splitG | apply splitGB | apply splitR | apply splitRB | apply splitE | apply splitEB | apply splitC | apply splitCB) <;> intro ht)); all_goals try simp (disch := first | omega | (simp only [lens]; first | done | omega)) only [go_sem, Nat.reduceEqDiff, Nat.reduceBEq, Nat.reduceAdd, Nat.reduceMul, Nat.reduceSub, Nat.reduceLeDiff, Int.reduceToNat, Int.reducePow, r1, h2']))
      exact DownV.pure hw (rlB_ok _ rfl)
    · have e : validR n hs.length = false := decide_eq_false fun e => h2 e.2.2
      have h2' : ¬ (hs.length : Int) = pc 64 n.toNat := by omega
      rw [e]
      repeat' (first | refine SWp.seq ?_ | refine SWp.block ?_ | refine SWp.scope ?_ | refine SWp.condT rfl ?_ | refine SWp.condF rfl ?_ | (refine SWp.condD rfl (fun ht => ?_) (fun ht => ?_) <;> try (exfalso; omega)) | ((first | refine SWp.reg ?_ | refine SWp.skip ?_ | refine SWp.exit ?_ | refine SWp.ret ?_ | (apply callW.mk_pu; (first | exact (fun _ => h _))) | (apply callW.any; (first | exact (h _))) | ((first | apply splitG | apply splitGB | apply splitR | apply splitRB | apply splitE | apply splitEB | apply splitC | apply splitCB) <;> intro ht)); all_goals try simp (disch := first | omega | (simp only [lens]; first | done | omega)) only [go_sem, Nat.reduceEqDiff, Nat.reduceBEq, Nat.reduceAdd, Nat.reduceMul, Nat.reduceSub, Nat.reduceLeDiff, Int.reduceToNat, Int.reducePow, r1, h2']))
      exact DownV.pure hw (rlB_ok _ rfl)
  · have e : validR n hs.length = false := decide_eq_false fun e => h1 ⟨e.1, e.2.1⟩
    rw [e]
    repeat' (first | refine SWp.seq ?_ | refine SWp.block ?_ | refine SWp.scope ?_ | refine SWp.condT rfl ?_ | refine SWp.condF rfl ?_ | (refine SWp.condD rfl (fun ht => ?_) (fun ht => ?_) <;> try (exfalso; omega)) | ((first | refine SWp.reg ?_ | refine SWp.skip ?_ | refine SWp.exit ?_ | refine SWp.ret ?_ | ((first | apply splitG | apply splitGB | apply splitR | apply splitRB | apply splitE | apply splitEB | apply splitC | apply splitCB) <;> intro ht)); all_goals try simp (disch := first | omega | (simp only [lens]; first | done | omega)) only [go_sem, Nat.reduceEqDiff, Nat.reduceBEq, Nat.reduceAdd, Nat.reduceMul, Nat.reduceSub, Nat.reduceLeDiff, Int.reduceToNat, Int.reducePow, r1]))
    all_goals exact DownV.pure hw (rlB_ok _ rfl)
theorem step_to (σ : Store) (n d : Nat) (h0 : 0 < d) (h : n + d ≤ 4096) : ACallsTo TC 92 [.int .i64 n, .int .i64 ((n + d : Nat) : Int)] σ (.int .i64 (stepS n d)) σ := by
  refine ACallsTo.of_body ranges_step_ok (by simp) fun hw _ => ?_
  have hsub : ((n + d : Nat) : Int) - n = d := by omega
  repeat' (first | refine SWp.seq ?_ | refine SWp.block ?_ | refine SWp.scope ?_ | refine SWp.condT rfl ?_ | refine SWp.condF rfl ?_ | (refine SWp.condD rfl (fun ht => ?_) (fun ht => ?_) <;> try (exfalso; omega)) | ((first | refine SWp.reg ?_ | refine SWp.skip ?_ | refine SWp.exit ?_ | refine SWp.ret ?_ | ((first | apply splitG | apply splitGB | apply splitR | apply splitRB | apply splitE | apply splitEB | apply splitC | apply splitCB) <;> intro ht)); all_goals try simp (disch := first | omega | (simp only [lens]; first | done | omega)) only [go_sem, Nat.reduceEqDiff, Nat.reduceBEq, Nat.reduceAdd, Nat.reduceMul, Nat.reduceSub, Nat.reduceLeDiff, Int.reduceToNat, Int.reducePow]))
  refine SWp.loop (fun m ρ σ' => ∃ k : Nat, σ' = σ ∧ k ≤ d ∧ 0 < k ∧ d < 2 ^ m * k ∧ stepF m n d k = stepS n d ∧ ρ 0 = .int .i64 n ∧ ρ 1 = .int .i64 ((n + d : Nat) : Int) ∧ ρ 5 = .int .i64 k) 13 ?_ ?_
  · exact ⟨1, rfl, by omega, by omega, by omega, rfl, by simp (disch := first | omega | (simp only [lens]; first | done | omega)) only [go_sem, Nat.reduceEqDiff, Nat.reduceBEq, Nat.reduceAdd, Nat.reduceMul, Nat.reduceSub, Nat.reduceLeDiff, Int.reduceToNat, Int.reducePow], by simp (disch := first | omega | (simp only [lens]; first | done | omega)) only [go_sem, Nat.reduceEqDiff, Nat.reduceBEq, Nat.reduceAdd, Nat.reduceMul, Nat.reduceSub, Nat.reduceLeDiff, Int.reduceToNat, Int.reducePow], by simp (disch := first | omega | (simp only [lens]; first | done | omega)) only [go_sem, Nat.reduceEqDiff, Nat.reduceBEq, Nat.reduceAdd, Nat.reduceMul, Nat.reduceSub, Nat.reduceLeDiff, Int.reduceToNat, Int.reducePow]; rfl⟩
  · rintro m ρ σ' ⟨k, rfl, hk, hk0, hkm, hp, q0, q1, q5⟩
    cases m with
    | zero => simp at hkm; omega
    | succ m =>
      have hmod : (n : Int) % (2 * k) = ((n % (2 * k) : Nat) : Int) := by simp
      have hk2 : ¬ (2 * (k : Int)) = 0 := by omega
      simp only [stepF] at hp
      by_cases hc : 2 * k ≤ d ∧ n % (2 * k) = 0
      · rw [if_pos hc] at hp
        have hc1 : (k : Int) ≤ d / 2 := by omega
        have hc2 : ((n % (2 * k) : Nat) : Int) = 0 := by omega
        generalize n % (2 * k) = r at *
        have e2 := Nat.pow_succ (n := 2) (m := m)
        repeat' (first | refine SWp.seq ?_ | refine SWp.block ?_ | refine SWp.scope ?_ | refine SWp.condT rfl ?_ | refine SWp.condF rfl ?_ | (refine SWp.condD rfl (fun ht => ?_) (fun ht => ?_) <;> try (exfalso; omega)) | ((first | refine SWp.reg ?_ | refine SWp.skip ?_ | refine SWp.exit ?_ | refine SWp.ret ?_ | ((first | apply splitG | apply splitGB | apply splitR | apply splitRB | apply splitE | apply splitEB | apply splitC | apply splitCB) <;> intro ht)); all_goals try simp (disch := first | omega | (simp only [lens]; first | done | omega)) only [go_sem, Nat.reduceEqDiff, Nat.reduceBEq, Nat.reduceAdd, Nat.reduceMul, Nat.reduceSub, Nat.reduceLeDiff, Int.reduceToNat, Int.reducePow, q0, q1, q5, hsub, hmod, hk2, hc2, hc1]))
        exact ⟨m, by omega, 2 * k, by omega, by omega, by rw [e2, Nat.mul_assoc] at hkm; exact hkm, hp, by simp; omega⟩
      · rw [if_neg hc] at hp
        rw [← hp]
        by_cases hc1 : (k : Int) ≤ d / 2
        · have hc2 : ¬ ((n % (2 * k) : Nat) : Int) = 0 := by omega
          generalize n % (2 * k) = r at *
          repeat' (first | refine SWp.seq ?_ | refine SWp.block ?_ | refine SWp.scope ?_ | refine SWp.condT rfl ?_ | refine SWp.condF rfl ?_ | (refine SWp.condD rfl (fun ht => ?_) (fun ht => ?_) <;> try (exfalso; omega)) | ((first | refine SWp.reg ?_ | refine SWp.skip ?_ | refine SWp.exit ?_ | refine SWp.ret ?_ | ((first | apply splitG | apply splitGB | apply splitR | apply splitRB | apply splitE | apply splitEB | apply splitC | apply splitCB) <;> intro ht)); all_goals try simp (disch := first | omega | (simp only [lens]; first | done | omega)) only [go_sem, Nat.reduceEqDiff, Nat.reduceBEq, Nat.reduceAdd, Nat.reduceMul, Nat.reduceSub, Nat.reduceLeDiff, Int.reduceToNat, Int.reducePow, q0, q1, q5, hsub, hmod, hk2, hc2, hc1]))
          exact DownV.same hw (rlB_ok _ rfl)
        · repeat' (first | refine SWp.seq ?_ | refine SWp.block ?_ | refine SWp.scope ?_ | refine SWp.condT rfl ?_ | refine SWp.condF rfl ?_ | (refine SWp.condD rfl (fun ht => ?_) (fun ht => ?_) <;> try (exfalso; omega)) | ((first | refine SWp.reg ?_ | refine SWp.skip ?_ | refine SWp.exit ?_ | refine SWp.ret ?_ | ((first | apply splitG | apply splitGB | apply splitR | apply splitRB | apply splitE | apply splitEB | apply splitC | apply splitCB) <;> intro ht)); all_goals try simp (disch := first | omega | (simp only [lens]; first | done | omega)) only [go_sem, Nat.reduceEqDiff, Nat.reduceBEq, Nat.reduceAdd, Nat.reduceMul, Nat.reduceSub, Nat.reduceLeDiff, Int.reduceToNat, Int.reducePow, q0, q1, q5, hsub, hmod, hk2, hc1]))
          exact DownV.same hw (rlB_ok _ rfl)
end Am
end Go.Proofs.YthgcooppjhcgcaaDoor
end
section
set_option linter.unusedSimpArgs false
set_option linter.unusedVariables false
/- Ranges: contracts: push. -/
set_option linter.unusedSimpArgs false
set_option linter.unusedVariables false
namespace Go.Proofs.YthgcooppjhcgcaaDoor
namespace Am
def Ext (σ σ' : Store) : Prop := ∃ news, σ' = σ ++ news
theorem Ext.refl (σ : Store) : Ext σ σ := ⟨[], by simp⟩
theorem Ext.app {σ σ' y : Store} (h : Ext σ σ') : Ext σ (σ' ++ y) := by
  obtain ⟨n, rfl⟩ := h
  exact ⟨n ++ y, by rw [List.append_assoc]⟩
theorem Ext.set {σ σ' : Store} {r : Nat} {x : Option AObj} (h : Ext σ σ') (hr : σ.length ≤ r) : Ext σ (σ'.set r x) := by
  obtain ⟨n, rfl⟩ := h
  exact ⟨n.set (r - σ.length) x, List.set_append_right _ _ hr⟩
theorem Ext.trans {σ σ' σ'' : Store} (h : Ext σ σ') (h' : Ext σ' σ'') : Ext σ σ'' := by
  obtain ⟨n, rfl⟩ := h
  obtain ⟨m, rfl⟩ := h'
  exact ⟨n ++ m, by rw [List.append_assoc]⟩
theorem Ext.le {σ σ' : Store} (h : Ext σ σ') : σ.length ≤ σ'.length := by
  obtain ⟨n, rfl⟩ := h; simp
theorem Clone_ex (σ : Store) (l : List Hash) (x : AV) (hx : RdSl σ 32 (hr l) x) : ∃ v σ', OwnE 32 σ σ' v (hr l) ∧ (x = .nilsl ↔ v = .nilsl) := by
  have h1 := own_is σ 32 (hr l)
  rcases hx with (⟨rfl, h⟩ | ⟨ex, rfl⟩) | ⟨r, off, lim, o, rfl, _⟩
  · exact ⟨.nilsl, σ, .inl ⟨[], by simp, .inl ⟨h, rfl⟩⟩, Iff.rfl⟩
  · by_cases h0 : hr l = []
    · exact ⟨.vsl 32 [] true, σ, .inr ⟨h0, rfl, [], by simp⟩, by simp⟩
    · refine ⟨_, _, .inl h1, ?_⟩
      unfold ownV; rw [if_neg h0]; simp
  · by_cases h0 : hr l = []
    · exact ⟨.vsl 32 [] true, σ, .inr ⟨h0, rfl, [], by simp⟩, by simp⟩
    · refine ⟨_, _, .inl h1, ?_⟩
      unfold ownV; rw [if_neg h0]; simp
theorem and_pow {n i : Nat} : n &&& 2 ^ i = if n / 2 ^ i % 2 = 1 then 2 ^ i else 0 := by
  apply Nat.eq_of_testBit_eq
  intro k
  rw [Nat.testBit_and, Nat.testBit_two_pow]
  by_cases hk : i = k
  · subst hk
    rw [Nat.testBit_eq_decide_div_mod_eq]
    split
    · rename_i h; simp [h, Nat.testBit_two_pow]
    · rename_i h; simp [h]
  · split
    · simp [hk, Nat.testBit_two_pow]
    · simp [hk]
theorem pc_odd {f q : Nat} (h : q % 2 = 1) (hf : 0 < f) : pc f q = 1 + pc (f - 1) (q / 2) := by
  match f, hf with
  | f + 1, _ => simp [pc, h]
/-- A loop that is left in its first round. -/
theorem SWp.once {C : Ctx} {n k : Nat} {Q : AExit → Env → Store → Prop} {ρ : Env} {σ : Store} {x : ACode} (h : SWp C n k x (thenQ (fun _ _ => False) Q) ρ σ) : SWp C n k (.loop x) Q ρ σ :=
  SWp.loop (fun _ ρ' σ' => ρ' = ρ ∧ σ' = σ) 0 ⟨rfl, rfl⟩ (by
    rintro m _ _ ⟨rfl, rfl⟩
    refine h.mono fun e ρ σ h => ?_
    cases e
    · exact h.elim
    · exact h
    · exact h)
set_option maxHeartbeats 8000000 in
theorem push_to (σ : Store) (n j : Nat) (x : AV) (hs : List Hash) (h : Hash) (hx : RdSl σ 32 (hr hs) x) (hj : 2 ^ j ∣ n) (hn : n + 2 ^ j ≤ 4096) (hl : hs.length = pc 13 n) :
    ACallsTo TC 83 [.agg [.int .i64 n, x], .int .i64 ((2 ^ j : Nat) : Int), .agg (hc h)] σ (.agg [.int .i64 ((n + 2 ^ j : Nat) : Int), .vsl 32 (hr (pushR (n / 2 ^ j) hs.reverse h).reverse) false]) σ := by
  have hp : 0 < 2 ^ j := Nat.pow_pos (by decide)
  have hj12 : j ≤ 12 := by
    rcases Nat.lt_or_ge j 13 with h | h
    · omega
    · have := Nat.pow_le_pow_right (n := 2) (by decide) h
      omega
  have hlen : hs.length < 1000000 := by
    have : ∀ f q, pc f q ≤ f := fun f => by
      induction f with
      | zero => intro q; simp [pc]
      | succ f ih => intro q; simp only [pc]; have := ih (q / 2); omega
    have := this 13 n; omega
  obtain ⟨q0, hq0⟩ := hj
  have hdiv : n / 2 ^ j = q0 := by rw [hq0]; exact Nat.mul_div_cancel_left _ hp
  have hpl : hs.length = pc (13 - j) (n / 2 ^ j) := by
    have := pc_two j (13 - j) q0
    rw [← hq0, show 13 - j + j = 13 by omega] at this
    rw [hl, this, hdiv]
  generalize hk0 : 2 ^ j = k0 at *
  have hadd : ((n : Int) + k0) = ((n + k0 : Nat) : Int) := by omega
  refine ACallsTo.of_body ranges_push_ok (by simp) fun hw _ => ?_
  repeat' (first | refine SWp.seq ?_ | refine SWp.block ?_ | refine SWp.scope ?_ | refine SWp.condT rfl ?_ | refine SWp.condF rfl ?_ | (refine SWp.condD rfl (fun ht => ?_) (fun ht => ?_) <;> try (exfalso; omega)) | ((first | refine SWp.reg ?_ | refine SWp.skip ?_ | refine SWp.exit ?_ | refine SWp.ret ?_ | ((first | apply splitG | apply splitGB | apply splitR | apply splitRB | apply splitE | apply splitEB | apply splitC | apply splitCB) <;> intro ht)); all_goals try simp (disch := first | omega | (simp only [lens]; first | done | omega)) only [go_sem, Nat.reduceEqDiff, Nat.reduceBEq, Nat.reduceAdd, Nat.reduceMul, Nat.reduceSub, Nat.reduceLeDiff, Int.reduceToNat, Int.reducePow]))
  refine callW.mkP (Clone_h _ hs x hx.app hlen) (Clone_ex _ hs x hx.app) ?_
  rintro v σ1 ⟨hO, _⟩
  obtain ⟨y, hy⟩ := hO.ext
  have b0 : σ1[σ.length]? = some (some [[.int .i64 n, x]]) := by rw [hy]; simp
  have b1 : σ1[σ.length + 1]? = some (some [hc h]) := by rw [hy]; simp
  have b2 : σ1[σ.length + 2]? = some (some [[.int .i64 0, .nilsl]]) := by rw [hy]; simp
  have b3 : Ext σ σ1 := by rw [hy]; exact (Ext.refl σ).app.app
  have g0 := slen b0
  have g1 := slen b1
  have g2 := slen b2
  by_cases h0 : hs = []
  · subst h0
    have hn0 : n / k0 % 2 = 0 := by
      have := hpl
      simp at this
      rcases Nat.mod_two_eq_zero_or_one (n / k0) with h | h
      · exact h
      · rw [pc_odd h (by omega)] at this; omega
    have hand := and_pow (n := n) (i := j)
    rw [hk0, if_neg (by omega)] at hand
    have hres : hr (pushR (n / k0) ([] : List Hash).reverse h).reverse = [hc h] := rfl
    rw [hres]
    have hv : v = .nilsl ∨ v = .vsl 32 [] true := by
      rcases hO with ⟨_, _, ⟨_, rfl⟩ | ⟨_, h1, _⟩⟩ | ⟨_, rfl, _⟩
      · exact .inl rfl
      · exact absurd rfl h1
      · exact .inr rfl
    have fin : ∀ σ2 r, Ext σ σ2 → σ.length ≤ r → σ2[r]? = some (some [hc h]) → DownV σ.length (.agg [.int .i64 ((n + k0 : Nat) : Int), .sl r 0 1 none 32]) σ2 (.agg [.int .i64 ((n + k0 : Nat) : Int), .vsl 32 [hc h] false]) σ := fun σ2 r e hr hg => by
      obtain ⟨news, rfl⟩ := e
      exact DownV.all hw (drA (drsc (FrzD.same (by simp [RL])) (drs1 (FrzD.sl (es := [hc h]) hr hg (by simp) (by simp) (by simp only [RLss]; exact ⟨rl_hc _, trivial⟩)))))
    rcases hv with rfl | rfl
    · repeat' (first | refine SWp.seq ?_ | refine SWp.block ?_ | refine SWp.scope ?_ | refine SWp.condT rfl ?_ | refine SWp.condF rfl ?_ | (refine SWp.condD rfl (fun ht => ?_) (fun ht => ?_) <;> try (exfalso; omega)) | ((first | refine SWp.reg ?_ | refine SWp.skip ?_ | refine SWp.exit ?_ | refine SWp.ret ?_ | ((first | apply splitG | apply splitGB | apply splitR | apply splitRB | apply splitE | apply splitEB | apply splitC | apply splitCB) <;> intro ht)); all_goals try simp (disch := first | omega | (simp only [lens]; first | done | omega)) only [go_sem, Nat.reduceEqDiff, Nat.reduceBEq, Nat.reduceAdd, Nat.reduceMul, Nat.reduceSub, Nat.reduceLeDiff, Int.reduceToNat, Int.reducePow, b0, b1, b2]))
      refine SWp.once ?_
      repeat' (first | refine SWp.seq ?_ | refine SWp.block ?_ | refine SWp.scope ?_ | refine SWp.condT rfl ?_ | refine SWp.condF rfl ?_ | (refine SWp.condD rfl (fun ht => ?_) (fun ht => ?_) <;> try (exfalso; omega)) | ((first | refine SWp.reg ?_ | refine SWp.skip ?_ | refine SWp.exit ?_ | refine SWp.ret ?_ | ((first | apply splitG | apply splitGB | apply splitR | apply splitRB | apply splitE | apply splitEB | apply splitC | apply splitCB) <;> intro ht)); all_goals try simp (disch := first | omega | (simp only [lens]; first | done | omega)) only [go_sem, Nat.reduceEqDiff, Nat.reduceBEq, Nat.reduceAdd, Nat.reduceMul, Nat.reduceSub, Nat.reduceLeDiff, Int.reduceToNat, Int.reducePow, b0, b1, b2, hand, hadd]))
      exact fin _ _ (b3.set (by omega)).app (by omega) (by simp)
    · repeat' (first | refine SWp.seq ?_ | refine SWp.block ?_ | refine SWp.scope ?_ | refine SWp.condT rfl ?_ | refine SWp.condF rfl ?_ | (refine SWp.condD rfl (fun ht => ?_) (fun ht => ?_) <;> try (exfalso; omega)) | ((first | refine SWp.reg ?_ | refine SWp.skip ?_ | refine SWp.exit ?_ | refine SWp.ret ?_ | ((first | apply splitG | apply splitGB | apply splitR | apply splitRB | apply splitE | apply splitEB | apply splitC | apply splitCB) <;> intro ht)); all_goals try simp (disch := first | omega | (simp only [lens]; first | done | omega)) only [go_sem, Nat.reduceEqDiff, Nat.reduceBEq, Nat.reduceAdd, Nat.reduceMul, Nat.reduceSub, Nat.reduceLeDiff, Int.reduceToNat, Int.reducePow, b0, b1, b2]))
      refine SWp.once ?_
      repeat' (first | refine SWp.seq ?_ | refine SWp.block ?_ | refine SWp.scope ?_ | refine SWp.condT rfl ?_ | refine SWp.condF rfl ?_ | (refine SWp.condD rfl (fun ht => ?_) (fun ht => ?_) <;> try (exfalso; omega)) | ((first | refine SWp.reg ?_ | refine SWp.skip ?_ | refine SWp.exit ?_ | refine SWp.ret ?_ | ((first | apply splitG | apply splitGB | apply splitR | apply splitRB | apply splitE | apply splitEB | apply splitC | apply splitCB) <;> intro ht)); all_goals try simp (disch := first | omega | (simp only [lens]; first | done | omega)) only [go_sem, Nat.reduceEqDiff, Nat.reduceBEq, Nat.reduceAdd, Nat.reduceMul, Nat.reduceSub, Nat.reduceLeDiff, Int.reduceToNat, Int.reducePow, b0, b1, b2, hand, hadd]))
      exact fin _ _ (b3.set (by omega)).app (by omega) (by simp)
  · have hpos : 0 < hs.length := List.length_pos_iff.2 h0
    obtain ⟨r, rfl, hgr, hrl⟩ : ∃ r, v = .sl r 0 hs.length none 32 ∧ σ1[r]? = some (some (hr hs)) ∧ σ.length + 3 ≤ r := by
      rcases hO with hO | hO
      · obtain ⟨r, h1, h2, h3⟩ := hO.sl (by rw [Ne, hr_nil_iff]; exact h0)
        rw [hr_len] at h1
        exact ⟨r, h1, h2, by simpa using h3⟩
      · exact absurd (hr_nil_iff.1 hO.1) h0
    have g3 := slen hgr
    repeat' (first | refine SWp.seq ?_ | refine SWp.block ?_ | refine SWp.scope ?_ | refine SWp.condT rfl ?_ | refine SWp.condF rfl ?_ | (refine SWp.condD rfl (fun ht => ?_) (fun ht => ?_) <;> try (exfalso; omega)) | ((first | refine SWp.reg ?_ | refine SWp.skip ?_ | refine SWp.exit ?_ | refine SWp.ret ?_ | ((first | apply splitG | apply splitGB | apply splitR | apply splitRB | apply splitE | apply splitEB | apply splitC | apply splitCB) <;> intro ht)); all_goals try simp (disch := first | omega | (simp only [lens]; first | done | omega)) only [go_sem, Nat.reduceEqDiff, Nat.reduceBEq, Nat.reduceAdd, Nat.reduceMul, Nat.reduceSub, Nat.reduceLeDiff, Int.reduceToNat, Int.reducePow, b0, b1, b2, hadd]))
    refine SWp.loop (fun m ρ σ' => ∃ (i : Nat) (h' : Hash), m ≤ hs.length ∧ j ≤ i ∧ i ≤ 13 ∧ m = pc (13 - i) (n / 2 ^ i) ∧ pushR (n / 2 ^ i) (hs.take m).reverse h' = pushR (n / k0) hs.reverse h ∧
      σ'[σ.length]? = some (some [[.int .i64 n, x]]) ∧ σ'[σ.length + 1]? = some (some [hc h']) ∧ σ'[σ.length + 2]? = some (some [[.int .i64 0, .nilsl]]) ∧ σ'[r]? = some (some (hr hs)) ∧ Ext σ σ' ∧
      ρ 1 = .int .i64 k0 ∧ ρ 3 = .ptr σ.length 0 0 ∧ ρ 5 = .ptr (σ.length + 1) 0 0 ∧ ρ 6 = .ptr (σ.length + 2) 0 0 ∧ ρ 7 = .sl r 0 m none 32 ∧ ρ 8 = .int .i64 ((2 ^ i : Nat) : Int)) hs.length ?_ ?_
    · refine ⟨j, h, Nat.le_refl _, Nat.le_refl _, by omega, ?_, ?_, b0, b1, b2, hgr, b3, by simp (disch := first | omega | (simp only [lens]; first | done | omega)) only [go_sem, Nat.reduceEqDiff, Nat.reduceBEq, Nat.reduceAdd, Nat.reduceMul, Nat.reduceSub, Nat.reduceLeDiff, Int.reduceToNat, Int.reducePow], by simp (disch := first | omega | (simp only [lens]; first | done | omega)) only [go_sem, Nat.reduceEqDiff, Nat.reduceBEq, Nat.reduceAdd, Nat.reduceMul, Nat.reduceSub, Nat.reduceLeDiff, Int.reduceToNat, Int.reducePow], by simp (disch := first | omega | (simp only [lens]; first | done | omega)) only [go_sem, Nat.reduceEqDiff, Nat.reduceBEq, Nat.reduceAdd, Nat.reduceMul, Nat.reduceSub, Nat.reduceLeDiff, Int.reduceToNat, Int.reducePow], by simp (disch := first | omega | (simp only [lens]; first | done | omega)) only [go_sem, Nat.reduceEqDiff, Nat.reduceBEq, Nat.reduceAdd, Nat.reduceMul, Nat.reduceSub, Nat.reduceLeDiff, Int.reduceToNat, Int.reducePow], by simp (disch := first | omega | (simp only [lens]; first | done | omega)) only [go_sem, Nat.reduceEqDiff, Nat.reduceBEq, Nat.reduceAdd, Nat.reduceMul, Nat.reduceSub, Nat.reduceLeDiff, Int.reduceToNat, Int.reducePow], by simp (disch := first | omega | (simp only [lens]; first | done | omega)) only [go_sem, Nat.reduceEqDiff, Nat.reduceBEq, Nat.reduceAdd, Nat.reduceMul, Nat.reduceSub, Nat.reduceLeDiff, Int.reduceToNat, Int.reducePow]; rw [hk0]⟩
      · rw [hk0]; exact hpl
      · rw [hk0, List.take_of_length_le (Nat.le_refl _)]
    · rintro m ρ σ' ⟨i, h', hm, hji, hi13, hmp, hpush, c0, c1, c2, cr, ce, q1, q3, q5, q6, q7, q8⟩
      have d0 := slen c0
      have d1 := slen c1
      have d2 := slen c2
      have dr := slen cr
      have hki : 0 < 2 ^ i := Nat.pow_pos (by decide)
      have hand := and_pow (n := n) (i := i)
      have hi8 : 2 ^ i ≤ 8192 := by
        have := Nat.pow_le_pow_right (n := 2) (by decide) hi13
        exact this
      have hs2 : 2 ^ (i + 1) = 2 ^ i * 2 := Nat.pow_succ ..
      have hdd : n / 2 ^ i / 2 = n / 2 ^ (i + 1) := by rw [Nat.div_div_eq_div_mul, hs2]
      by_cases hbit : n / 2 ^ i % 2 = 1
      · rw [if_pos hbit] at hand
        have hi12 : i < 13 := by
          rcases Nat.lt_or_ge i 13 with h | h
          · exact h
          · have e13 : i = 13 := by omega
            rw [e13, Nat.div_eq_of_lt (by omega)] at hbit
            simp at hbit
        rw [pc_odd hbit (by omega)] at hmp
        obtain ⟨l, rfl⟩ : ∃ l, m = l + 1 := ⟨m - 1, by omega⟩
        have hrev : (hs.take (l + 1)).reverse = hd hs l :: (hs.take l).reverse := by rw [take_hd (by omega)]; simp
        rw [hrev, pushR_odd hbit, hdd] at hpush
        rw [hdd, show 13 - i - 1 = 13 - (i + 1) by omega] at hmp
        generalize hki2 : 2 ^ i = k at *
        have hne : ¬ (k : Int) = 0 := by omega
        have hl1 : ((l + 1 : Nat) : Int) - 1 = l := by omega
        repeat' (first | refine SWp.seq ?_ | refine SWp.block ?_ | refine SWp.scope ?_ | refine SWp.condT rfl ?_ | refine SWp.condF rfl ?_ | (refine SWp.condD rfl (fun ht => ?_) (fun ht => ?_) <;> try (exfalso; omega)) | ((first | refine SWp.regS ?_ | refine SWp.skip ?_ | refine SWp.exit ?_ | refine SWp.ret ?_ | (apply callW.mk_pu; (first | exact (fun _ => trees_Node_h _ _ _))) | (apply callW.any; (first | exact (trees_Node_h _ _ _))) | ((first | apply splitG | apply splitGB | apply splitR | apply splitRB | apply splitE | apply splitEB | apply splitC | apply splitCB) <;> intro ht)); all_goals try simp (disch := first | omega | (simp only [lens]; first | done | omega)) only [go_sem, Nat.reduceEqDiff, Nat.reduceBEq, Nat.reduceAdd, Nat.reduceMul, Nat.reduceSub, Nat.reduceLeDiff, Int.reduceToNat, Int.reducePow, q1, q3, q5, q6, q7, q8, c0, c1, c2, cr, hand, hne, hl1]))
        exact ⟨l, by omega, i + 1, nodeH (hd hs l) h', by omega, by omega, by omega, by omega, hpush, rfl, ce.set (by omega), by simp, by rw [hs2]; simp⟩
      · rw [if_neg hbit] at hand
        rw [pushR_even (by omega)] at hpush
        have hres : (pushR (n / k0) hs.reverse h).reverse = hs.take m ++ [h'] := by rw [← hpush]; simp
        rw [hres]
        generalize hki2 : 2 ^ i = k at *
        have fin : ∀ σ2 r2 o, Ext σ σ2 → σ.length ≤ r2 → σ2[r2]? = some (some o) → m + 1 ≤ o.length → o.take (m + 1) = hr (hs.take m ++ [h']) → DownV σ.length (.agg [.int .i64 ((n + k0 : Nat) : Int), .sl r2 0 (m + 1) none 32]) σ2 (.agg [.int .i64 ((n + k0 : Nat) : Int), .vsl 32 (hr (hs.take m ++ [h'])) false]) σ := fun σ2 r2 o e hr2 hg ho1 ho2 => by
          obtain ⟨news, rfl⟩ := e
          have hl3 : (hr (hs.take m ++ [h'])).length = m + 1 := by simp [hr_len]; omega
          have := FrzD.sl (τ := σ) (news := news) (r := r2) (off := 0) (lim := none) (esz := 32) (o := o) (es := hr (hs.take m ++ [h'])) hr2 hg (by omega) (by rw [hl3, List.drop_zero]; exact ho2) (rlss_hr _)
          rw [hl3] at this
          exact DownV.all hw (drA (drsc (FrzD.same (by simp [RL])) (drs1 this)))
        by_cases hfull : m < hs.length
        · repeat' (first | refine SWp.seq ?_ | refine SWp.block ?_ | refine SWp.scope ?_ | refine SWp.condT rfl ?_ | refine SWp.condF rfl ?_ | (refine SWp.condD rfl (fun ht => ?_) (fun ht => ?_) <;> try (exfalso; omega)) | ((first | refine SWp.reg ?_ | refine SWp.skip ?_ | refine SWp.exit ?_ | refine SWp.ret ?_ | ((first | apply splitG | apply splitGB | apply splitR | apply splitRB | apply splitE | apply splitEB | apply splitC | apply splitCB) <;> intro ht)); all_goals try simp (disch := first | omega | (simp only [lens]; first | done | omega)) only [go_sem, Nat.reduceEqDiff, Nat.reduceBEq, Nat.reduceAdd, Nat.reduceMul, Nat.reduceSub, Nat.reduceLeDiff, Int.reduceToNat, Int.reducePow, q1, q3, q5, q6, q7, q8, c0, c1, c2, cr, hand, hadd]))
          refine fin _ r _ ((ce.set (by omega)).set (by omega)) (by omega) (by rw [gset_ne (by omega), gset_eq dr]) (by simp [hr_len]; omega) ?_
          rw [show hr (hs.take m) ++ hc h' :: hr (hs.drop (m + 1)) = hr ((hs.take m ++ [h']) ++ hs.drop (m + 1)) by simp [hr], hr_take, List.take_left' (by simp; omega)]
        · have hm' : hs.take m = hs := List.take_of_length_le (by omega)
          rw [hm'] at fin
          repeat' (first | refine SWp.seq ?_ | refine SWp.block ?_ | refine SWp.scope ?_ | refine SWp.condT rfl ?_ | refine SWp.condF rfl ?_ | (refine SWp.condD rfl (fun ht => ?_) (fun ht => ?_) <;> try (exfalso; omega)) | ((first | refine SWp.reg ?_ | refine SWp.skip ?_ | refine SWp.exit ?_ | refine SWp.ret ?_ | ((first | apply splitG | apply splitGB | apply splitR | apply splitRB | apply splitE | apply splitEB | apply splitC | apply splitCB) <;> intro ht)); all_goals try simp (disch := first | omega | (simp only [lens]; first | done | omega)) only [go_sem, Nat.reduceEqDiff, Nat.reduceBEq, Nat.reduceAdd, Nat.reduceMul, Nat.reduceSub, Nat.reduceLeDiff, Int.reduceToNat, Int.reducePow, q1, q3, q5, q6, q7, q8, c0, c1, c2, cr, hand, hadd]))
          refine fin _ _ _ ((ce.set (by omega)).set (by omega)).app (by omega) (by rw [gappr (by simp), List.length_set, List.length_set, Nat.sub_self]; rfl) (by simp [hr_len]; omega) ?_
          rw [show hr hs ++ [hc h'] = hr (hs ++ [h']) by simp [hr], hr_take, List.take_of_length_le (by simp; omega)]
end Am
end Go.Proofs.YthgcooppjhcgcaaDoor
end
section
set_option linter.unusedSimpArgs false
set_option linter.unusedVariables false
/- Ranges: contracts: Extend, Append, Of. -/
set_option linter.unusedSimpArgs false
set_option linter.unusedVariables false
namespace Go.Proofs.YthgcooppjhcgcaaDoor
namespace Am
/-- Nil if it was nil. -/
def knil (es : List (List AV)) : AV → AV
  | .nilsl => .nilsl
  | _ => .vsl 32 es false
theorem knil_ne {es : List (List AV)} {x : AV} (h : x ≠ .nilsl) : knil es x = .vsl 32 es false := by
  cases x <;> first | rfl | exact absurd rfl h
theorem knil_slv {σ : Store} {l : List Hash} {x : AV} (h : RdSl σ 32 (hr l) x) : SlV 32 (hr l) (knil (hr l) x) := by
  rcases h with (⟨rfl, h⟩ | ⟨ex, rfl⟩) | ⟨r, off, lim, o, rfl, _⟩
  · exact .inl ⟨rfl, h⟩
  · exact .inr ⟨false, rfl⟩
  · exact .inr ⟨false, rfl⟩
theorem rl_knil {k : Nat} (l : List Hash) (x : AV) : RL k (knil (hr l) x) := by
  by_cases h : x = .nilsl
  · subst h; simp [knil, RL]
  · rw [knil_ne h]; simp only [RL]; exact rlss_hr _
theorem Clone_v (σ : Store) (l : List Hash) (x : AV) (hx : RdSl σ 32 (hr l) x) (hl : l.length < 1000000) :
    ACallsTo TC 82 [x] σ (knil (hr l) x) σ := by
  refine ACallsP.toDown (Clone_h σ l x hx hl) fun hw v σ' h => ?_
  obtain ⟨h, hn⟩ := h
  obtain ⟨y, rfl⟩ := h.ext
  refine DownV.all hw ?_
  by_cases h0 : x = .nilsl
  · rw [hn.1 h0, h0]; simp [knil, DR]
  · have hv : v ≠ .nilsl := fun e => h0 (hn.2 e)
    rw [knil_ne h0]
    rcases h with h | ⟨h1, rfl, _⟩
    · have h2 := h.frz (rlss_hr l)
      unfold slVal at h2
      split at h2
      · simp only [DR] at h2; exact absurd h2 hv
      · exact h2
    · rw [h1]
      simp only [DR]
      exact .inl ⟨_, _, rfl, by simp, by simp [DRss]⟩
theorem Ext.pure {σ σ' : Store} {v : AV} (hw : Wf σ.length σ) (h : Ext σ σ') (hv : RL σ.length v) : DownV σ.length v σ' v σ := by
  obtain ⟨n, rfl⟩ := h
  exact DownV.pure hw hv
/-- The hashes of a range that was gone on with: nil if it was nil, and nothing came. -/
def zv (x : AV) (first : Bool) (l : List Hash) : AV := if first then knil (hr l) x else .vsl 32 (hr l) false
theorem zv_slv {σ : Store} {x : AV} {first : Bool} {l : List Hash} (h : first = true → RdSl σ 32 (hr l) x) : SlV 32 (hr l) (zv x first l) := by
  unfold zv
  cases first with
  | true => exact knil_slv (h rfl)
  | false => exact .inr ⟨false, rfl⟩
theorem rl_zv {k : Nat} (x : AV) (first : Bool) (l : List Hash) : RL k (zv x first l) := by
  unfold zv
  cases first with
  | true => exact rl_knil _ _
  | false => simp only [Bool.false_eq_true, if_false, RL]; exact rlss_hr _
theorem zv_cells (x : AV) (first : Bool) (l : List Hash) : cellsOf (zv x first l) = some [zv x first l] := by
  unfold zv
  cases first with
  | true =>
    by_cases h : x = .nilsl
    · subst h; rfl
    · simp only [if_true]; rw [knil_ne h]; rfl
  | false => rfl
def rg (n : Int) (z : AV) (e : Int) : AV := .tup [.agg [.int .i64 n, z], .int .i64 e]
theorem rl_rg {k : Nat} {n e : Int} {z : AV} (h : RL k z) : RL k (rg n z e) := by simp only [rg, RL, RLs]; exact ⟨⟨trivial, h, trivial⟩, trivial, trivial⟩
/-- What Extend answers. -/
def extA (n : Int) (hs l : List Hash) (x : AV) : AV :=
  if validR n hs.length = false then rg 0 .nilsl 2
  else if 4096 - n < l.length then rg 0 .nilsl 60
  else rg (n + l.length) (zv x l.isEmpty (extR n.toNat hs.reverse l).reverse) 0
theorem pc13 {n : Nat} (h : n ≤ 4096) : pc 64 n = pc 13 n := pc_more 13 n (by omega) 51
theorem push_one (σ : Store) (n : Nat) (x : AV) (hs : List Hash) (h : Hash) (hx : RdSl σ 32 (hr hs) x) (hn : n + 1 ≤ 4096) (hl : hs.length = pc 13 n) :
    ACallsTo TC 83 [.agg [.int .i64 n, x], .int .i64 1, .agg (hc h)] σ (.agg [.int .i64 ((n + 1 : Nat) : Int), .vsl 32 (hr (pushR n hs.reverse h).reverse) false]) σ := by
  have := push_to σ n 0 x hs h hx ⟨n, by simp⟩ hn hl
  simpa using this
attribute [local irreducible] ACallsTo ACallsP
set_option maxHeartbeats 8000000 in
theorem Extend_v (σ : Store) (n : Int) (hs l : List Hash) (x y : AV) (hx : RdSl σ 32 (hr hs) x) (hy : SlV 32 (hr l) y) (hn : -9223372036854775808 ≤ n ∧ n ≤ 9223372036854775807) (hhl : hs.length < 1000000) (hl : l.length < 1000000) :
    ACallsTo TC 16 [.agg [.int .i64 n, x], y] σ (extA n hs l x) σ := by
  have r1 := hy.len
  rw [hr_len] at r1
  unfold rLenSl at r1
  have hV := fun y => ranges_Valid_h (σ ++ y) n hs x hx.app
  unfold extA
  by_cases hv : validR n hs.length = true
  · rw [if_neg (by simp [hv])]
    rw [hv] at hV
    have hv' := of_decide_eq_true hv
    obtain ⟨n, rfl⟩ : ∃ k : Nat, n = k := ⟨n.toNat, by omega⟩
    rw [Int.toNat_natCast] at hv' ⊢
    have hhs : hs.length = pc 13 n := by rw [hv'.2.2, pc13 (by omega)]
    by_cases hf : 4096 - (n : Int) < l.length
    · rw [if_pos hf]
      refine ACallsTo.of_body ranges_Extend_ok (by simp) fun hw _ => ?_
      repeat' (first | refine SWp.seq ?_ | refine SWp.block ?_ | refine SWp.scope ?_ | refine SWp.condT rfl ?_ | refine SWp.condF rfl ?_ | (refine SWp.condD rfl (fun ht => ?_) (fun ht => ?_) <;> try (exfalso; omega)) | ((first | refine SWp.reg ?_ | refine SWp.skip ?_ | refine SWp.exit ?_ | refine SWp.ret ?_ | (apply callW.mk_pu; (first | exact (fun _ => hV _))) | (apply callW.any; (first | exact (hV _))) | ((first | apply splitG | apply splitGB | apply splitR | apply splitRB | apply splitE | apply splitEB | apply splitC | apply splitCB) <;> intro ht)); all_goals try simp (disch := first | omega | (simp only [lens]; first | done | omega)) only [go_sem, Nat.reduceEqDiff, Nat.reduceBEq, Nat.reduceAdd, Nat.reduceMul, Nat.reduceSub, Nat.reduceLeDiff, Int.reduceToNat, Int.reducePow, r1]))
      exact DownV.pure hw (rl_rg (by simp [RL]))
    · rw [if_neg hf]
      refine ACallsTo.of_body ranges_Extend_ok (by simp) fun hw _ => ?_
      have hCl := fun y => Clone_v (σ ++ y) hs x hx.app (by omega)
      have hk := knil_slv hx
      have e0 : knil (hr hs) x = zv x true (extR n hs.reverse (l.take 0)).reverse := by simp [zv, extR]
      rw [e0] at hCl
      have z0 := zv_cells x true (extR n hs.reverse (l.take 0)).reverse
      generalize hzz : zv x true (extR n hs.reverse (l.take 0)).reverse = z at *
      unfold cellsOf at z0
      repeat' (first | refine SWp.seq ?_ | refine SWp.block ?_ | refine SWp.scope ?_ | refine SWp.condT rfl ?_ | refine SWp.condF rfl ?_ | (refine SWp.condD rfl (fun ht => ?_) (fun ht => ?_) <;> try (exfalso; omega)) | ((first | refine SWp.reg ?_ | refine SWp.skip ?_ | refine SWp.exit ?_ | refine SWp.ret ?_ | (apply callW.mk_pu; (first | exact (fun _ => hV _) | exact (fun _ => hCl _))) | (apply callW.any; (first | exact (hV _) | exact (hCl _))) | ((first | apply splitG | apply splitGB | apply splitR | apply splitRB | apply splitE | apply splitEB | apply splitC | apply splitCB) <;> intro ht)); all_goals try simp (disch := first | omega | (simp only [lens]; first | done | omega)) only [go_sem, Nat.reduceEqDiff, Nat.reduceBEq, Nat.reduceAdd, Nat.reduceMul, Nat.reduceSub, Nat.reduceLeDiff, Int.reduceToNat, Int.reducePow, r1, z0]))
      refine SWp.loop (fun m ρ σ' => ∃ i : Nat, m + i = l.length ∧ Ext σ σ' ∧ σ'[σ.length]? = some (some [[.int .i64 ((n + i : Nat) : Int), zv x (decide (i = 0)) (extR n hs.reverse (l.take i)).reverse]]) ∧ σ'[σ.length + 1]? = some (some [[.int .i64 0, .nilsl]]) ∧
        ρ 2 = .ptr σ.length 0 0 ∧ ρ 4 = .ptr (σ.length + 1) 0 0 ∧ ρ 5 = .int .i64 0 ∧ ρ 25 = y ∧ ρ 26 = .int .i64 l.length ∧ ρ 27 = .int .i64 i) l.length ?_ ?_
      · refine ⟨0, by omega, ?_, ?_, ?_, by simp (disch := first | omega | (simp only [lens]; first | done | omega)) only [go_sem, Nat.reduceEqDiff, Nat.reduceBEq, Nat.reduceAdd, Nat.reduceMul, Nat.reduceSub, Nat.reduceLeDiff, Int.reduceToNat, Int.reducePow], by simp (disch := first | omega | (simp only [lens]; first | done | omega)) only [go_sem, Nat.reduceEqDiff, Nat.reduceBEq, Nat.reduceAdd, Nat.reduceMul, Nat.reduceSub, Nat.reduceLeDiff, Int.reduceToNat, Int.reducePow], by simp (disch := first | omega | (simp only [lens]; first | done | omega)) only [go_sem, Nat.reduceEqDiff, Nat.reduceBEq, Nat.reduceAdd, Nat.reduceMul, Nat.reduceSub, Nat.reduceLeDiff, Int.reduceToNat, Int.reducePow], by simp (disch := first | omega | (simp only [lens]; first | done | omega)) only [go_sem, Nat.reduceEqDiff, Nat.reduceBEq, Nat.reduceAdd, Nat.reduceMul, Nat.reduceSub, Nat.reduceLeDiff, Int.reduceToNat, Int.reducePow], by simp (disch := first | omega | (simp only [lens]; first | done | omega)) only [go_sem, Nat.reduceEqDiff, Nat.reduceBEq, Nat.reduceAdd, Nat.reduceMul, Nat.reduceSub, Nat.reduceLeDiff, Int.reduceToNat, Int.reducePow, r1], by simp (disch := first | omega | (simp only [lens]; first | done | omega)) only [go_sem, Nat.reduceEqDiff, Nat.reduceBEq, Nat.reduceAdd, Nat.reduceMul, Nat.reduceSub, Nat.reduceLeDiff, Int.reduceToNat, Int.reducePow]; rfl⟩
        · first | exact (Ext.refl σ).app | exact ⟨_, rfl⟩
        · rw [← hzz]; simp
        · simp
      · rintro m ρ σ' ⟨i, hm, he, c0, c1, q2, q4, q5, q25, q26, q27⟩
        have d0 := slen c0
        have d1 := slen c1
        by_cases hi : i < l.length
        · obtain ⟨ex, rfl⟩ := hy.vsl (by rw [hr_len]; omega)
          have hz : SlV 32 (hr (extR n hs.reverse (l.take i)).reverse) (zv x (decide (i = 0)) (extR n hs.reverse (l.take i)).reverse) := zv_slv fun h => by
            have : i = 0 := of_decide_eq_true h
            subst this
            simpa [extR] using hx
          have hlen : (extR n hs.reverse (l.take i)).reverse.length = pc 13 (n + i) := by
            rw [List.length_reverse, extR_len 13 n hs.reverse (l.take i) (by rw [List.length_take]; omega) (by rw [List.length_reverse]; exact hhs), List.length_take, Nat.min_eq_left (by omega)]
          have hP := fun σ => push_one σ (n + i) _ _ (hd l i) (.of hz) (by omega) hlen
          have hnext : pushR (n + i) (extR n hs.reverse (l.take i)) (hd l i) = extR n hs.reverse (l.take (i + 1)) := by
            rw [take_hd hi, extR_app, List.length_take, Nat.min_eq_left (by omega)]; rfl
          simp only [List.reverse_reverse, hnext] at hP
          clear hz hlen hnext
          generalize zv x (decide (i = 0)) (extR n hs.reverse (l.take i)).reverse = z at *
          repeat' (first | refine SWp.seq ?_ | refine SWp.block ?_ | refine SWp.scope ?_ | refine SWp.condT rfl ?_ | refine SWp.condF rfl ?_ | (refine SWp.condD rfl (fun ht => ?_) (fun ht => ?_) <;> try (exfalso; omega)) | ((first | refine SWp.reg ?_ | refine SWp.skip ?_ | refine SWp.exit ?_ | refine SWp.ret ?_ | (apply callW.mk_pu; (first | exact (fun _ => hP _))) | (apply callW.any; (first | exact (hP _))) | ((first | apply splitG | apply splitGB | apply splitR | apply splitRB | apply splitE | apply splitEB | apply splitC | apply splitCB) <;> intro ht)); all_goals try simp (disch := first | omega | (simp only [lens]; first | done | omega)) only [go_sem, Nat.reduceEqDiff, Nat.reduceBEq, Nat.reduceAdd, Nat.reduceMul, Nat.reduceSub, Nat.reduceLeDiff, Int.reduceToNat, Int.reducePow, q2, q4, q5, q25, q26, q27, c0, c1]))
          refine ⟨l.length - (i + 1), by omega, i + 1, by omega, ?_, ?_, ?_⟩
          · first | exact (he.app.set (by omega)) | exact (he.set (by omega)).app
          · simp [zv]; omega
          · simp
        · have hil : i = l.length := by omega
          subst hil
          rw [List.take_of_length_le (Nat.le_refl _)] at c0
          have e1 : decide (l.length = 0) = l.isEmpty := by cases l <;> simp
          rw [e1] at c0
          have hz := rl_zv (k := σ.length) x l.isEmpty (extR n hs.reverse l).reverse
          have hcast : (n : Int) + l.length = ((n + l.length : Nat) : Int) := by omega
          rw [hcast]
          generalize zv x l.isEmpty (extR n hs.reverse l).reverse = z at *
          repeat' (first | refine SWp.seq ?_ | refine SWp.block ?_ | refine SWp.scope ?_ | refine SWp.condT rfl ?_ | refine SWp.condF rfl ?_ | (refine SWp.condD rfl (fun ht => ?_) (fun ht => ?_) <;> try (exfalso; omega)) | ((first | refine SWp.reg ?_ | refine SWp.skip ?_ | refine SWp.exit ?_ | refine SWp.ret ?_ | ((first | apply splitG | apply splitGB | apply splitR | apply splitRB | apply splitE | apply splitEB | apply splitC | apply splitCB) <;> intro ht)); all_goals try simp (disch := first | omega | (simp only [lens]; first | done | omega)) only [go_sem, Nat.reduceEqDiff, Nat.reduceBEq, Nat.reduceAdd, Nat.reduceMul, Nat.reduceSub, Nat.reduceLeDiff, Int.reduceToNat, Int.reducePow, q2, q4, q5, q25, q26, q27, c0, c1]))
          exact Ext.pure hw (he.set (by omega)) (rl_rg hz)
  · have hv0 : validR n hs.length = false := by simpa using hv
    rw [if_pos hv0]
    rw [hv0] at hV
    refine ACallsTo.of_body ranges_Extend_ok (by simp) fun hw _ => ?_
    repeat' (first | refine SWp.seq ?_ | refine SWp.block ?_ | refine SWp.scope ?_ | refine SWp.condT rfl ?_ | refine SWp.condF rfl ?_ | (refine SWp.condD rfl (fun ht => ?_) (fun ht => ?_) <;> try (exfalso; omega)) | ((first | refine SWp.reg ?_ | refine SWp.skip ?_ | refine SWp.exit ?_ | refine SWp.ret ?_ | (apply callW.mk_pu; (first | exact (fun _ => hV _))) | (apply callW.any; (first | exact (hV _))) | ((first | apply splitG | apply splitGB | apply splitR | apply splitRB | apply splitE | apply splitEB | apply splitC | apply splitCB) <;> intro ht)); all_goals try simp (disch := first | omega | (simp only [lens]; first | done | omega)) only [go_sem, Nat.reduceEqDiff, Nat.reduceBEq, Nat.reduceAdd, Nat.reduceMul, Nat.reduceSub, Nat.reduceLeDiff, Int.reduceToNat, Int.reducePow, r1]))
    exact DownV.pure hw (rl_rg (by simp [RL]))
end Am
end Go.Proofs.YthgcooppjhcgcaaDoor
end
section
set_option linter.unusedSimpArgs false
set_option linter.unusedVariables false
/- Rows: numbers, trees. (The laws are printed by wip/rows.py.) -/
set_option linter.unusedSimpArgs false
set_option linter.unusedVariables false
namespace Go.Proofs.YthgcooppjhcgcaaDoor
namespace Am
def numsR : Nat → List AV := fun n => [.int .i64 n]
def nums (l : List (Nat)) : List (List AV) := l.map numsR
@[go_sem] theorem nums_len (l : List (Nat)) : (nums l).length = l.length := by simp [nums]
@[go_sem] theorem nums_take (l : List (Nat)) (n : Nat) : (nums l).take n = nums (l.take n) := by simp [nums, List.map_take]
@[go_sem] theorem nums_drop (l : List (Nat)) (n : Nat) : (nums l).drop n = nums (l.drop n) := by simp [nums, List.map_drop]
@[go_sem] theorem nums_set (l : List (Nat)) (i : Nat) (x : Nat) : (nums l).set i (numsR x) = nums (l.set i x) := by simp [nums, List.map_set]
def numsD (l : List (Nat)) (i : Nat) : Nat := l.getD i 0
@[go_sem] theorem nums_get {l : List (Nat)} {i : Nat} (h : i < l.length) : (nums l)[i]? = some (numsR (numsD l i)) := by
  simp [nums, numsD, List.getElem?_map, List.getElem?_eq_getElem h]
def trsR : Nat × Hash → List AV := fun t => .int .i64 t.1 :: hc t.2
def trs (l : List (Nat × Hash)) : List (List AV) := l.map trsR
@[go_sem] theorem trs_len (l : List (Nat × Hash)) : (trs l).length = l.length := by simp [trs]
@[go_sem] theorem trs_take (l : List (Nat × Hash)) (n : Nat) : (trs l).take n = trs (l.take n) := by simp [trs, List.map_take]
@[go_sem] theorem trs_drop (l : List (Nat × Hash)) (n : Nat) : (trs l).drop n = trs (l.drop n) := by simp [trs, List.map_drop]
@[go_sem] theorem trs_set (l : List (Nat × Hash)) (i : Nat) (x : Nat × Hash) : (trs l).set i (trsR x) = trs (l.set i x) := by simp [trs, List.map_set]
def trsD (l : List (Nat × Hash)) (i : Nat) : Nat × Hash := l.getD i (0, zeroH)
@[go_sem] theorem trs_get {l : List (Nat × Hash)} {i : Nat} (h : i < l.length) : (trs l)[i]? = some (trsR (trsD l i)) := by
  simp [trs, trsD, List.getElem?_map, List.getElem?_eq_getElem h]
/-- All that is new is let go; what is read of a slice stays. -/
theorem RdSl.frz {sz : Nat} {τ news : Store} {v : AV} {es : List (List AV)} (h : RdSl (τ ++ news) sz es v) (hn : ∀ r off len lim e, v = .sl r off len lim e → τ.length ≤ r) (hr : RLss τ.length es) : ∃ v2, SlV sz es v2 ∧ DR (FrzD τ news) v2 v := by
  rcases h with (⟨rfl, rfl⟩ | ⟨ex, rfl⟩) | ⟨r, off, lim, o, rfl, hg, h1, h2⟩
  · exact ⟨.nilsl, .inl ⟨rfl, rfl⟩, by simp [DR]⟩
  · exact ⟨.vsl sz es ex, .inr ⟨ex, rfl⟩, FrzD.same (by simpa only [RL] using hr)⟩
  · exact ⟨.vsl sz es false, .inr ⟨false, rfl⟩, FrzD.sl (hn _ _ _ _ _ rfl) hg h1 h2 hr⟩
theorem Ext.all {σ σ' : Store} {v v2 : AV} (hw : Wf σ.length σ) (he : Ext σ σ') (h : ∀ news, σ' = σ ++ news → DR (FrzD σ news) v2 v) : DownV σ.length v σ' v2 σ := by
  obtain ⟨news, rfl⟩ := he
  exact DownV.all hw (h news rfl)
/-- Own elements in memory, from the k-th object on. -/
def OwnR (sz k : Nat) (σ' : Store) (v : AV) (es : List (List AV)) : Prop := (es = [] ∧ v = .nilsl) ∨ ∃ r, k ≤ r ∧ es ≠ [] ∧ v = .sl r 0 es.length none sz ∧ σ'[r]? = some (some es)
theorem OwnR.nil {sz k : Nat} {σ' : Store} : OwnR sz k σ' .nilsl [] := .inl ⟨rfl, rfl⟩
theorem OwnR.cells {sz k : Nat} {σ' : Store} {v : AV} {es : List (List AV)} (h : OwnR sz k σ' v es) : cellsOf v = some [v] := by
  rcases h with ⟨_, rfl⟩ | ⟨r, _, _, rfl, _⟩ <;> rfl
theorem OwnR.rd {sz k : Nat} {σ' : Store} {v : AV} {es : List (List AV)} (h : OwnR sz k σ' v es) : RdSl σ' sz es v := by
  rcases h with ⟨h, rfl⟩ | ⟨r, _, _, rfl, hg⟩
  · exact .inl (.inl ⟨rfl, h⟩)
  · exact .inr ⟨r, 0, none, es, rfl, hg, by omega, by simp⟩
theorem OwnR.len {sz k : Nat} {σ' : Store} {v : AV} {es : List (List AV)} (h : OwnR sz k σ' v es) : rLenSl v = some (.int .i64 es.length) := h.rd.len
theorem OwnR.set {sz k q : Nat} {σ' : Store} {v : AV} {es : List (List AV)} {x : Option AObj} (h : OwnR sz k σ' v es) (hq : q < k) : OwnR sz k (σ'.set q x) v es := by
  rcases h with h | ⟨r, h1, h2, h3, h4⟩
  · exact .inl h
  · exact .inr ⟨r, h1, h2, h3, by rw [gset_ne (by omega)]; exact h4⟩
theorem OwnR.more {sz k : Nat} {σ' y : Store} {v : AV} {es : List (List AV)} (h : OwnR sz k σ' v es) : OwnR sz k (σ' ++ y) v es := by
  rcases h with h | ⟨r, h1, h2, h3, h4⟩
  · exact .inl h
  · exact .inr ⟨r, h1, h2, h3, by rw [gapp (slen h4)]; exact h4⟩
theorem OwnR.app {sz k : Nat} {σ' : Store} {v : AV} {es ys : List (List AV)} (h : OwnR sz k σ' v es) (hk : k ≤ σ'.length) (h0 : ys.length ≠ 0) (hl : es.length + ys.length ≤ 1073741824) :
    ∃ v' σ2, aApp σ' sz v ys = some (v', σ2) ∧ OwnR sz k σ2 v' (es ++ ys) ∧ (∀ q, q < k → σ2[q]? = σ'[q]?) ∧ (∀ σ : Store, σ.length ≤ k → Ext σ σ' → Ext σ σ2) ∧ k ≤ σ2.length := by
  have hne : es ++ ys ≠ [] := fun e => h0 (by rw [(List.append_eq_nil_iff.1 e).2]; rfl)
  rcases h with ⟨rfl, rfl⟩ | ⟨r, h1, h2, rfl, hg⟩
  · refine ⟨.sl σ'.length 0 ys.length none sz, σ' ++ [some ys], by rw [app_n, if_neg h0, if_pos (by simpa using hl)], .inr ⟨σ'.length, hk, hne, by simp, by simp⟩, fun q hq => gapp (by omega), fun σ _ he => he.app, by simp; omega⟩
  · have hr := slen hg
    refine ⟨.sl σ'.length 0 (es.length + ys.length) none sz, σ'.set r none ++ [some (es ++ ys)], ?_, .inr ⟨σ'.length, hk, hne, by simp, by rw [gappr (by simp)]; simp⟩, fun q hq => by rw [gapp (by simp; omega), gset_ne (by omega)], fun σ hs he => (he.set (by omega)).app, by simp; omega⟩
    rw [app_s, if_neg h0, hg]
    simp only
    rw [if_pos ⟨trivial, by omega, by omega⟩, if_neg (by omega), List.drop_zero, List.take_of_length_le (Nat.le_refl _)]
theorem OwnR.frz {sz k : Nat} {τ news : Store} {v : AV} {es : List (List AV)} (h : OwnR sz k (τ ++ news) v es) (hk : τ.length ≤ k) (hr : RLss τ.length es) : DR (FrzD τ news) (slVal sz es) v := by
  unfold slVal
  rcases h with ⟨rfl, rfl⟩ | ⟨r, h1, h2, rfl, hg⟩
  · simp [DR]
  · rw [if_neg h2]
    exact FrzD.sl (by omega) hg (by omega) (by simp) hr
end Am
end Go.Proofs.YthgcooppjhcgcaaDoor
end
section
set_option linter.unusedSimpArgs false
set_option linter.unusedVariables false
/- Ranges: contracts: the reference's open, join, close. -/
namespace Go.Proofs.YthgcooppjhcgcaaDoor
namespace Am
attribute [local irreducible] ACallsTo ACallsP
theorem pc_le : ∀ (f n : Nat), pc f n ≤ f
  | 0, _ => Nat.le_refl _
  | f + 1, n => by simp only [pc]; have := pc_le f (n / 2); omega
theorem OwnN.base {sz : Nat} {τ y σ' : Store} {v : AV} {es : List (List AV)} (h : OwnN sz (τ ++ y) σ' v es) : OwnN sz τ σ' v es := by
  obtain ⟨news, rfl, h⟩ := h
  refine ⟨y ++ news, by rw [List.append_assoc], ?_⟩
  rcases h with h | ⟨j, h0, rfl, hj⟩
  · exact .inl h
  · exact .inr ⟨y.length + j, h0, by rw [List.length_append]; congr 1; omega, by rw [List.getElem?_append_right (by omega), Nat.add_sub_cancel_left]; exact hj⟩
end Am
end Go.Proofs.YthgcooppjhcgcaaDoor
end
section
set_option linter.unusedSimpArgs false
set_option linter.unusedVariables false
/- Ranges: contracts: the reference's Extend. -/
namespace Go.Proofs.YthgcooppjhcgcaaDoor
namespace Am
attribute [local irreducible] ACallsTo ACallsP
theorem RdSl.rel {σ : Store} {sz : Nat} {es : List (List AV)} {x : AV} (h : RdSl σ sz es x) : srcElems σ sz x = some es := by
  rcases h with (⟨rfl, rfl⟩ | ⟨ex, rfl⟩) | ⟨r, off, lim, o, rfl, hg, h1, h2⟩
  · rfl
  · simp [srcElems]
  · simp [srcElems, slElems_sl, hg, h1, h2]
end Am
end Go.Proofs.YthgcooppjhcgcaaDoor
end
section
set_option linter.unusedSimpArgs false
set_option linter.unusedVariables false
/- Ranges: contracts: Of, Append, Same, the parts, Part. -/
namespace Go.Proofs.YthgcooppjhcgcaaDoor
namespace Am
attribute [local irreducible] ACallsTo ACallsP
theorem extA_sh (n : Int) (hs l : List Hash) (x : AV) : ∃ n' z e, extA n hs l x = .tup [.agg [.int .i64 n', z], .int .i64 e] ∧ (∀ k, RL k z) ∧ cellsOf z = some [z] := by
  unfold extA
  split
  · exact ⟨0, .nilsl, 2, rfl, fun k => by simp [RL], rfl⟩
  · split
    · exact ⟨0, .nilsl, 60, rfl, fun k => by simp [RL], rfl⟩
    · exact ⟨_, _, 0, rfl, fun k => rl_zv _ _ _, zv_cells _ _ _⟩
theorem Of_to (σ : Store) (l : List Hash) (y : AV) (hy : SlV 32 (hr l) y) (hl : l.length < 1000000) : ACallsTo TC 25 [y] σ (extA 0 [] l .nilsl) σ := by
  have hE := fun σ => Extend_v σ 0 [] l .nilsl y (.of (.inl ⟨rfl, rfl⟩)) hy (by omega) (by simp) hl
  obtain ⟨n', z, e, h, hz, hcz⟩ := extA_sh 0 [] l .nilsl
  rw [h] at hE ⊢
  unfold cellsOf at hcz
  refine ACallsTo.of_body ranges_Of_ok (by simp) fun hw _ => ?_
  repeat' (first | refine SWp.seq ?_ | refine SWp.block ?_ | refine SWp.scope ?_ | refine SWp.condT rfl ?_ | refine SWp.condF rfl ?_ | (refine SWp.condD rfl (fun ht => ?_) (fun ht => ?_) <;> try (exfalso; omega)) | ((first | refine SWp.reg ?_ | refine SWp.skip ?_ | refine SWp.exit ?_ | refine SWp.ret ?_ | (apply callW.mk_pu; (first | exact (fun _ => hE _))) | (apply callW.any; (first | exact (hE _))) | ((first | apply splitG | apply splitGB | apply splitR | apply splitRB | apply splitE | apply splitEB | apply splitC | apply splitCB) <;> intro ht)); all_goals try simp (disch := first | omega | (simp only [lens, hc_len, hr_len, trs_len, nums_len, List.length_reverse]; first | done | omega)) only [go_sem, Nat.reduceEqDiff, Nat.reduceBEq, Nat.reduceAdd, Nat.reduceMul, Nat.reduceSub, Nat.reduceLeDiff, Int.reduceToNat, Int.reducePow, hcz]))
  exact DownV.pure hw (rl_rg (hz _))
theorem Append_to (σ : Store) (n : Int) (hs : List Hash) (x : AV) (h : Hash) (hx : RdSl σ 32 (hr hs) x) (hn : -9223372036854775808 ≤ n ∧ n ≤ 9223372036854775807) (hhl : hs.length < 1000000) :
    ACallsTo TC 26 [.agg [.int .i64 n, x], .agg (hc h)] σ (extA n hs [h] x) σ := by
  have hE := fun y => Extend_v (σ ++ y) n hs [h] x (.vsl 32 [hc h] true) hx.app (.inr ⟨true, rfl⟩) hn hhl (by simp)
  obtain ⟨n', z, e, h', hz, hcz⟩ := extA_sh n hs [h] x
  rw [h'] at hE ⊢
  unfold cellsOf at hcz
  refine ACallsTo.of_body ranges_Append_ok (by simp) fun hw _ => ?_
  repeat' (first | refine SWp.seq ?_ | refine SWp.block ?_ | refine SWp.scope ?_ | refine SWp.condT rfl ?_ | refine SWp.condF rfl ?_ | (refine SWp.condD rfl (fun ht => ?_) (fun ht => ?_) <;> try (exfalso; omega)) | ((first | refine SWp.reg ?_ | refine SWp.skip ?_ | refine SWp.exit ?_ | refine SWp.ret ?_ | (apply callW.mk_pu; (first | exact (fun _ => hE _))) | (apply callW.any; (first | exact (hE _))) | ((first | apply splitG | apply splitGB | apply splitR | apply splitRB | apply splitE | apply splitEB | apply splitC | apply splitCB) <;> intro ht)); all_goals try simp (disch := first | omega | (simp only [lens, hc_len, hr_len, trs_len, nums_len, List.length_reverse]; first | done | omega)) only [go_sem, Nat.reduceEqDiff, Nat.reduceBEq, Nat.reduceAdd, Nat.reduceMul, Nat.reduceSub, Nat.reduceLeDiff, Int.reduceToNat, Int.reducePow, hcz]))
  exact DownV.pure hw (rl_rg (hz _))
theorem rangesSame_to (σ : Store) (n m : Int) (A B : List Hash) (x y : AV) (hx : RdSl σ 32 (hr A) x) (hy : RdSl σ 32 (hr B) y) (hl : A.length < 1000000) (hl2 : B.length < 1000000) :
    ACallsTo TC 28 [.agg [.int .i64 n, x], .agg [.int .i64 m, y]] σ (.bool (decide (n = m ∧ A = B))) σ := by
  have hE := fun z => Equal_h (σ ++ z) A B x y hx.app hy.app (by omega) (by omega)
  refine ACallsTo.of_body ranges_Same_ok (by simp) fun hw _ => ?_
  by_cases h : n = m
  · by_cases h2 : A = B
    · rw [decide_eq_true h2] at hE
      rw [decide_eq_true ⟨h, h2⟩]
      repeat' (first | refine SWp.seq ?_ | refine SWp.block ?_ | refine SWp.scope ?_ | refine SWp.condT rfl ?_ | refine SWp.condF rfl ?_ | (refine SWp.condD rfl (fun ht => ?_) (fun ht => ?_) <;> try (exfalso; omega)) | ((first | refine SWp.reg ?_ | refine SWp.skip ?_ | refine SWp.exit ?_ | refine SWp.ret ?_ | (apply callW.mk_pu; (first | exact (fun _ => hE _))) | (apply callW.any; (first | exact (hE _))) | ((first | apply splitG | apply splitGB | apply splitR | apply splitRB | apply splitE | apply splitEB | apply splitC | apply splitCB) <;> intro ht)); all_goals try simp (disch := first | omega | (simp only [lens, hc_len, hr_len, trs_len, nums_len, List.length_reverse]; first | done | omega)) only [go_sem, Nat.reduceEqDiff, Nat.reduceBEq, Nat.reduceAdd, Nat.reduceMul, Nat.reduceSub, Nat.reduceLeDiff, Int.reduceToNat, Int.reducePow, h]))
      exact DownV.pure hw (rlB_ok _ rfl)
    · rw [decide_eq_false h2] at hE
      rw [decide_eq_false (fun e => h2 e.2)]
      repeat' (first | refine SWp.seq ?_ | refine SWp.block ?_ | refine SWp.scope ?_ | refine SWp.condT rfl ?_ | refine SWp.condF rfl ?_ | (refine SWp.condD rfl (fun ht => ?_) (fun ht => ?_) <;> try (exfalso; omega)) | ((first | refine SWp.reg ?_ | refine SWp.skip ?_ | refine SWp.exit ?_ | refine SWp.ret ?_ | (apply callW.mk_pu; (first | exact (fun _ => hE _))) | (apply callW.any; (first | exact (hE _))) | ((first | apply splitG | apply splitGB | apply splitR | apply splitRB | apply splitE | apply splitEB | apply splitC | apply splitCB) <;> intro ht)); all_goals try simp (disch := first | omega | (simp only [lens, hc_len, hr_len, trs_len, nums_len, List.length_reverse]; first | done | omega)) only [go_sem, Nat.reduceEqDiff, Nat.reduceBEq, Nat.reduceAdd, Nat.reduceMul, Nat.reduceSub, Nat.reduceLeDiff, Int.reduceToNat, Int.reducePow, h]))
      exact DownV.pure hw (rlB_ok _ rfl)
  · rw [decide_eq_false (fun e => h e.1)]
    repeat' (first | refine SWp.seq ?_ | refine SWp.block ?_ | refine SWp.scope ?_ | refine SWp.condT rfl ?_ | refine SWp.condF rfl ?_ | (refine SWp.condD rfl (fun ht => ?_) (fun ht => ?_) <;> try (exfalso; omega)) | ((first | refine SWp.reg ?_ | refine SWp.skip ?_ | refine SWp.exit ?_ | refine SWp.ret ?_ | ((first | apply splitG | apply splitGB | apply splitR | apply splitRB | apply splitE | apply splitEB | apply splitC | apply splitCB) <;> intro ht)); all_goals try simp (disch := first | omega | (simp only [lens, hc_len, hr_len, trs_len, nums_len, List.length_reverse]; first | done | omega)) only [go_sem, Nat.reduceEqDiff, Nat.reduceBEq, Nat.reduceAdd, Nat.reduceMul, Nat.reduceSub, Nat.reduceLeDiff, Int.reduceToNat, Int.reducePow, h]))
    exact DownV.pure hw (rlB_ok _ rfl)
/-- The parts. -/
def partE (n : Int) (len : Nat) : Int := if n < 0 ∨ 4096 < n ∨ 4096 < n + len then 2 else 0
def partL (n : Int) (l : List Hash) : List Hash := if partE n l.length = 0 then rootsL (partsS n.toNat l.length) l else []
end Am
end Go.Proofs.YthgcooppjhcgcaaDoor
end
section
set_option linter.unusedSimpArgs false
set_option linter.unusedVariables false
/- Ranges: contracts: Part. -/
namespace Go.Proofs.YthgcooppjhcgcaaDoor
namespace Am
attribute [local irreducible] ACallsTo ACallsP
theorem partL_bad {n : Int} {l : List Hash} (h : n < 0 ∨ 4096 < n ∨ 4096 < n + l.length) : partE n l.length = 2 ∧ partL n l = [] := by
  have : partE n l.length = 2 := by unfold partE; rw [if_pos h]
  refine ⟨this, ?_⟩
  unfold partL; rw [this]; rfl
theorem partL_ok {n : Nat} {l : List Hash} (h : n + l.length ≤ 4096) : partE n l.length = 0 ∧ partL n l = rootsL (partsS n l.length) l := by
  have : partE n l.length = 0 := by unfold partE; rw [if_neg (by omega)]
  refine ⟨this, ?_⟩
  unfold partL; rw [this]; rfl
set_option maxHeartbeats 8000000 in
theorem Part_to (σ : Store) (n : Int) (l : List Hash) (y : AV) (hy : SlV 32 (hr l) y) (hn : -9223372036854775808 ≤ n ∧ n ≤ 9223372036854775807) (hl : l.length < 1000000) :
    ACallsTo TC 27 [.int .i64 n, y] σ (.tup [slVal 32 (hr (partL n l)), .int .i64 (partE n l.length)]) σ := by
  have r1 := hy.len
  rw [hr_len] at r1
  unfold rLenSl at r1
  by_cases hb : n < 0 ∨ 4096 < n ∨ 4096 < n + l.length
  · obtain ⟨e1, e2⟩ := partL_bad (n := n) (l := l) hb
    rw [e1, e2, show slVal 32 (hr []) = .nilsl from rfl]
    refine ACallsTo.of_body ranges_Part_ok (by simp) fun hw _ => ?_
    repeat' (first | refine SWp.seq ?_ | refine SWp.block ?_ | refine SWp.scope ?_ | refine SWp.condT rfl ?_ | refine SWp.condF rfl ?_ | (refine SWp.condD rfl (fun ht => ?_) (fun ht => ?_) <;> try (exfalso; omega)) | ((first | refine SWp.reg ?_ | refine SWp.skip ?_ | refine SWp.exit ?_ | refine SWp.ret ?_ | ((first | apply splitG | apply splitGB | apply splitR | apply splitRB | apply splitE | apply splitEB | apply splitC | apply splitCB) <;> intro ht)); all_goals try simp (disch := first | omega | (simp only [lens, hc_len, hr_len, trs_len, nums_len, List.length_reverse]; first | done | omega)) only [go_sem, Nat.reduceEqDiff, Nat.reduceBEq, Nat.reduceAdd, Nat.reduceMul, Nat.reduceSub, Nat.reduceLeDiff, Int.reduceToNat, Int.reducePow, r1]))
    all_goals exact DownV.same hw (rlB_ok _ rfl)
  · obtain ⟨n, rfl⟩ : ∃ k : Nat, n = k := ⟨n.toNat, by omega⟩
    obtain ⟨e1, e2⟩ := partL_ok (n := n) (l := l) (by omega)
    rw [e1, e2]
    have hadd : (n : Int) + l.length = ((n + l.length : Nat) : Int) := by omega
    refine ACallsTo.of_body ranges_Part_ok (by simp) fun hw _ => ?_
    repeat' (first | refine SWp.seq ?_ | refine SWp.block ?_ | refine SWp.scope ?_ | refine SWp.condT rfl ?_ | refine SWp.condF rfl ?_ | (refine SWp.condD rfl (fun ht => ?_) (fun ht => ?_) <;> try (exfalso; omega)) | ((first | refine SWp.reg ?_ | refine SWp.skip ?_ | refine SWp.exit ?_ | refine SWp.ret ?_ | ((first | apply splitG | apply splitGB | apply splitR | apply splitRB | apply splitE | apply splitEB | apply splitC | apply splitCB) <;> intro ht)); all_goals try simp (disch := first | omega | (simp only [lens, hc_len, hr_len, trs_len, nums_len, List.length_reverse]; first | done | omega)) only [go_sem, Nat.reduceEqDiff, Nat.reduceBEq, Nat.reduceAdd, Nat.reduceMul, Nat.reduceSub, Nat.reduceLeDiff, Int.reduceToNat, Int.reducePow, r1, hadd]))
    refine SWp.loop (fun m ρ σ' => ∃ (a : Nat) (done : List Hash) (y' : AV), m + a = l.length ∧ done ++ rootsL (partsS (n + a) (l.length - a)) (l.drop a) = rootsL (partsS n l.length) l ∧ done.length ≤ a ∧ OwnN 32 σ σ' (ρ 6) (hr done) ∧ SlV 32 (hr (l.drop a)) y' ∧
      ρ 0 = .int .i64 ((n + a : Nat) : Int) ∧ ρ 1 = y' ∧ ρ 7 = .int .i64 ((n + l.length : Nat) : Int)) l.length ?_ ?_
    · refine ⟨0, [], y, by omega, by simp, by simp, ?_, by simpa using hy, by simp (disch := first | omega | (simp only [lens, hc_len, hr_len, trs_len, nums_len, List.length_reverse]; first | done | omega)) only [go_sem, Nat.reduceEqDiff, Nat.reduceBEq, Nat.reduceAdd, Nat.reduceMul, Nat.reduceSub, Nat.reduceLeDiff, Int.reduceToNat, Int.reducePow], by simp (disch := first | omega | (simp only [lens, hc_len, hr_len, trs_len, nums_len, List.length_reverse]; first | done | omega)) only [go_sem, Nat.reduceEqDiff, Nat.reduceBEq, Nat.reduceAdd, Nat.reduceMul, Nat.reduceSub, Nat.reduceLeDiff, Int.reduceToNat, Int.reducePow], by simp (disch := first | omega | (simp only [lens, hc_len, hr_len, trs_len, nums_len, List.length_reverse]; first | done | omega)) only [go_sem, Nat.reduceEqDiff, Nat.reduceBEq, Nat.reduceAdd, Nat.reduceMul, Nat.reduceSub, Nat.reduceLeDiff, Int.reduceToNat, Int.reducePow]⟩
      simp (disch := first | omega | (simp only [lens, hc_len, hr_len, trs_len, nums_len, List.length_reverse]; first | done | omega)) only [go_sem, Nat.reduceEqDiff, Nat.reduceBEq, Nat.reduceAdd, Nat.reduceMul, Nat.reduceSub, Nat.reduceLeDiff, Int.reduceToNat, Int.reducePow]
      exact ⟨[], by simp, .inl ⟨rfl, rfl⟩⟩
    · rintro m ρ σ' ⟨a, done, y', hm, hp, hdl, hO, hy', q0, q1, q7⟩
      generalize q6 : ρ 6 = v at *
      by_cases hlt : a < l.length
      · obtain ⟨s1, s2⟩ := stepS_pos (n := n + a) (d := l.length - a) (by omega) (by omega)
        have hst := partsS_pos (n := n + a) (d := l.length - a) (by omega) (by omega)
        rw [hst] at hp
        have hS := fun σ => step_to σ (n + a) (l.length - a) (by omega) (by omega)
        rw [show n + a + (l.length - a) = n + l.length by omega] at hS
        obtain ⟨ex, rfl⟩ := hy'.vsl (by rw [hr_len, List.length_drop]; omega)
        have hdl2 : (l.drop a).length = l.length - a := List.length_drop
        generalize hkk : stepS (n + a) (l.length - a) = k at *
        have hR := fun σ b => trees_Root_h σ ((l.drop a).take k) (.vsl 32 (hr ((l.drop a).take k)) b) (.of (.inr ⟨b, rfl⟩)) (by rw [List.length_take]; omega)
        obtain ⟨v', σ2, he, hO2⟩ := hO.app (ys := [hc (rootH ((l.drop a).take k))]) (by simp) (by rw [hr_len]; simp; omega)
        have hcat : hr done ++ [hc (rootH ((l.drop a).take k))] = hr (done ++ [rootH ((l.drop a).take k)]) := by rw [hr_app]; rfl
        rw [hcat] at hO2
        have hdd : (l.drop a).drop k = l.drop (a + k) := by rw [List.drop_drop]
        have hak : ((n + a : Nat) : Int) + k = ((n + (a + k) : Nat) : Int) := by omega
        repeat' (first | refine SWp.seq ?_ | refine SWp.block ?_ | refine SWp.scope ?_ | refine SWp.condT rfl ?_ | refine SWp.condF rfl ?_ | (refine SWp.condD rfl (fun ht => ?_) (fun ht => ?_) <;> try (exfalso; omega)) | ((first | refine SWp.reg ?_ | refine SWp.skip ?_ | refine SWp.exit ?_ | refine SWp.ret ?_ | (apply callW.mk_pu; (first | exact (fun _ => hS _) | exact (fun _ => hR _ _))) | (apply callW.any; (first | exact (hS _) | exact (hR _ _))) | ((first | apply splitG | apply splitGB | apply splitR | apply splitRB | apply splitE | apply splitEB | apply splitC | apply splitCB) <;> intro ht)); all_goals try simp (disch := first | omega | (simp only [lens, hc_len, hr_len, trs_len, nums_len, List.length_reverse]; first | done | omega)) only [go_sem, Nat.reduceEqDiff, Nat.reduceBEq, Nat.reduceAdd, Nat.reduceMul, Nat.reduceSub, Nat.reduceLeDiff, Int.reduceToNat, Int.reducePow, q0, q1, q6, q7, hdl2, he, hak, hdd]))
        refine ⟨l.length - (a + k), by omega, a + k, done ++ [rootH ((l.drop a).take k)], _, by omega, ?_, by simp; omega, hO2, .inr ⟨_, rfl⟩, rfl, rfl⟩
        rw [← hp, List.append_assoc, show n + (a + k) = n + a + k by omega, show l.length - (a + k) = l.length - a - k by omega, ← hdd]
        rfl
      · have had : a = l.length := by omega
        subst had
        rw [Nat.sub_self, partsS_zero] at hp
        simp only [rootsL, List.append_nil] at hp
        rw [← hp]
        repeat' (first | refine SWp.seq ?_ | refine SWp.block ?_ | refine SWp.scope ?_ | refine SWp.condT rfl ?_ | refine SWp.condF rfl ?_ | (refine SWp.condD rfl (fun ht => ?_) (fun ht => ?_) <;> try (exfalso; omega)) | ((first | refine SWp.reg ?_ | refine SWp.skip ?_ | refine SWp.exit ?_ | refine SWp.ret ?_ | ((first | apply splitG | apply splitGB | apply splitR | apply splitRB | apply splitE | apply splitEB | apply splitC | apply splitCB) <;> intro ht)); all_goals try simp (disch := first | omega | (simp only [lens, hc_len, hr_len, trs_len, nums_len, List.length_reverse]; first | done | omega)) only [go_sem, Nat.reduceEqDiff, Nat.reduceBEq, Nat.reduceAdd, Nat.reduceMul, Nat.reduceSub, Nat.reduceLeDiff, Int.reduceToNat, Int.reducePow, q0, q1, q6, q7]))
        exact (hO.froze hw (rlss_hr _)).tup2
end Am
end Go.Proofs.YthgcooppjhcgcaaDoor
end
section
set_option linter.unusedSimpArgs false
set_option linter.unusedVariables false
/- Ranges: contracts: the reference's Of, the program's Merge. -/
namespace Go.Proofs.YthgcooppjhcgcaaDoor
namespace Am
attribute [local irreducible] ACallsTo ACallsP
/-- What Merge answers. -/
def mrgA (n size : Int) (hs p : List Hash) (x : AV) : AV :=
  if validR n hs.length = false ∨ size < n ∨ 4096 < size then rg 0 .nilsl 2
  else if (partsS n.toNat (size - n).toNat).length ≠ p.length then rg 0 .nilsl 2
  else rg size (zv x (decide (size = n)) (mergeL n.toNat hs.reverse (partsS n.toNat (size - n).toNat) p).reverse) 0
theorem rl_z {k : Nat} {l : List Hash} {z : AV} (h : SlV 32 (hr l) z) : RL k z := by
  rcases h with ⟨rfl, _⟩ | ⟨ex, rfl⟩
  · simp [RL]
  · simp only [RL]; exact rlss_hr _
theorem slv_cells {sz : Nat} {es : List (List AV)} {z : AV} (h : SlV sz es z) : cellsOf z = some [z] := by
  rcases h with ⟨rfl, _⟩ | ⟨ex, rfl⟩ <;> rfl
set_option maxHeartbeats 8000000 in
theorem Merge_v (σ : Store) (n size : Int) (hs p : List Hash) (x y : AV) (hx : RdSl σ 32 (hr hs) x) (hy : SlV 32 (hr p) y) (hn : -9223372036854775808 ≤ n ∧ n ≤ 9223372036854775807) (hsz : -9223372036854775808 ≤ size ∧ size ≤ 9223372036854775807) (hhl : hs.length < 1000000) (hpl : p.length < 1000000) :
    ACallsTo TC 23 [.agg [.int .i64 n, x], .int .i64 size, y] σ (mrgA n size hs p x) σ := by
  have r1 := hy.len
  rw [hr_len] at r1
  unfold rLenSl at r1
  have hV := fun y => ranges_Valid_h (σ ++ y) n hs x hx.app
  unfold mrgA
  by_cases hb : validR n hs.length = false ∨ size < n ∨ 4096 < size
  · rw [if_pos hb]
    refine ACallsTo.of_body ranges_Merge_ok (by simp) fun hw _ => ?_
    by_cases hv : validR n hs.length = true
    · rw [hv] at hV
      rcases hb with hb | hb | hb
      · rw [hv] at hb; cases hb
      · repeat' (first | refine SWp.seq ?_ | refine SWp.block ?_ | refine SWp.scope ?_ | refine SWp.condT rfl ?_ | refine SWp.condF rfl ?_ | (refine SWp.condD rfl (fun ht => ?_) (fun ht => ?_) <;> try (exfalso; omega)) | ((first | refine SWp.reg ?_ | refine SWp.skip ?_ | refine SWp.exit ?_ | refine SWp.ret ?_ | (apply callW.mk_pu; (first | exact (fun _ => hV _))) | (apply callW.any; (first | exact (hV _))) | ((first | apply splitG | apply splitGB | apply splitR | apply splitRB | apply splitE | apply splitEB | apply splitC | apply splitCB) <;> intro ht)); all_goals try simp (disch := first | omega | (simp only [lens, hc_len, hr_len, trs_len, nums_len, List.length_reverse]; first | done | omega)) only [go_sem, Nat.reduceEqDiff, Nat.reduceBEq, Nat.reduceAdd, Nat.reduceMul, Nat.reduceSub, Nat.reduceLeDiff, Int.reduceToNat, Int.reducePow, r1]))
        all_goals exact DownV.pure hw (rl_rg (by simp [RL]))
      · repeat' (first | refine SWp.seq ?_ | refine SWp.block ?_ | refine SWp.scope ?_ | refine SWp.condT rfl ?_ | refine SWp.condF rfl ?_ | (refine SWp.condD rfl (fun ht => ?_) (fun ht => ?_) <;> try (exfalso; omega)) | ((first | refine SWp.reg ?_ | refine SWp.skip ?_ | refine SWp.exit ?_ | refine SWp.ret ?_ | (apply callW.mk_pu; (first | exact (fun _ => hV _))) | (apply callW.any; (first | exact (hV _))) | ((first | apply splitG | apply splitGB | apply splitR | apply splitRB | apply splitE | apply splitEB | apply splitC | apply splitCB) <;> intro ht)); all_goals try simp (disch := first | omega | (simp only [lens, hc_len, hr_len, trs_len, nums_len, List.length_reverse]; first | done | omega)) only [go_sem, Nat.reduceEqDiff, Nat.reduceBEq, Nat.reduceAdd, Nat.reduceMul, Nat.reduceSub, Nat.reduceLeDiff, Int.reduceToNat, Int.reducePow, r1]))
        all_goals exact DownV.pure hw (rl_rg (by simp [RL]))
    · have hv0 : validR n hs.length = false := by simpa using hv
      rw [hv0] at hV
      repeat' (first | refine SWp.seq ?_ | refine SWp.block ?_ | refine SWp.scope ?_ | refine SWp.condT rfl ?_ | refine SWp.condF rfl ?_ | (refine SWp.condD rfl (fun ht => ?_) (fun ht => ?_) <;> try (exfalso; omega)) | ((first | refine SWp.reg ?_ | refine SWp.skip ?_ | refine SWp.exit ?_ | refine SWp.ret ?_ | (apply callW.mk_pu; (first | exact (fun _ => hV _))) | (apply callW.any; (first | exact (hV _))) | ((first | apply splitG | apply splitGB | apply splitR | apply splitRB | apply splitE | apply splitEB | apply splitC | apply splitCB) <;> intro ht)); all_goals try simp (disch := first | omega | (simp only [lens, hc_len, hr_len, trs_len, nums_len, List.length_reverse]; first | done | omega)) only [go_sem, Nat.reduceEqDiff, Nat.reduceBEq, Nat.reduceAdd, Nat.reduceMul, Nat.reduceSub, Nat.reduceLeDiff, Int.reduceToNat, Int.reducePow, r1]))
      all_goals exact DownV.pure hw (rl_rg (by simp [RL]))
  · rw [if_neg hb]
    have hv : validR n hs.length = true := by
      cases h : validR n hs.length
      · exact absurd (.inl h) hb
      · rfl
    rw [hv] at hV
    have hv' := of_decide_eq_true hv
    obtain ⟨n, rfl⟩ : ∃ k : Nat, n = k := ⟨n.toNat, by omega⟩
    obtain ⟨d, rfl⟩ : ∃ d : Nat, size = ((n + d : Nat) : Int) := ⟨(size - n).toNat, by omega⟩
    have hnd : n + d ≤ 4096 := by omega
    have hhs : hs.length = pc 13 n := by rw [hv'.2.2, Int.toNat_natCast, pc13 (by omega)]
    rw [Int.toNat_natCast, show (((n + d : Nat) : Int) - (n : Int)).toNat = d by omega]
    have hdz : decide (((n + d : Nat) : Int) = (n : Int)) = decide (d = 0) := by
      rw [Bool.eq_iff_iff]; simp only [decide_eq_true_eq]; omega
    rw [hdz]
    have hCl := fun y => Clone_v (σ ++ y) hs x hx.app (by omega)
    have hz0 := knil_slv hx
    have zc := slv_cells hz0
    refine ACallsTo.of_body ranges_Merge_ok (by simp) fun hw _ => ?_
    have e0 : knil (hr hs) x = zv x true hs := rfl
    rw [e0] at hCl hz0 zc
    generalize hzz : zv x true hs = z0 at *
    unfold cellsOf at zc
    repeat' (first | refine SWp.seq ?_ | refine SWp.block ?_ | refine SWp.scope ?_ | refine SWp.condT rfl ?_ | refine SWp.condF rfl ?_ | (refine SWp.condD rfl (fun ht => ?_) (fun ht => ?_) <;> try (exfalso; omega)) | ((first | refine SWp.reg ?_ | refine SWp.skip ?_ | refine SWp.exit ?_ | refine SWp.ret ?_ | (apply callW.mk_pu; (first | exact (fun _ => hV _) | exact (fun _ => hCl _))) | (apply callW.any; (first | exact (hV _) | exact (hCl _))) | ((first | apply splitG | apply splitGB | apply splitR | apply splitRB | apply splitE | apply splitEB | apply splitC | apply splitCB) <;> intro ht)); all_goals try simp (disch := first | omega | (simp only [lens, hc_len, hr_len, trs_len, nums_len, List.length_reverse]; first | done | omega)) only [go_sem, Nat.reduceEqDiff, Nat.reduceBEq, Nat.reduceAdd, Nat.reduceMul, Nat.reduceSub, Nat.reduceLeDiff, Int.reduceToNat, Int.reducePow, r1, zc]))
    refine SWp.loop (fun m ρ σ' => ∃ (a i : Nat) (rs : List Hash) (y' z : AV) (pre : List Nat), m + a = d ∧ pre ++ partsS (n + a) (d - a) = partsS n d ∧ pre.length = i ∧ i ≤ p.length ∧ mergeL (n + a) rs (partsS (n + a) (d - a)) (p.drop i) = mergeL n hs.reverse (partsS n d) p ∧
      rs.length = pc 13 (n + a) ∧ z = zv x (decide (a = 0)) rs.reverse ∧ SlV 32 (hr rs.reverse) z ∧ SlV 32 (hr (p.drop i)) y' ∧
      σ'[σ.length]? = some (some [[.int .i64 ((n + a : Nat) : Int), z]]) ∧ σ'[σ.length + 1]? = some (some [[.int .i64 0, .nilsl]]) ∧ Ext σ σ' ∧
      ρ 1 = .int .i64 ((n + d : Nat) : Int) ∧ ρ 2 = y' ∧ ρ 3 = .ptr σ.length 0 0 ∧ ρ 6 = .ptr (σ.length + 1) 0 0) d ?_ ?_
    · exact ⟨0, 0, hs.reverse, y, z0, [], by omega, by simp, rfl, by omega, by simp, by rw [List.length_reverse]; exact hhs, by rw [List.reverse_reverse, ← hzz]; rfl, by rw [List.reverse_reverse]; exact hz0, by simpa using hy, by simp, by simp, by first | exact (Ext.refl σ).app | exact ((Ext.refl σ).app.set (by simp)), by simp (disch := first | omega | (simp only [lens, hc_len, hr_len, trs_len, nums_len, List.length_reverse]; first | done | omega)) only [go_sem, Nat.reduceEqDiff, Nat.reduceBEq, Nat.reduceAdd, Nat.reduceMul, Nat.reduceSub, Nat.reduceLeDiff, Int.reduceToNat, Int.reducePow], by simp (disch := first | omega | (simp only [lens, hc_len, hr_len, trs_len, nums_len, List.length_reverse]; first | done | omega)) only [go_sem, Nat.reduceEqDiff, Nat.reduceBEq, Nat.reduceAdd, Nat.reduceMul, Nat.reduceSub, Nat.reduceLeDiff, Int.reduceToNat, Int.reducePow], by simp (disch := first | omega | (simp only [lens, hc_len, hr_len, trs_len, nums_len, List.length_reverse]; first | done | omega)) only [go_sem, Nat.reduceEqDiff, Nat.reduceBEq, Nat.reduceAdd, Nat.reduceMul, Nat.reduceSub, Nat.reduceLeDiff, Int.reduceToNat, Int.reducePow], by simp (disch := first | omega | (simp only [lens, hc_len, hr_len, trs_len, nums_len, List.length_reverse]; first | done | omega)) only [go_sem, Nat.reduceEqDiff, Nat.reduceBEq, Nat.reduceAdd, Nat.reduceMul, Nat.reduceSub, Nat.reduceLeDiff, Int.reduceToNat, Int.reducePow]⟩
    · rintro m ρ σ' ⟨a, i, rs, y', z, pre, hm, hparts, hpi, hip, hmrg, hrl, hz, hzs, hys, c0, c1, he, q1, q2, q3, q6⟩
      have d0 := slen c0
      have d1 := slen c1
      have r2 := hys.len
      rw [hr_len, List.length_drop] at r2
      unfold rLenSl at r2
      have zc2 := slv_cells hzs
      unfold cellsOf at zc2
      by_cases hlt : a < d
      · obtain ⟨s1, s2⟩ := stepS_pos (n := n + a) (d := d - a) (by omega) (by omega)
        have hst := partsS_pos (n := n + a) (d := d - a) (by omega) (by omega)
        by_cases hp0 : p.length - i = 0
        · have hlen : (partsS n d).length ≠ p.length := by
            rw [← hparts, hst, List.length_append, List.length_cons]; omega
          rw [if_pos hlen]
          have hp0' : ((p.length - i : Nat) : Int) = 0 := by omega
          repeat' (first | refine SWp.seq ?_ | refine SWp.block ?_ | refine SWp.scope ?_ | refine SWp.condT rfl ?_ | refine SWp.condF rfl ?_ | (refine SWp.condD rfl (fun ht => ?_) (fun ht => ?_) <;> try (exfalso; omega)) | ((first | refine SWp.reg ?_ | refine SWp.skip ?_ | refine SWp.exit ?_ | refine SWp.ret ?_ | ((first | apply splitG | apply splitGB | apply splitR | apply splitRB | apply splitE | apply splitEB | apply splitC | apply splitCB) <;> intro ht)); all_goals try simp (disch := first | omega | (simp only [lens, hc_len, hr_len, trs_len, nums_len, List.length_reverse]; first | done | omega)) only [go_sem, Nat.reduceEqDiff, Nat.reduceBEq, Nat.reduceAdd, Nat.reduceMul, Nat.reduceSub, Nat.reduceLeDiff, Int.reduceToNat, Int.reducePow, q1, q2, q3, q6, c0, c1, r2, hp0']))
          exact Ext.pure hw (he.set (by omega)) (rl_rg (by simp [RL]))
        · obtain ⟨t, ek, _, hdv, _⟩ := stepS_is (n := n + a) (d := d - a) (by omega) (by omega)
          obtain ⟨ex, rfl⟩ := hys.vsl (by rw [hr_len, List.length_drop]; omega)
          have hS := fun σ => step_to σ (n + a) (d - a) (by omega) (by omega)
          rw [show n + a + (d - a) = n + d by omega] at hS
          have hP := fun σ => push_to σ (n + a) t z rs.reverse (hd (p.drop i) 0) (.of hzs) hdv (by omega) (by rw [List.length_reverse]; exact hrl)
          rw [← ek, List.reverse_reverse] at hP
          have hmrg' := hmrg
          rw [hst] at hmrg'
          simp only [mergeL, List.drop_drop] at hmrg'
          have hrl' : (pushR ((n + a) / stepS (n + a) (d - a)) rs (hd (p.drop i) 0)).length = pc 13 (n + (a + stepS (n + a) (d - a))) := by
            have h1 := partsS_pos (n := n + a) (d := stepS (n + a) (d - a)) (by omega) s1
            have := merge_len (stepS (n + a) (d - a)) (n + a) (stepS (n + a) (d - a)) rs (p.drop i) (Nat.le_refl _) (by omega) hrl
            have e1 : stepS (n + a) (stepS (n + a) (d - a)) = stepS (n + a) (d - a) := StepIs.uniq (stepS_is (by omega) s1) ⟨t, ek, by omega, hdv, fun hh => by have := Nat.pow_succ (n := 2) (m := t); omega⟩
            rw [h1, e1, Nat.sub_self, partsS_zero] at this
            simp only [mergeL] at this
            rw [this]; congr 1; omega
          have hdl : (p.drop i).length = p.length - i := List.length_drop
          have hdd : (p.drop i).drop 1 = p.drop (i + 1) := by rw [List.drop_drop]
          have hpn : ¬ ((p.length - i : Nat) : Int) = 0 := by omega
          have hsum : n + a + stepS (n + a) (d - a) = n + (a + stepS (n + a) (d - a)) := by omega
          rw [hsum] at hP
          generalize hkk : stepS (n + a) (d - a) = k at *
          generalize hrs2 : pushR ((n + a) / k) rs (hd (p.drop i) 0) = rs2 at *
          repeat' (first | refine SWp.seq ?_ | refine SWp.block ?_ | refine SWp.scope ?_ | refine SWp.condT rfl ?_ | refine SWp.condF rfl ?_ | (refine SWp.condD rfl (fun ht => ?_) (fun ht => ?_) <;> try (exfalso; omega)) | ((first | refine SWp.reg ?_ | refine SWp.skip ?_ | refine SWp.exit ?_ | refine SWp.ret ?_ | (apply callW.mk_pu; (first | exact (fun _ => hS _) | exact (fun _ => hP _))) | (apply callW.any; (first | exact (hS _) | exact (hP _))) | ((first | apply splitG | apply splitGB | apply splitR | apply splitRB | apply splitE | apply splitEB | apply splitC | apply splitCB) <;> intro ht)); all_goals try simp (disch := first | omega | (simp only [lens, hc_len, hr_len, trs_len, nums_len, List.length_reverse]; first | done | omega)) only [go_sem, Nat.reduceEqDiff, Nat.reduceBEq, Nat.reduceAdd, Nat.reduceMul, Nat.reduceSub, Nat.reduceLeDiff, Int.reduceToNat, Int.reducePow, q1, q2, q3, q6, c0, c1, r2, hdl, hdd, hpn]))
          refine ⟨m - k, by omega, a + k, i + 1, rs2, _, .vsl 32 (hr rs2.reverse) false, pre ++ [k], by omega, ?_, by simp [hpi], by omega, ?_, hrl', by rw [decide_eq_false (by omega)]; rfl, .inr ⟨_, rfl⟩, .inr ⟨_, rfl⟩, rfl, he.set (by omega), rfl⟩
          · rw [List.append_assoc, List.singleton_append, ← hparts, hst, ← hsum, show d - (a + k) = d - a - k by omega]
          · rw [← hsum, show d - (a + k) = d - a - k by omega]; exact hmrg'
      · have had : a = d := by omega
        subst had
        rw [Nat.sub_self, partsS_zero] at hparts hmrg
        rw [List.append_nil] at hparts
        simp only [mergeL] at hmrg
        rw [← hmrg, ← hparts, hpi]
        by_cases hp0 : p.length - i = 0
        · have hp0' : ¬ ((p.length - i : Nat) : Int) > 0 := by omega
          rw [if_neg (by omega), ← hz]
          repeat' (first | refine SWp.seq ?_ | refine SWp.block ?_ | refine SWp.scope ?_ | refine SWp.condT rfl ?_ | refine SWp.condF rfl ?_ | (refine SWp.condD rfl (fun ht => ?_) (fun ht => ?_) <;> try (exfalso; omega)) | ((first | refine SWp.reg ?_ | refine SWp.skip ?_ | refine SWp.exit ?_ | refine SWp.ret ?_ | ((first | apply splitG | apply splitGB | apply splitR | apply splitRB | apply splitE | apply splitEB | apply splitC | apply splitCB) <;> intro ht)); all_goals try simp (disch := first | omega | (simp only [lens, hc_len, hr_len, trs_len, nums_len, List.length_reverse]; first | done | omega)) only [go_sem, Nat.reduceEqDiff, Nat.reduceBEq, Nat.reduceAdd, Nat.reduceMul, Nat.reduceSub, Nat.reduceLeDiff, Int.reduceToNat, Int.reducePow, q1, q2, q3, q6, c0, c1, r2, hp0', zc2]))
          exact Ext.pure hw (he.set (by omega)) (rl_rg (rl_z hzs))
        · have hp0' : ((p.length - i : Nat) : Int) > 0 := by omega
          rw [if_pos (by omega)]
          repeat' (first | refine SWp.seq ?_ | refine SWp.block ?_ | refine SWp.scope ?_ | refine SWp.condT rfl ?_ | refine SWp.condF rfl ?_ | (refine SWp.condD rfl (fun ht => ?_) (fun ht => ?_) <;> try (exfalso; omega)) | ((first | refine SWp.reg ?_ | refine SWp.skip ?_ | refine SWp.exit ?_ | refine SWp.ret ?_ | ((first | apply splitG | apply splitGB | apply splitR | apply splitRB | apply splitE | apply splitEB | apply splitC | apply splitCB) <;> intro ht)); all_goals try simp (disch := first | omega | (simp only [lens, hc_len, hr_len, trs_len, nums_len, List.length_reverse]; first | done | omega)) only [go_sem, Nat.reduceEqDiff, Nat.reduceBEq, Nat.reduceAdd, Nat.reduceMul, Nat.reduceSub, Nat.reduceLeDiff, Int.reduceToNat, Int.reducePow, q1, q2, q3, q6, c0, c1, r2, hp0']))
          exact Ext.pure hw (he.set (by omega)) (rl_rg (by simp [RL]))
end Am
end Go.Proofs.YthgcooppjhcgcaaDoor
end
section
set_option linter.unusedSimpArgs false
set_option linter.unusedVariables false
/- Ranges: the chapter's example. -/
namespace Go.Proofs.YthgcooppjhcgcaaDoor
namespace Am
set_option maxRecDepth 100000 in
theorem first_nz : nodeS (nodeS (someH 9 0) (someH 9 1)) (nodeS (someH 9 2) (someH 9 3)) ≠ List.replicate 32 0 := by decide +kernel
theorem first_nh : nodeH (nodeH (someHH 9 0) (someHH 9 1)) (nodeH (someHH 9 2) (someHH 9 3)) ≠ zeroH := fun h => by
  have := congrArg Subtype.val h
  simp only [nodeH, someHH, zeroH] at this
  exact first_nz this
theorem someL6 : someL 9 6 = [someHH 9 0, someHH 9 1, someHH 9 2, someHH 9 3, someHH 9 4, someHH 9 5] := by simp [someL, List.range_succ]
theorem root_2 (a b : Hash) : rootH [a, b] = nodeH a b := by
  rw [rootH_two (by simp)]; simp [split2, rootH_one]
theorem root_4 (a b c d : Hash) : rootH [a, b, c, d] = nodeH (nodeH a b) (nodeH c d) := by
  rw [rootH_two (by simp)]; simp [split4, root_2]
theorem parts_1_4 : partsS 1 4 = [1, 2, 1] := by decide
theorem eA5 (a b c d e : Hash) : extA 0 [] [a, b, c, d, e] .nilsl = .tup [.agg [.int .i64 5, .vsl 32 (hr [nodeH (nodeH a b) (nodeH c d), e]) false], .int .i64 0] := rfl
theorem eA1 (a : Hash) : extA 0 [] [a] .nilsl = .tup [.agg [.int .i64 1, .vsl 32 (hr [a]) false], .int .i64 0] := rfl
theorem eA6 (a e f : Hash) (x : AV) : extA 5 [a, e] [f] x = .tup [.agg [.int .i64 6, .vsl 32 (hr [a, nodeH e f]) false], .int .i64 0] := rfl
theorem ePt (a b c d : Hash) : partL 1 [a, b, c, d] = [a, nodeH b c, d] ∧ partE 1 4 = 0 := by
  have h1 : partE 1 4 = 0 := by decide
  refine ⟨?_, h1⟩
  unfold partL
  rw [show ([a, b, c, d] : List Hash).length = 4 from rfl, if_pos h1, show (1 : Int).toNat = 1 from rfl, parts_1_4]
  simp [rootsL, root_2, rootH_one]
theorem eM (a b c d e : Hash) (x : AV) : mrgA 1 5 [a] [b, nodeH c d, e] x = .tup [.agg [.int .i64 5, .vsl 32 (hr [nodeH (nodeH a b) (nodeH c d), e]) false], .int .i64 0] := by
  unfold mrgA
  rw [if_neg (by show ¬ (validR 1 1 = false ∨ (5 : Int) < 1 ∨ (4096 : Int) < 5); decide), show (1 : Int).toNat = 1 from rfl, show ((5 : Int) - 1).toNat = 4 from rfl, parts_1_4, if_neg (by simp)]
  rfl
attribute [local irreducible] ACallsTo ACallsP
set_option maxHeartbeats 16000000 in
theorem ranged_to (σ : Store) : ACallsTo TC 15 [] σ (.bool true) σ := by
  obtain ⟨a, b, c, d, e, f, hL, hne⟩ : ∃ a b c d e f : Hash, someL 9 6 = [a, b, c, d, e, f] ∧ nodeH (nodeH a b) (nodeH c d) ≠ zeroH :=
    ⟨_, _, _, _, _, _, someL6, first_nh⟩
  have hS : ∀ σ, ACallsTo TC 79 [.int .i64 6, .int .u8 9] σ (.vsl 32 (hr [a, b, c, d, e, f]) false) σ := fun σ => by
    have := Some_h σ 6 9 (by decide)
    rw [show (6 : Int).toNat = 6 from rfl, hL] at this
    exact this
  have hO5 := fun σ t => Of_to σ [a, b, c, d, e] (.vsl 32 (hr [a, b, c, d, e]) t) (.inr ⟨t, rfl⟩) (by simp)
  have hO1 := fun σ t => Of_to σ [a] (.vsl 32 (hr [a]) t) (.inr ⟨t, rfl⟩) (by simp)
  have hPt := fun σ t => Part_to σ 1 [b, c, d, e] (.vsl 32 (hr [b, c, d, e]) t) (.inr ⟨t, rfl⟩) (by decide) (by simp)
  obtain ⟨p1, p2⟩ := ePt b c d e
  simp only [eA5, eA1, p1, List.length_cons, List.length_nil, Nat.zero_add, Nat.reduceAdd, p2] at hO5 hO1 hPt
  have hR4 := fun σ t => trees_Root_h σ [a, b, c, d] (.vsl 32 (hr [a, b, c, d]) t) (.of (.inr ⟨t, rfl⟩)) (by simp)
  simp only [root_4] at hR4
  generalize hF : nodeH (nodeH a b) (nodeH c d) = F at *
  have hAp := fun σ => Append_to σ 5 [F, e] (.vsl 32 (hr [F, e]) false) f (.of (.inr ⟨false, rfl⟩)) (by decide) (by simp)
  have hM := fun σ => Merge_v σ 1 5 [a] [b, nodeH c d, e] (.vsl 32 (hr [a]) false) (.vsl 32 (hr [b, nodeH c d, e]) false) (.of (.inr ⟨false, rfl⟩)) (.inr ⟨false, rfl⟩) (by decide) (by decide) (by simp) (by simp)
  simp only [eA6, eM, hF] at hAp hM
  have hPs : slVal 32 (hr [b, nodeH c d, e]) = .vsl 32 (hr [b, nodeH c d, e]) false := rfl
  simp only [hPs] at hPt
  have hs1 := fun σ t => Same_h σ [F, e] [F, e] (.vsl 32 (hr [F, e]) false) (.vsl 32 [hc F, hc e] t) (.of (.inr ⟨false, rfl⟩)) (.of (.inr ⟨t, rfl⟩)) (by simp) (by simp)
  have hs2 := fun σ t => Same_h σ [F, nodeH e f] [F, nodeH e f] (.vsl 32 (hr [F, nodeH e f]) false) (.vsl 32 [hc F, hc (nodeH e f)] t) (.of (.inr ⟨false, rfl⟩)) (.of (.inr ⟨t, rfl⟩)) (by simp) (by simp)
  have hs3 := fun σ t => Same_h σ [b, nodeH c d, e] [b, nodeH c d, e] (.vsl 32 (hr [b, nodeH c d, e]) false) (.vsl 32 [hc b, hc (nodeH c d), hc e] t) (.of (.inr ⟨false, rfl⟩)) (.of (.inr ⟨t, rfl⟩)) (by simp) (by simp)
  have hs4 := fun σ => rangesSame_to σ 5 5 [F, e] [F, e] (.vsl 32 (hr [F, e]) false) (.vsl 32 (hr [F, e]) false) (.of (.inr ⟨false, rfl⟩)) (.of (.inr ⟨false, rfl⟩)) (by simp) (by simp)
  simp only [and_self, decide_true] at hs1 hs2 hs3 hs4
  have hn1 := fun σ => trees_Node_h σ e f
  have hn2 := fun σ => trees_Node_h σ c d
  have hz : eqCells (hc F) [.int .u8 0, .int .u8 0, .int .u8 0, .int .u8 0, .int .u8 0, .int .u8 0, .int .u8 0, .int .u8 0, .int .u8 0, .int .u8 0, .int .u8 0, .int .u8 0, .int .u8 0, .int .u8 0, .int .u8 0, .int .u8 0, .int .u8 0, .int .u8 0, .int .u8 0, .int .u8 0, .int .u8 0, .int .u8 0, .int .u8 0, .int .u8 0, .int .u8 0, .int .u8 0, .int .u8 0, .int .u8 0, .int .u8 0, .int .u8 0, .int .u8 0, .int .u8 0] = false := by
    show eqCells (hc F) (hc zeroH) = false
    rw [hc_eq]; exact decide_eq_false hne
  have hzk : ([.int .u8 0, .int .u8 0, .int .u8 0, .int .u8 0, .int .u8 0, .int .u8 0, .int .u8 0, .int .u8 0, .int .u8 0, .int .u8 0, .int .u8 0, .int .u8 0, .int .u8 0, .int .u8 0, .int .u8 0, .int .u8 0, .int .u8 0, .int .u8 0, .int .u8 0, .int .u8 0, .int .u8 0, .int .u8 0, .int .u8 0, .int .u8 0, .int .u8 0, .int .u8 0, .int .u8 0, .int .u8 0, .int .u8 0, .int .u8 0, .int .u8 0, .int .u8 0] : List AV).map kindOf = (List.replicate 32 (LK.i .u8)).map some := rfl
  have g1 : hd [a, b, c, d, e, f] 1 = b := rfl
  have g2 : hd [a, b, c, d, e, f] 2 = c := rfl
  have g3 : hd [a, b, c, d, e, f] 3 = d := rfl
  have g4 : hd [a, b, c, d, e, f] 4 = e := rfl
  have g5 : hd [a, b, c, d, e, f] 5 = f := rfl
  clear hL hne hF p1 p2
  refine ACallsTo.of_body speculumlaw05_ranged_ok (by simp) fun hw _ => ?_
  repeat' (first | refine SWp.seq ?_ | refine SWp.block ?_ | refine SWp.scope ?_ | refine SWp.condT rfl ?_ | refine SWp.condF rfl ?_ | (refine SWp.condD rfl (fun ht => ?_) (fun ht => ?_) <;> try (exfalso; omega)) | ((first | refine SWp.reg ?_ | refine SWp.skip ?_ | refine SWp.exit ?_ | refine SWp.ret ?_ | (apply callW.mk_pu; (first | exact (fun _ => hS _) | exact (fun _ => hO5 _ _))) | (apply callW.any; (first | exact (hS _) | exact (hO5 _ _))) | ((first | apply splitG | apply splitGB | apply splitR | apply splitRB | apply splitE | apply splitEB | apply splitC | apply splitCB) <;> intro ht)); all_goals try simp (disch := first | omega | (simp only [lens, hc_len, hr_len, trs_len, nums_len, List.length_reverse]; first | done | omega)) only [go_sem, Nat.reduceEqDiff, Nat.reduceBEq, Nat.reduceAdd, Nat.reduceMul, Nat.reduceSub, Nat.reduceLeDiff, Int.reduceToNat, Int.reducePow, g1, g2, g3, g4, g5]))
  refine SWp.reg2 ?_ ?_
  · simp (disch := first | omega | (simp only [lens, hc_len, hr_len, trs_len, nums_len, List.length_reverse]; first | done | omega)) only [go_sem, Nat.reduceEqDiff, Nat.reduceBEq, Nat.reduceAdd, Nat.reduceMul, Nat.reduceSub, Nat.reduceLeDiff, Int.reduceToNat, Int.reducePow, g1, g2, g3, g4, g5]
    repeat' (first | refine SWp.seq ?_ | refine SWp.block ?_ | refine SWp.scope ?_ | refine SWp.condT rfl ?_ | refine SWp.condF rfl ?_ | (refine SWp.condD rfl (fun ht => ?_) (fun ht => ?_) <;> try (exfalso; omega)) | ((first | refine SWp.reg ?_ | refine SWp.skip ?_ | refine SWp.exit ?_ | refine SWp.ret ?_ | (apply callW.mk_pu; (first | exact (fun _ => hAp _) | exact (fun _ => hPt _ _) | exact (fun _ => hO1 _ _) | exact (fun _ => hM _) | exact (fun _ => hR4 _ _) | exact (fun _ => hs1 _ _) | exact (fun _ => hs2 _ _) | exact (fun _ => hs3 _ _) | exact (fun _ => hs4 _) | exact (fun _ => hn1 _) | exact (fun _ => hn2 _))) | (apply callW.any; (first | exact (hAp _) | exact (hPt _ _) | exact (hO1 _ _) | exact (hM _) | exact (hR4 _ _) | exact (hs1 _ _) | exact (hs2 _ _) | exact (hs3 _ _) | exact (hs4 _) | exact (hn1 _) | exact (hn2 _))) | ((first | apply splitG | apply splitGB | apply splitR | apply splitRB | apply splitE | apply splitEB | apply splitC | apply splitCB) <;> intro ht)); all_goals try simp (disch := first | omega | (simp only [lens, hc_len, hr_len, trs_len, nums_len, List.length_reverse]; first | done | omega)) only [go_sem, Nat.reduceEqDiff, Nat.reduceBEq, Nat.reduceAdd, Nat.reduceMul, Nat.reduceSub, Nat.reduceLeDiff, Int.reduceToNat, Int.reducePow, g1, g2, g3, g4, g5, hz, hzk]))
    exact DownV.pure hw (rlB_ok _ rfl)
  · simp (disch := first | omega | (simp only [lens, hc_len, hr_len, trs_len, nums_len, List.length_reverse]; first | done | omega)) only [go_sem, Nat.reduceEqDiff, Nat.reduceBEq, Nat.reduceAdd, Nat.reduceMul, Nat.reduceSub, Nat.reduceLeDiff, Int.reduceToNat, Int.reducePow, g1, g2, g3, g4, g5]
    repeat' (first | refine SWp.seq ?_ | refine SWp.block ?_ | refine SWp.scope ?_ | refine SWp.condT rfl ?_ | refine SWp.condF rfl ?_ | (refine SWp.condD rfl (fun ht => ?_) (fun ht => ?_) <;> try (exfalso; omega)) | ((first | refine SWp.reg ?_ | refine SWp.skip ?_ | refine SWp.exit ?_ | refine SWp.ret ?_ | (apply callW.mk_pu; (first | exact (fun _ => hAp _) | exact (fun _ => hPt _ _) | exact (fun _ => hO1 _ _) | exact (fun _ => hM _) | exact (fun _ => hR4 _ _) | exact (fun _ => hs1 _ _) | exact (fun _ => hs2 _ _) | exact (fun _ => hs3 _ _) | exact (fun _ => hs4 _) | exact (fun _ => hn1 _) | exact (fun _ => hn2 _))) | (apply callW.any; (first | exact (hAp _) | exact (hPt _ _) | exact (hO1 _ _) | exact (hM _) | exact (hR4 _ _) | exact (hs1 _ _) | exact (hs2 _ _) | exact (hs3 _ _) | exact (hs4 _) | exact (hn1 _) | exact (hn2 _))) | ((first | apply splitG | apply splitGB | apply splitR | apply splitRB | apply splitE | apply splitEB | apply splitC | apply splitCB) <;> intro ht)); all_goals try simp (disch := first | omega | (simp only [lens, hc_len, hr_len, trs_len, nums_len, List.length_reverse]; first | done | omega)) only [go_sem, Nat.reduceEqDiff, Nat.reduceBEq, Nat.reduceAdd, Nat.reduceMul, Nat.reduceSub, Nat.reduceLeDiff, Int.reduceToNat, Int.reducePow, g1, g2, g3, g4, g5, hz, hzk]))
    exact DownV.pure hw (rlB_ok _ rfl)
end Am
end Go.Proofs.YthgcooppjhcgcaaDoor
end
section
set_option linter.unusedSimpArgs false
set_option linter.unusedVariables false
/- Ranges: the law RangesPart: its contract. -/
namespace Go.Proofs.YthgcooppjhcgcaaDoor
namespace Am
theorem partL_len {n : Int} {l : List Hash} (h : l.length < 8192) : (partL n l).length ≤ l.length := by
  unfold partL
  split
  · rw [rootsL_len]; exact (partsS_sum l.length n.toNat l.length (Nat.le_refl _) h).2
  · simp
attribute [local irreducible] ACallsTo ACallsP
end Am
end Go.Proofs.YthgcooppjhcgcaaDoor
end
section
set_option linter.unusedSimpArgs false
set_option linter.unusedVariables false
/- Ranges: the law RangesFull: its contract. -/
namespace Go.Proofs.YthgcooppjhcgcaaDoor
namespace Am
theorem u8_of {a : AV} (h : Sh (.int .u8) a) : ∃ n : Nat, a = .int .u8 n ∧ n ≤ 255 := by
  simp only [Sh, ShC] at h
  obtain ⟨n, h, h1, h2⟩ := h
  cases h
  simp only [IntKind.min, IntKind.max, IntKind.signed, IntKind.bits] at h1 h2
  simp at h1 h2
  exact ⟨n.toNat, by congr 1; omega, by omega⟩
attribute [local irreducible] ACallsTo ACallsP
end Am
end Go.Proofs.YthgcooppjhcgcaaDoor
end
section
set_option linter.unusedSimpArgs false
set_option linter.unusedVariables false
/- Ranges: the root of a range. -/
namespace Go.Proofs.YthgcooppjhcgcaaDoor
namespace Am
attribute [local irreducible] ACallsTo ACallsP
theorem Backward_to (σ : Store) (x : AV) (hx : cellsOf x = some [x]) :
    ACallsTo TC 87 [x] σ (.fn 144 [.ptr σ.length 0 0]) (σ ++ [some [[x]]]) := by
  unfold cellsOf at hx
  refine ACallsTo.of_body_keep slices_Backward_api_Hash__ok (by simp) ?_
  repeat' (first | refine SWp.seq ?_ | refine SWp.block ?_ | refine SWp.scope ?_ | refine SWp.condT rfl ?_ | refine SWp.condF rfl ?_ | (refine SWp.condD rfl (fun ht => ?_) (fun ht => ?_) <;> try (exfalso; omega)) | ((first | refine SWp.reg ?_ | refine SWp.skip ?_ | refine SWp.exit ?_ | refine SWp.ret ?_ | ((first | apply splitG | apply splitGB | apply splitR | apply splitRB | apply splitE | apply splitEB | apply splitC | apply splitCB) <;> intro ht)); all_goals try simp (disch := first | omega | (simp only [lens, hc_len, hr_len, List.length_reverse]; first | done | omega)) only [go_sem, Nat.reduceEqDiff, Nat.reduceBEq, Nat.reduceAdd, Nat.reduceMul, Nat.reduceSub, Nat.reduceLeDiff, Int.reduceToNat, Int.reducePow, hx, keepQ]))
def rootA (n : Int) (hs : List Hash) : AV := if validR n hs.length = false then .tup [.agg (hc zeroH), .int .i64 2] else .tup [.agg (hc (rootR hs.reverse)), .int .i64 0]
theorem rl_rootA {k : Nat} {h : Hash} {e : Int} : RL k (.tup [.agg (hc h), .int .i64 e]) := by simp only [RL, RLs]; exact ⟨rl_hc h, trivial, trivial⟩
theorem rootR_snoc_take {hs : List Hash} {m : Nat} (h : hs.length = m + 1) : rootR hs.reverse = ((hs.take m).reverse.take m).foldl (fun o h => nodeH h o) (hd hs m) := by
  have e : hs = hs.take m ++ [hd hs m] := by rw [← take_hd (by omega), List.take_of_length_le (by omega)]
  have e2 : hs.reverse = hd hs m :: (hs.take m).reverse := by
    conv => lhs; rw [e]
    rw [List.reverse_append, List.reverse_singleton, List.singleton_append]
  have e3 : (hs.take m).reverse.take m = (hs.take m).reverse := List.take_of_length_le (by simp; omega)
  rw [e2, rootR, e3]
theorem fold_step {R : List Hash} {j : Nat} (x : Hash) (h : j < R.length) : (R.reverse.take (j + 1)).foldl (fun o h => nodeH h o) x = nodeH (hd R (R.length - 1 - j)) ((R.reverse.take j).foldl (fun o h => nodeH h o) x) := by
  have hj : j < R.reverse.length := by rw [List.length_reverse]; exact h
  rw [List.take_add_one, List.getElem?_eq_getElem hj]
  simp only [Option.toList_some, List.foldl_append, List.foldl_cons, List.foldl_nil]
  rw [hd_get (by omega), List.getElem_reverse]
theorem pc_pos : ∀ (f m : Nat), 0 < m → m < 2 ^ f → 0 < pc f m
  | 0, m, h, h1 => by simp at h1; omega
  | f + 1, m, h, h1 => by
    simp only [pc]
    by_cases h2 : m % 2 = 1
    · omega
    · have := pc_pos f (m / 2) (by omega) (by rw [Nat.pow_succ] at h1; omega)
      omega
set_option maxHeartbeats 16000000 in
theorem Root_v (σ : Store) (n : Int) (hs : List Hash) (x : AV) (hx : SlV 32 (hr hs) x) (hl : hs.length < 1000000) (hn : -9223372036854775808 ≤ n ∧ n ≤ 9223372036854775807) :
    ACallsTo TC 18 [.agg [.int .i64 n, x]] σ (rootA n hs) σ := by
  have xc := slv_cells hx
  unfold cellsOf at xc
  have r1 := hx.len
  rw [hr_len] at r1
  unfold rLenSl at r1
  have hV := fun σ => ranges_Valid_h σ n hs x (.of hx)
  have hT := fun σ => trees_Root_h σ [] .nilsl (.of (.inl ⟨rfl, rfl⟩)) (by decide)
  refine ACallsTo.of_bodyD ranges_Root_ok (by simp) fun hw _ => ?_
  unfold rootA
  refine SWpD.seqS ?_
  repeat' (first | refine SWp.seq ?_ | refine SWp.block ?_ | refine SWp.scope ?_ | refine SWp.condT rfl ?_ | refine SWp.condF rfl ?_ | (refine SWp.condD rfl (fun ht => ?_) (fun ht => ?_) <;> try (exfalso; omega)) | ((first | refine SWp.reg ?_ | refine SWp.skip ?_ | refine SWp.exit ?_ | refine SWp.ret ?_ | ((first | apply splitG | apply splitGB | apply splitR | apply splitRB | apply splitE | apply splitEB | apply splitC | apply splitCB) <;> intro ht)); all_goals try simp (disch := first | omega | (simp only [lens, hc_len, hr_len, List.length_reverse]; first | done | omega)) only [go_sem, Nat.reduceEqDiff, Nat.reduceBEq, Nat.reduceAdd, Nat.reduceMul, Nat.reduceSub, Nat.reduceLeDiff, Int.reduceToNat, Int.reducePow, xc]))
  refine SWpD.seqS ?_
  cases hv : validR n hs.length with
  | false =>
    rw [hv] at hV
    rw [if_pos rfl]
    repeat' (first | refine SWp.seq ?_ | refine SWp.block ?_ | refine SWp.scope ?_ | refine SWp.condT rfl ?_ | refine SWp.condF rfl ?_ | (refine SWp.condD rfl (fun ht => ?_) (fun ht => ?_) <;> try (exfalso; omega)) | ((first | refine SWp.reg ?_ | refine SWp.skip ?_ | refine SWp.exit ?_ | refine SWp.ret ?_ | (apply callW.mk_pu; (first | exact (fun _ => hV _))) | (apply callW.any; (first | exact (hV _))) | ((first | apply splitG | apply splitGB | apply splitR | apply splitRB | apply splitE | apply splitEB | apply splitC | apply splitCB) <;> intro ht)); all_goals try simp (disch := first | omega | (simp only [lens, hc_len, hr_len, List.length_reverse]; first | done | omega)) only [go_sem, Nat.reduceEqDiff, Nat.reduceBEq, Nat.reduceAdd, Nat.reduceMul, Nat.reduceSub, Nat.reduceLeDiff, Int.reduceToNat, Int.reducePow, xc]))
    exact DownV.pure hw (rl_rootA (h := zeroH))
  | true =>
    rw [hv] at hV
    rw [if_neg (by simp)]
    by_cases hn0 : n = 0
    · subst hn0
      have h0 : hs = [] := by
        have := of_decide_eq_true hv
        exact List.eq_nil_of_length_eq_zero this.2.2
      subst h0
      repeat' (first | refine SWp.seq ?_ | refine SWp.block ?_ | refine SWp.scope ?_ | refine SWp.condT rfl ?_ | refine SWp.condF rfl ?_ | (refine SWp.condD rfl (fun ht => ?_) (fun ht => ?_) <;> try (exfalso; omega)) | ((first | refine SWp.reg ?_ | refine SWp.skip ?_ | refine SWp.exit ?_ | refine SWp.ret ?_ | (apply callW.mk_pu; (first | exact (fun _ => hV _) | exact (fun _ => hT _))) | (apply callW.any; (first | exact (hV _) | exact (hT _))) | ((first | apply splitG | apply splitGB | apply splitR | apply splitRB | apply splitE | apply splitEB | apply splitC | apply splitCB) <;> intro ht)); all_goals try simp (disch := first | omega | (simp only [lens, hc_len, hr_len, List.length_reverse]; first | done | omega)) only [go_sem, Nat.reduceEqDiff, Nat.reduceBEq, Nat.reduceAdd, Nat.reduceMul, Nat.reduceSub, Nat.reduceLeDiff, Int.reduceToNat, Int.reducePow, xc]))
      exact DownV.pure hw rl_rootA
    · obtain ⟨_, hn2, hpc⟩ := of_decide_eq_true hv
      have hlen : ∃ m, hs.length = m + 1 := by
        rcases Nat.eq_zero_or_pos hs.length with h | h
        · exfalso
          have := pc_pos 64 n.toNat (by omega) (by omega)
          omega
        · exact ⟨hs.length - 1, by omega⟩
      obtain ⟨m, hm⟩ := hlen
      obtain ⟨ex, rfl⟩ := hx.vsl (by rw [hr_len]; omega)
      have hm1 : ((hs.length : Nat) : Int) - 1 = (m : Int) := by omega
      have hmm : ((m : Nat) : Int).toNat = m := rfl
      have hB := fun σ t => Backward_to σ (.vsl 32 (hr (hs.take m)) t) rfl
      have hlt : (hs.take m).length = m := by rw [List.length_take]; omega
      have hR := rootR_snoc_take hm
      repeat' (first | refine SWp.seq ?_ | refine SWp.block ?_ | refine SWp.scope ?_ | refine SWp.condT rfl ?_ | refine SWp.condF rfl ?_ | (refine SWp.condD rfl (fun ht => ?_) (fun ht => ?_) <;> try (exfalso; omega)) | ((first | refine SWp.reg ?_ | refine SWp.skip ?_ | refine SWp.exit ?_ | refine SWp.ret ?_ | (apply callW.mk_pu; (first | exact (fun _ => hV _))) | (apply callW.any; (first | exact (hV _))) | ((first | apply splitG | apply splitGB | apply splitR | apply splitRB | apply splitE | apply splitEB | apply splitC | apply splitCB) <;> intro ht)); all_goals try simp (disch := first | omega | (simp only [lens, hc_len, hr_len, List.length_reverse]; first | done | omega)) only [go_sem, Nat.reduceEqDiff, Nat.reduceBEq, Nat.reduceAdd, Nat.reduceMul, Nat.reduceSub, Nat.reduceLeDiff, Int.reduceToNat, Int.reducePow, xc, hn0]))
      refine SWpD.seqS ?_
      repeat' (first | refine SWp.seq ?_ | refine SWp.block ?_ | refine SWp.scope ?_ | refine SWp.condT rfl ?_ | refine SWp.condF rfl ?_ | (refine SWp.condD rfl (fun ht => ?_) (fun ht => ?_) <;> try (exfalso; omega)) | ((first | refine SWp.reg ?_ | refine SWp.skip ?_ | refine SWp.exit ?_ | refine SWp.ret ?_ | ((first | apply splitG | apply splitGB | apply splitR | apply splitRB | apply splitE | apply splitEB | apply splitC | apply splitCB) <;> intro ht)); all_goals try simp (disch := first | omega | (simp only [lens, hc_len, hr_len, List.length_reverse]; first | done | omega)) only [go_sem, Nat.reduceEqDiff, Nat.reduceBEq, Nat.reduceAdd, Nat.reduceMul, Nat.reduceSub, Nat.reduceLeDiff, Int.reduceToNat, Int.reducePow, xc, r1, hm1]))
      refine SWpD.seqS ?_
      repeat' (first | refine SWp.seq ?_ | refine SWp.block ?_ | refine SWp.scope ?_ | refine SWp.condT rfl ?_ | refine SWp.condF rfl ?_ | (refine SWp.condD rfl (fun ht => ?_) (fun ht => ?_) <;> try (exfalso; omega)) | ((first | refine SWp.reg ?_ | refine SWp.skip ?_ | refine SWp.exit ?_ | refine SWp.ret ?_ | ((first | apply splitG | apply splitGB | apply splitR | apply splitRB | apply splitE | apply splitEB | apply splitC | apply splitCB) <;> intro ht)); all_goals try simp (disch := first | omega | (simp only [lens, hc_len, hr_len, List.length_reverse]; first | done | omega)) only [go_sem, Nat.reduceEqDiff, Nat.reduceBEq, Nat.reduceAdd, Nat.reduceMul, Nat.reduceSub, Nat.reduceLeDiff, Int.reduceToNat, Int.reducePow, xc, r1, hm1, hmm]))
      refine SWpD.seqR ?_
      refine SWpD.seqS ?_
      repeat' (first | refine SWp.seq ?_ | refine SWp.block ?_ | refine SWp.scope ?_ | refine SWp.condT rfl ?_ | refine SWp.condF rfl ?_ | (refine SWp.condD rfl (fun ht => ?_) (fun ht => ?_) <;> try (exfalso; omega)) | ((first | refine SWp.reg ?_ | refine SWp.skip ?_ | refine SWp.exit ?_ | refine SWp.ret ?_ | (apply callW.mk_pu; (first | exact (fun _ => hB _ _))) | (apply callW.any; (first | exact (hB _ _))) | ((first | apply splitG | apply splitGB | apply splitR | apply splitRB | apply splitE | apply splitEB | apply splitC | apply splitCB) <;> intro ht)); all_goals try simp (disch := first | omega | (simp only [lens, hc_len, hr_len, List.length_reverse]; first | done | omega)) only [go_sem, Nat.reduceEqDiff, Nat.reduceBEq, Nat.reduceAdd, Nat.reduceMul, Nat.reduceSub, Nat.reduceLeDiff, Int.reduceToNat, Int.reducePow, xc, r1, hm1, hmm]))
      refine SWpD.block ?_
      refine range_back (rB := σ.length + 3) (es := hr (hs.take m)) (by simp (disch := first | omega | (simp only [lens, hc_len, hr_len, List.length_reverse]; first | done | omega)) only [go_sem, Nat.reduceEqDiff, Nat.reduceBEq, Nat.reduceAdd, Nat.reduceMul, Nat.reduceSub, Nat.reduceLeDiff, Int.reduceToNat, Int.reducePow] <;> rfl) (by rw [hr_len]; omega) (by decide) (by decide) (fun e he => by
          simp only [hr, List.mem_map] at he
          obtain ⟨h, _, rfl⟩ := he
          exact hc_len h)
        (fun j σ' => σ'[σ.length + 1]? = some (some [hc zeroH]) ∧ σ'[σ.length + 2]? = some (some [hc (((hs.take m).reverse.take j).foldl (fun o h => nodeH h o) (hd hs m))]) ∧ (∃ ex, σ'[σ.length + 3]? = some (some [[.vsl 32 (hr (hs.take m)) ex]])) ∧ ∃ news, σ' = σ ++ news) ?_ ?_ ?_ ?_
      · refine ⟨by simp (disch := first | omega | (simp only [lens, hc_len, hr_len, List.length_reverse]; first | done | omega)) only [go_sem, Nat.reduceEqDiff, Nat.reduceBEq, Nat.reduceAdd, Nat.reduceMul, Nat.reduceSub, Nat.reduceLeDiff, Int.reduceToNat, Int.reducePow] <;> rfl, by simp (disch := first | omega | (simp only [lens, hc_len, hr_len, List.length_reverse]; first | done | omega)) only [go_sem, Nat.reduceEqDiff, Nat.reduceBEq, Nat.reduceAdd, Nat.reduceMul, Nat.reduceSub, Nat.reduceLeDiff, Int.reduceToNat, Int.reducePow] <;> rfl, ⟨_, by simp (disch := first | omega | (simp only [lens, hc_len, hr_len, List.length_reverse]; first | done | omega)) only [go_sem, Nat.reduceEqDiff, Nat.reduceBEq, Nat.reduceAdd, Nat.reduceMul, Nat.reduceSub, Nat.reduceLeDiff, Int.reduceToNat, Int.reducePow] <;> rfl⟩, _, rfl⟩
      · rintro j σ' ⟨_, _, ⟨ex, h⟩, _⟩
        exact ⟨_, h, .inr ⟨ex, rfl⟩⟩
      · rintro l j σ' cs ⟨i1, i2, ⟨ex2, i3⟩, news, rfl⟩ hj hcs
        rw [hr_len, hlt] at hj
        have hcs2 : cs = hc (hd (hs.take m) (m - 1 - j)) := by
          rw [hr_len, hlt, hr_get (by omega)] at hcs
          exact (Option.some.inj hcs).symm
        subst hcs2
        have hN := fun σ => trees_Node_h σ (hd (hs.take m) (m - 1 - j)) (((hs.take m).reverse.take j).foldl (fun o h => nodeH h o) (hd hs m))
        have hst := fold_step (R := hs.take m) (j := j) (hd hs m) (by omega)
        rw [hlt] at hst
        rw [← hst] at hN
        generalize ((hs.take m).reverse.take j).foldl (fun o h => nodeH h o) (hd hs m) = A at *
        generalize ((hs.take m).reverse.take (j + 1)).foldl (fun o h => nodeH h o) (hd hs m) = B at *
        generalize hd (hs.take m) (m - 1 - j) = H at *
        rw [getElem?_app] at i1 i2 i3
        have l1 := slen i1
        have l2 := slen i2
        have l3 := slen i3
        refine SWpI.reg rfl ?_
        simp (disch := first | omega | (simp only [lens, hc_len, hr_len, List.length_reverse]; first | done | omega)) only [go_sem, Nat.reduceEqDiff, Nat.reduceBEq, Nat.reduceAdd, Nat.reduceMul, Nat.reduceSub, Nat.reduceLeDiff, Int.reduceToNat, Int.reducePow]
        refine SWpI.block ?_
        refine SWpI.reg rfl ?_
        simp (disch := first | omega | (simp only [lens, hc_len, hr_len, List.length_reverse]; first | done | omega)) only [go_sem, Nat.reduceEqDiff, Nat.reduceBEq, Nat.reduceAdd, Nat.reduceMul, Nat.reduceSub, Nat.reduceLeDiff, Int.reduceToNat, Int.reducePow, i1, i2, i3, l1, l2, l3]
        refine callW.any (hN _) trivial ?_
        simp (disch := first | omega | (simp only [lens, hc_len, hr_len, List.length_reverse]; first | done | omega)) only [go_sem, Nat.reduceEqDiff, Nat.reduceBEq, Nat.reduceAdd, Nat.reduceMul, Nat.reduceSub, Nat.reduceLeDiff, Int.reduceToNat, Int.reducePow, i1, i2, i3, l1, l2, l3]
        exact ⟨⟨_, rfl⟩, _, rfl⟩
      · rintro σ' ⟨i1, i2, ⟨ex2, i3⟩, news, rfl⟩
        rw [hr_len, hlt] at i2
        rw [← hR] at i2
        rw [getElem?_app] at i1 i2
        have l1 := slen i1
        have l2 := slen i2
        repeat' (first | refine SWp.seq ?_ | refine SWp.block ?_ | refine SWp.scope ?_ | refine SWp.condT rfl ?_ | refine SWp.condF rfl ?_ | (refine SWp.condD rfl (fun ht => ?_) (fun ht => ?_) <;> try (exfalso; omega)) | ((first | refine SWp.reg ?_ | refine SWp.skip ?_ | refine SWp.exit ?_ | refine SWp.ret ?_ | ((first | apply splitG | apply splitGB | apply splitR | apply splitRB | apply splitE | apply splitEB | apply splitC | apply splitCB) <;> intro ht)); all_goals try simp (disch := first | omega | (simp only [lens, hc_len, hr_len, List.length_reverse]; first | done | omega)) only [go_sem, Nat.reduceEqDiff, Nat.reduceBEq, Nat.reduceAdd, Nat.reduceMul, Nat.reduceSub, Nat.reduceLeDiff, Int.reduceToNat, Int.reducePow, i1, i2, l1, l2]))
        exact DownV.pure hw rl_rootA
end Am
end Go.Proofs.YthgcooppjhcgcaaDoor
end
section
set_option linter.unusedSimpArgs false
set_option linter.unusedVariables false
/- Ranges: the law RangesSame: its contract. -/
namespace Go.Proofs.YthgcooppjhcgcaaDoor
namespace Am
attribute [local irreducible] ACallsTo ACallsP
theorem Root_h (σ : Store) (n : Int) (hs : List Hash) (x : AV) (hx : RdSl σ 32 (hr hs) x) (hl : hs.length < 1000000) (hn : -9223372036854775808 ≤ n ∧ n ≤ 9223372036854775807) :
    ACallsTo TC 18 [.agg [.int .i64 n, x]] σ (rootA n hs) σ := by
  obtain ⟨x0, h0, hd⟩ := hx.lend (rlss_hr hs)
  have hi : ∀ i : Int, RL 0 (.int .i64 i) := fun i => by simp [RL]
  have := ACallsTo.lend glok (Root_v [] n hs x0 h0 hl hn) (drs1 (drA (drsc (rl0 (hi n) σ) (drs1 hd))))
  have e : sh σ.length (rootA n hs) = rootA n hs := by
    unfold rootA
    split
    all_goals simp only [sh, shs, shs_hc]
  rwa [e, shS_nil, List.append_nil] at this
theorem ext_ok {σ : Store} {n : Nat} {hs l : List Hash} {x : AV} (hx : RdSl σ 32 (hr hs) x) (hl : hs.length = pc 13 n) (h : n + l.length ≤ 4096) :
    ∃ z, extA n hs l x = .tup [.agg [.int .i64 ((n + l.length : Nat) : Int), z], .int .i64 0] ∧ SlV 32 (hr (extR n hs.reverse l).reverse) z := by
  have hv : validR n hs.length = true := decide_eq_true ⟨by omega, by omega, by rw [Int.toNat_natCast, pc13 (by omega)]; exact hl⟩
  refine ⟨zv x l.isEmpty (extR n hs.reverse l).reverse, ?_, zv_slv (σ := σ) fun h => ?_⟩
  · unfold extA
    rw [hv, if_neg (by simp), if_neg (by omega), Int.toNat_natCast]; rfl
  · have : l = [] := by cases l <;> simp at h ⊢
    subst this
    simpa [extR] using hx
theorem mrg_ok {σ : Store} {n : Nat} {hs l : List Hash} {x : AV} (hx : RdSl σ 32 (hr hs) x) (hl : hs.length = pc 13 n) (h : n + l.length ≤ 4096) :
    ∃ z, mrgA n ((n + l.length : Nat) : Int) hs (partL n l) x = .tup [.agg [.int .i64 ((n + l.length : Nat) : Int), z], .int .i64 0] ∧ SlV 32 (hr (extR n hs.reverse l).reverse) z := by
  have hv : validR n hs.length = true := decide_eq_true ⟨by omega, by omega, by rw [Int.toNat_natCast, pc13 (by omega)]; exact hl⟩
  have hd : (((n + l.length : Nat) : Int) - (n : Int)).toNat = l.length := by omega
  have hp := (partL_ok (n := n) (l := l) h).2
  have hm := merge_ext l.length n l.length hs.reverse l (Nat.le_refl _) (by omega) rfl
  refine ⟨zv x (decide (((n + l.length : Nat) : Int) = n)) (extR n hs.reverse l).reverse, ?_, zv_slv (σ := σ) fun h => ?_⟩
  · unfold mrgA
    rw [hv, if_neg (by simp; omega), Int.toNat_natCast, hd, hp, if_neg (by rw [rootsL_len]; simp), hm]; rfl
  · have := of_decide_eq_true h
    have : l = [] := List.eq_nil_of_length_eq_zero (by omega)
    subst this
    simpa [extR] using hx
theorem ofR_len (l : List Hash) (h : l.length ≤ 4096) : (ofR l).length = pc 13 l.length := by
  have := extR_len 13 0 [] l (by omega) (by rw [pc_zero]; rfl)
  rwa [Nat.zero_add] at this
set_option maxHeartbeats 16000000 in
theorem RangesSame_to (l : List Hash) (y : AV) (hy : SlV 32 (hr l) y) (at' : Nat) (ha : at' ≤ 255) : ACallsTo TC 4 [y, .int .u8 at'] [] (.bool true) [] := by
  have r1 := hy.len
  rw [hr_len] at r1
  unfold rLenSl at r1
  refine ACallsTo.of_body speculumlaw05_RangesSame_ok (by simp) fun hw _ => ?_
  by_cases hl : l.length ≤ 80
  · have hl' : ¬ (l.length : Int) > 80 := by omega
    have hml : at' % (l.length + 1) ≤ l.length := by have := Nat.mod_lt at' (show 0 < l.length + 1 by omega); omega
    obtain ⟨k, hk⟩ : ∃ k, at' % (l.length + 1) = k := ⟨_, rfl⟩
    rw [hk] at hml
    have hkm : (at' : Int) % ((l.length : Int) + 1) = (k : Int) := by rw [← hk]; push_cast; rfl
    have nil : RdSl [] 32 (hr []) .nilsl := .of (.inl ⟨rfl, rfl⟩)
    obtain ⟨z1, e1, s1⟩ := ext_ok (n := 0) (hs := []) (l := l) nil (by rw [pc_zero]; rfl) (by omega)
    obtain ⟨z2, e2, s2⟩ := ext_ok (n := 0) (hs := []) (l := l.take k) nil (by rw [pc_zero]; rfl) (by rw [List.length_take]; omega)
    have lk : (l.take k).length = k := by rw [List.length_take]; omega
    have ld : (l.drop k).length = l.length - k := List.length_drop
    simp only [List.reverse_nil, Nat.zero_add, show ((0 : Nat) : Int) = 0 from rfl] at e1 e2 s1 s2
    rw [lk] at e2
    rw [show extR 0 [] l = ofR l from rfl] at s1
    rw [show extR 0 [] (l.take k) = ofR (l.take k) from rfl] at s2
    have hok : (ofR (l.take k)).reverse.length = pc 13 k := by rw [List.length_reverse, ofR_len _ (by omega), lk]
    obtain ⟨z3, e3, s3⟩ := ext_ok (σ := []) (n := k) (l := l.drop k) (.of s2) hok (by omega)
    obtain ⟨z4, e4, s4⟩ := mrg_ok (σ := []) (n := k) (l := l.drop k) (.of s2) hok (by omega)
    have hsplit : extR k (ofR (l.take k)) (l.drop k) = ofR l := by
      have := extR_app 0 [] (l.take k) (l.drop k)
      rw [List.take_append_drop, lk, Nat.zero_add] at this
      exact this.symm
    rw [List.reverse_reverse, hsplit] at s3 s4
    rw [show k + (l.drop k).length = l.length by omega] at e3 e4
    have hO1 := fun σ => Of_to σ l y hy (by omega)
    have hO2 := fun σ w (h : SlV 32 (hr (l.take k)) w) => Of_to σ (l.take k) w h (by omega)
    have hV := fun σ => ranges_Valid_h σ (l.length : Int) (ofR l).reverse z1 (.of s1)
    have hvt : validR (l.length : Int) (ofR l).reverse.length = true := decide_eq_true ⟨by omega, by omega, by rw [Int.toNat_natCast, pc13 (by omega), List.length_reverse, ofR_len _ (by omega)]⟩
    rw [hvt] at hV
    have zc1 := slv_cells s1
    unfold cellsOf at zc1
    simp only [e1] at hO1
    repeat' (first | refine SWp.seq ?_ | refine SWp.block ?_ | refine SWp.scope ?_ | refine SWp.condT rfl ?_ | refine SWp.condF rfl ?_ | (refine SWp.condD rfl (fun ht => ?_) (fun ht => ?_) <;> try (exfalso; omega)) | ((first | refine SWp.reg ?_ | refine SWp.skip ?_ | refine SWp.exit ?_ | refine SWp.ret ?_ | (apply callW.mk_pu; (first | exact (fun _ => hO1 _) | exact (fun _ => hV _))) | (apply callW.any; (first | exact (hO1 _) | exact (hV _))) | ((first | apply splitG | apply splitGB | apply splitR | apply splitRB | apply splitE | apply splitEB | apply splitC | apply splitCB) <;> intro ht)); all_goals try simp (disch := first | omega | (simp only [lens, hc_len, hr_len, trs_len, nums_len, List.length_reverse]; first | done | omega)) only [go_sem, Nat.reduceEqDiff, Nat.reduceBEq, Nat.reduceAdd, Nat.reduceMul, Nat.reduceSub, Nat.reduceLeDiff, Int.reduceToNat, Int.reducePow, r1, hl', hkm, zc1]))
    refine SWp.loop (fun m ρ σ' => ∃ (i : Nat) (z : AV), m + i = l.length ∧ SlV 32 (hr (ofR (l.take i)).reverse) z ∧ σ'[0]? = some (some [[.int .i64 l.length, z1]]) ∧ σ'[1]? = some (some [[.int .i64 i, z]]) ∧ ρ 0 = y ∧ ρ 5 = .int .i64 k ∧ ρ 6 = .ptr 0 0 0 ∧ ρ 8 = .ptr 1 0 0 ∧ ρ 9 = .int .i64 i) l.length ?_ ?_
    · exact ⟨0, .nilsl, by omega, .inl ⟨rfl, rfl⟩, by simp, by simp, by simp (disch := first | omega | (simp only [lens, hc_len, hr_len, trs_len, nums_len, List.length_reverse]; first | done | omega)) only [go_sem, Nat.reduceEqDiff, Nat.reduceBEq, Nat.reduceAdd, Nat.reduceMul, Nat.reduceSub, Nat.reduceLeDiff, Int.reduceToNat, Int.reducePow], by simp (disch := first | omega | (simp only [lens, hc_len, hr_len, trs_len, nums_len, List.length_reverse]; first | done | omega)) only [go_sem, Nat.reduceEqDiff, Nat.reduceBEq, Nat.reduceAdd, Nat.reduceMul, Nat.reduceSub, Nat.reduceLeDiff, Int.reduceToNat, Int.reducePow], by simp (disch := first | omega | (simp only [lens, hc_len, hr_len, trs_len, nums_len, List.length_reverse]; first | done | omega)) only [go_sem, Nat.reduceEqDiff, Nat.reduceBEq, Nat.reduceAdd, Nat.reduceMul, Nat.reduceSub, Nat.reduceLeDiff, Int.reduceToNat, Int.reducePow], by simp (disch := first | omega | (simp only [lens, hc_len, hr_len, trs_len, nums_len, List.length_reverse]; first | done | omega)) only [go_sem, Nat.reduceEqDiff, Nat.reduceBEq, Nat.reduceAdd, Nat.reduceMul, Nat.reduceSub, Nat.reduceLeDiff, Int.reduceToNat, Int.reducePow], by simp (disch := first | omega | (simp only [lens, hc_len, hr_len, trs_len, nums_len, List.length_reverse]; first | done | omega)) only [go_sem, Nat.reduceEqDiff, Nat.reduceBEq, Nat.reduceAdd, Nat.reduceMul, Nat.reduceSub, Nat.reduceLeDiff, Int.reduceToNat, Int.reducePow]; rfl⟩
    · rintro m ρ σ' ⟨i, z, hm, hz, c0, c1, q0, q5, q6, q8, q9⟩
      have d0 := slen c0
      have d1 := slen c1
      have zc := slv_cells hz
      unfold cellsOf at zc
      by_cases hi : i < l.length
      · clear hO1 hO2 e1 e2 e3 e4 hsplit s1 s2 s3 s4 hV hvt hok
        obtain ⟨ex, rfl⟩ := hy.vsl (by rw [hr_len]; omega)
        have hlen : (ofR (l.take i)).reverse.length = pc 13 i := by rw [List.length_reverse, ofR_len _ (by rw [List.length_take]; omega), List.length_take, Nat.min_eq_left (by omega)]
        obtain ⟨z', e5, s5⟩ := ext_ok (σ := []) (n := i) (l := [hd l i]) (.of hz) hlen (by simp; omega)
        have hnx : extR i (ofR (l.take i)) [hd l i] = ofR (l.take (i + 1)) := by
          have := extR_app 0 [] (l.take i) [hd l i]
          rw [← take_hd hi, Nat.zero_add, List.length_take, Nat.min_eq_left (by omega)] at this
          exact this.symm
        rw [List.reverse_reverse, hnx] at s5
        rw [List.length_singleton] at e5
        have hA := fun σ => Append_to σ i (ofR (l.take i)).reverse z (hd l i) (.of hz) (by omega) (by rw [hlen]; have := pc_le 13 i; omega)
        simp only [e5] at hA
        have zc5 := slv_cells s5
        unfold cellsOf at zc5
        clear e5 hnx hlen
        repeat' (first | refine SWp.seq ?_ | refine SWp.block ?_ | refine SWp.scope ?_ | refine SWp.condT rfl ?_ | refine SWp.condF rfl ?_ | (refine SWp.condD rfl (fun ht => ?_) (fun ht => ?_) <;> try (exfalso; omega)) | ((first | refine SWp.reg ?_ | refine SWp.skip ?_ | refine SWp.exit ?_ | refine SWp.ret ?_ | (apply callW.mk_pu; (first | exact (fun _ => hA _))) | (apply callW.any; (first | exact (hA _))) | ((first | apply splitG | apply splitGB | apply splitR | apply splitRB | apply splitE | apply splitEB | apply splitC | apply splitCB) <;> intro ht)); all_goals try simp (disch := first | omega | (simp only [lens, hc_len, hr_len, trs_len, nums_len, List.length_reverse]; first | done | omega)) only [go_sem, Nat.reduceEqDiff, Nat.reduceBEq, Nat.reduceAdd, Nat.reduceMul, Nat.reduceSub, Nat.reduceLeDiff, Int.reduceToNat, Int.reducePow, q0, q5, q6, q8, q9, c0, c1, r1, zc, zc5, bne_self_eq_false]))
        exact ⟨l.length - (i + 1), by omega, i + 1, z', by omega, s5, by simp [c0], by simp⟩
      · obtain rfl : i = l.length := by omega
        rw [List.take_of_length_le (Nat.le_refl _)] at hz
        simp only [e2] at hO2
        have zc2 := slv_cells s2
        have zc3 := slv_cells s3
        have zc4 := slv_cells s4
        unfold cellsOf at zc2 zc3 zc4
        have hXx := fun σ w (h : SlV 32 (hr (l.drop k)) w) => Extend_v σ k (ofR (l.take k)).reverse (l.drop k) z2 w (.of s2) h (by omega) (by rw [hok]; have := pc_le 13 k; omega) (by omega)
        simp only [e3] at hXx
        have hP := fun σ w (h : SlV 32 (hr (l.drop k)) w) => Part_to σ k (l.drop k) w h (by omega) (by omega)
        have pE := (partL_ok (n := k) (l := l.drop k) (by omega)).1
        simp only [pE] at hP
        have hM := fun σ => Merge_v σ k l.length (ofR (l.take k)).reverse (partL k (l.drop k)) z2 (slVal 32 (hr (partL k (l.drop k)))) (.of s2) (slVal_is _ _) (by omega) (by omega) (by rw [hok]; have := pc_le 13 k; omega) (Nat.lt_of_le_of_lt (partL_len (by omega)) (by omega))
        simp only [e4] at hM
        have bnd : (ofR l).reverse.length < 1000000 := by rw [List.length_reverse, ofR_len _ (by omega)]; have := pc_le 13 l.length; omega
        have hs1 := fun σ => rangesSame_to σ l.length l.length _ _ z1 z (.of s1) (.of hz) bnd bnd
        have hs2 := fun σ => rangesSame_to σ l.length l.length _ _ z1 z3 (.of s1) (.of s3) bnd bnd
        have hs3 := fun σ => rangesSame_to σ l.length l.length _ _ z1 z4 (.of s1) (.of s4) bnd bnd
        simp only [and_self, decide_true] at hs1 hs2 hs3
        have hR := fun σ => Root_h σ l.length (ofR l).reverse z1 (.of s1) bnd (by omega)
        have hrt : rootA l.length (ofR l).reverse = .tup [.agg (hc (rootH l)), .int .i64 0] := by
          unfold rootA
          rw [hvt, if_neg (by simp), List.reverse_reverse, ofR_root (l.length + 1) l (by omega)]
        rw [hrt] at hR
        have hT := fun σ => trees_Root_h σ l y (.of hy) (by omega)
        clear hrt e1 e2 e3 e4 hO1 hV hvt
        generalize slVal 32 (hr (partL k (l.drop k))) = pv at *
        rcases hy with ⟨rfl, hnil⟩ | ⟨ex, rfl⟩
        · have hl0 : l = [] := by simpa [hr] using hnil
          subst hl0
          obtain rfl : k = 0 := by simpa using hml
          repeat' (first | refine SWp.seq ?_ | refine SWp.block ?_ | refine SWp.scope ?_ | refine SWp.condT rfl ?_ | refine SWp.condF rfl ?_ | (refine SWp.condD rfl (fun ht => ?_) (fun ht => ?_) <;> try (exfalso; omega)) | ((first | refine SWp.reg ?_ | refine SWp.skip ?_ | refine SWp.exit ?_ | refine SWp.ret ?_ | (apply callW.mk_pu; (first | exact (fun _ => hO2 _ _ (.inl ⟨rfl, rfl⟩)))) | (apply callW.any; (first | exact (hO2 _ _ (.inl ⟨rfl, rfl⟩)))) | ((first | apply splitG | apply splitGB | apply splitR | apply splitRB | apply splitE | apply splitEB | apply splitC | apply splitCB) <;> intro ht)); all_goals try simp (disch := first | omega | (simp only [lens, hc_len, hr_len, trs_len, nums_len, List.length_reverse]; first | done | omega)) only [go_sem, Nat.reduceEqDiff, Nat.reduceBEq, Nat.reduceAdd, Nat.reduceMul, Nat.reduceSub, Nat.reduceLeDiff, Int.reduceToNat, Int.reducePow, q0, q5, q6, q8, q9, c0, c1, r1, hml, ld, zc1, zc2, zc3, zc4, zc, imp_self, if_true, bne_self_eq_false]))
          refine SWp.reg2 ?_ ?_
          · simp (disch := first | omega | (simp only [lens, hc_len, hr_len, trs_len, nums_len, List.length_reverse]; first | done | omega)) only [go_sem, Nat.reduceEqDiff, Nat.reduceBEq, Nat.reduceAdd, Nat.reduceMul, Nat.reduceSub, Nat.reduceLeDiff, Int.reduceToNat, Int.reducePow, q0, q5, q6, q8, q9, c0, c1, r1, hml, ld, zc1, zc2, zc3, zc4, zc, imp_self, if_true]
            repeat' (first | refine SWp.seq ?_ | refine SWp.block ?_ | refine SWp.scope ?_ | refine SWp.condT rfl ?_ | refine SWp.condF rfl ?_ | (refine SWp.condD rfl (fun ht => ?_) (fun ht => ?_) <;> try (exfalso; omega)) | ((first | refine SWp.reg ?_ | refine SWp.skip ?_ | refine SWp.exit ?_ | refine SWp.ret ?_ | (apply callW.mk_pu; (first | exact (fun _ => hXx _ _ (.inl ⟨rfl, rfl⟩)) | exact (fun _ => hP _ _ (.inl ⟨rfl, rfl⟩)) | exact (fun _ => hM _) | exact (fun _ => hs1 _) | exact (fun _ => hs2 _) | exact (fun _ => hs3 _) | exact (fun _ => hR _) | exact (fun _ => hT _) | exact (fun _ => ranged_to _))) | (apply callW.any; (first | exact (hXx _ _ (.inl ⟨rfl, rfl⟩)) | exact (hP _ _ (.inl ⟨rfl, rfl⟩)) | exact (hM _) | exact (hs1 _) | exact (hs2 _) | exact (hs3 _) | exact (hR _) | exact (hT _) | exact (ranged_to _))) | ((first | apply splitG | apply splitGB | apply splitR | apply splitRB | apply splitE | apply splitEB | apply splitC | apply splitCB) <;> intro ht)); all_goals try simp (disch := first | omega | (simp only [lens, hc_len, hr_len, trs_len, nums_len, List.length_reverse]; first | done | omega)) only [go_sem, Nat.reduceEqDiff, Nat.reduceBEq, Nat.reduceAdd, Nat.reduceMul, Nat.reduceSub, Nat.reduceLeDiff, Int.reduceToNat, Int.reducePow, q0, q5, q6, q8, q9, c0, c1, r1, hml, ld, zc1, zc2, zc3, zc4, zc, imp_self, if_true, bne_self_eq_false]))
            exact DownV.pure (τ := []) hw (rlB_ok _ rfl)
          · simp (disch := first | omega | (simp only [lens, hc_len, hr_len, trs_len, nums_len, List.length_reverse]; first | done | omega)) only [go_sem, Nat.reduceEqDiff, Nat.reduceBEq, Nat.reduceAdd, Nat.reduceMul, Nat.reduceSub, Nat.reduceLeDiff, Int.reduceToNat, Int.reducePow, q0, q5, q6, q8, q9, c0, c1, r1, hml, ld, zc1, zc2, zc3, zc4, zc, imp_self, if_true]
            repeat' (first | refine SWp.seq ?_ | refine SWp.block ?_ | refine SWp.scope ?_ | refine SWp.condT rfl ?_ | refine SWp.condF rfl ?_ | (refine SWp.condD rfl (fun ht => ?_) (fun ht => ?_) <;> try (exfalso; omega)) | ((first | refine SWp.reg ?_ | refine SWp.skip ?_ | refine SWp.exit ?_ | refine SWp.ret ?_ | (apply callW.mk_pu; (first | exact (fun _ => hXx _ _ (.inl ⟨rfl, rfl⟩)) | exact (fun _ => hP _ _ (.inl ⟨rfl, rfl⟩)) | exact (fun _ => hM _) | exact (fun _ => hs1 _) | exact (fun _ => hs2 _) | exact (fun _ => hs3 _) | exact (fun _ => hR _) | exact (fun _ => hT _) | exact (fun _ => ranged_to _))) | (apply callW.any; (first | exact (hXx _ _ (.inl ⟨rfl, rfl⟩)) | exact (hP _ _ (.inl ⟨rfl, rfl⟩)) | exact (hM _) | exact (hs1 _) | exact (hs2 _) | exact (hs3 _) | exact (hR _) | exact (hT _) | exact (ranged_to _))) | ((first | apply splitG | apply splitGB | apply splitR | apply splitRB | apply splitE | apply splitEB | apply splitC | apply splitCB) <;> intro ht)); all_goals try simp (disch := first | omega | (simp only [lens, hc_len, hr_len, trs_len, nums_len, List.length_reverse]; first | done | omega)) only [go_sem, Nat.reduceEqDiff, Nat.reduceBEq, Nat.reduceAdd, Nat.reduceMul, Nat.reduceSub, Nat.reduceLeDiff, Int.reduceToNat, Int.reducePow, q0, q5, q6, q8, q9, c0, c1, r1, hml, ld, zc1, zc2, zc3, zc4, zc, imp_self, if_true, bne_self_eq_false]))
            exact DownV.pure (τ := []) hw (rlB_ok _ rfl)
        · repeat' (first | refine SWp.seq ?_ | refine SWp.block ?_ | refine SWp.scope ?_ | refine SWp.condT rfl ?_ | refine SWp.condF rfl ?_ | (refine SWp.condD rfl (fun ht => ?_) (fun ht => ?_) <;> try (exfalso; omega)) | ((first | refine SWp.reg ?_ | refine SWp.skip ?_ | refine SWp.exit ?_ | refine SWp.ret ?_ | (apply callW.mk_pu; (first | exact (fun _ => hO2 _ _ (.inr ⟨_, rfl⟩)))) | (apply callW.any; (first | exact (hO2 _ _ (.inr ⟨_, rfl⟩)))) | ((first | apply splitG | apply splitGB | apply splitR | apply splitRB | apply splitE | apply splitEB | apply splitC | apply splitCB) <;> intro ht)); all_goals try simp (disch := first | omega | (simp only [lens, hc_len, hr_len, trs_len, nums_len, List.length_reverse]; first | done | omega)) only [go_sem, Nat.reduceEqDiff, Nat.reduceBEq, Nat.reduceAdd, Nat.reduceMul, Nat.reduceSub, Nat.reduceLeDiff, Int.reduceToNat, Int.reducePow, q0, q5, q6, q8, q9, c0, c1, r1, hml, ld, zc1, zc2, zc3, zc4, zc, bne_self_eq_false]))
          refine SWp.reg2 ?_ ?_
          · simp (disch := first | omega | (simp only [lens, hc_len, hr_len, trs_len, nums_len, List.length_reverse]; first | done | omega)) only [go_sem, Nat.reduceEqDiff, Nat.reduceBEq, Nat.reduceAdd, Nat.reduceMul, Nat.reduceSub, Nat.reduceLeDiff, Int.reduceToNat, Int.reducePow, q0, q5, q6, q8, q9, c0, c1, r1, hml, ld, zc1, zc2, zc3, zc4, zc]
            repeat' (first | refine SWp.seq ?_ | refine SWp.block ?_ | refine SWp.scope ?_ | refine SWp.condT rfl ?_ | refine SWp.condF rfl ?_ | (refine SWp.condD rfl (fun ht => ?_) (fun ht => ?_) <;> try (exfalso; omega)) | ((first | refine SWp.reg ?_ | refine SWp.skip ?_ | refine SWp.exit ?_ | refine SWp.ret ?_ | (apply callW.mk_pu; (first | exact (fun _ => hXx _ _ (.inr ⟨_, rfl⟩)) | exact (fun _ => hP _ _ (.inr ⟨_, rfl⟩)) | exact (fun _ => hM _) | exact (fun _ => hs1 _) | exact (fun _ => hs2 _) | exact (fun _ => hs3 _) | exact (fun _ => hR _) | exact (fun _ => hT _) | exact (fun _ => ranged_to _))) | (apply callW.any; (first | exact (hXx _ _ (.inr ⟨_, rfl⟩)) | exact (hP _ _ (.inr ⟨_, rfl⟩)) | exact (hM _) | exact (hs1 _) | exact (hs2 _) | exact (hs3 _) | exact (hR _) | exact (hT _) | exact (ranged_to _))) | ((first | apply splitG | apply splitGB | apply splitR | apply splitRB | apply splitE | apply splitEB | apply splitC | apply splitCB) <;> intro ht)); all_goals try simp (disch := first | omega | (simp only [lens, hc_len, hr_len, trs_len, nums_len, List.length_reverse]; first | done | omega)) only [go_sem, Nat.reduceEqDiff, Nat.reduceBEq, Nat.reduceAdd, Nat.reduceMul, Nat.reduceSub, Nat.reduceLeDiff, Int.reduceToNat, Int.reducePow, q0, q5, q6, q8, q9, c0, c1, r1, hml, ld, zc1, zc2, zc3, zc4, zc, bne_self_eq_false]))
            exact DownV.pure (τ := []) hw (rlB_ok _ rfl)
          · simp (disch := first | omega | (simp only [lens, hc_len, hr_len, trs_len, nums_len, List.length_reverse]; first | done | omega)) only [go_sem, Nat.reduceEqDiff, Nat.reduceBEq, Nat.reduceAdd, Nat.reduceMul, Nat.reduceSub, Nat.reduceLeDiff, Int.reduceToNat, Int.reducePow, q0, q5, q6, q8, q9, c0, c1, r1, hml, ld, zc1, zc2, zc3, zc4, zc]
            repeat' (first | refine SWp.seq ?_ | refine SWp.block ?_ | refine SWp.scope ?_ | refine SWp.condT rfl ?_ | refine SWp.condF rfl ?_ | (refine SWp.condD rfl (fun ht => ?_) (fun ht => ?_) <;> try (exfalso; omega)) | ((first | refine SWp.reg ?_ | refine SWp.skip ?_ | refine SWp.exit ?_ | refine SWp.ret ?_ | (apply callW.mk_pu; (first | exact (fun _ => hXx _ _ (.inr ⟨_, rfl⟩)) | exact (fun _ => hP _ _ (.inr ⟨_, rfl⟩)) | exact (fun _ => hM _) | exact (fun _ => hs1 _) | exact (fun _ => hs2 _) | exact (fun _ => hs3 _) | exact (fun _ => hR _) | exact (fun _ => hT _) | exact (fun _ => ranged_to _))) | (apply callW.any; (first | exact (hXx _ _ (.inr ⟨_, rfl⟩)) | exact (hP _ _ (.inr ⟨_, rfl⟩)) | exact (hM _) | exact (hs1 _) | exact (hs2 _) | exact (hs3 _) | exact (hR _) | exact (hT _) | exact (ranged_to _))) | ((first | apply splitG | apply splitGB | apply splitR | apply splitRB | apply splitE | apply splitEB | apply splitC | apply splitCB) <;> intro ht)); all_goals try simp (disch := first | omega | (simp only [lens, hc_len, hr_len, trs_len, nums_len, List.length_reverse]; first | done | omega)) only [go_sem, Nat.reduceEqDiff, Nat.reduceBEq, Nat.reduceAdd, Nat.reduceMul, Nat.reduceSub, Nat.reduceLeDiff, Int.reduceToNat, Int.reducePow, q0, q5, q6, q8, q9, c0, c1, r1, hml, ld, zc1, zc2, zc3, zc4, zc, bne_self_eq_false]))
            exact DownV.pure (τ := []) hw (rlB_ok _ rfl)
  · have hl' : (l.length : Int) > 80 := by omega
    repeat' (first | refine SWp.seq ?_ | refine SWp.block ?_ | refine SWp.scope ?_ | refine SWp.condT rfl ?_ | refine SWp.condF rfl ?_ | (refine SWp.condD rfl (fun ht => ?_) (fun ht => ?_) <;> try (exfalso; omega)) | ((first | refine SWp.reg ?_ | refine SWp.skip ?_ | refine SWp.exit ?_ | refine SWp.ret ?_ | (apply callW.mk_pu; (first | exact (fun _ => ranged_to _))) | (apply callW.any; (first | exact (ranged_to _))) | ((first | apply splitG | apply splitGB | apply splitR | apply splitRB | apply splitE | apply splitEB | apply splitC | apply splitCB) <;> intro ht)); all_goals try simp (disch := first | omega | (simp only [lens, hc_len, hr_len, trs_len, nums_len, List.length_reverse]; first | done | omega)) only [go_sem, Nat.reduceEqDiff, Nat.reduceBEq, Nat.reduceAdd, Nat.reduceMul, Nat.reduceSub, Nat.reduceLeDiff, Int.reduceToNat, Int.reducePow, r1, hl']))
    exact DownV.pure (τ := []) hw (rlB_ok _ rfl)
theorem RangesSame_law (avs : List AV) (h : ShAll [.sl 32 hashTy, .int .u8] avs) : ACallsTo TC 4 avs [] (.bool true) [] := by
  simp only [ShAll] at h
  obtain ⟨_, _, rfl, h1, _, _, rfl, h2, rfl⟩ := h
  obtain ⟨l, k1, k2⟩ := hsl_h h1
  obtain ⟨n, rfl, n1⟩ := u8_of h2
  exact RangesSame_to l _ k1 n n1
end Am
end Go.Proofs.YthgcooppjhcgcaaDoor
end
section
set_option linter.unusedSimpArgs false
set_option linter.unusedVariables false
/- What a law with the laid tables of sha begins with. -/
namespace Go.Proofs.YthgcooppjhcgcaaDoor.LawDoor
open Go.ChangeShapes Go.WideShapes Go.ChangeAt Go.RowKit
theorem own : ownKnob Tryd.prog.godebug = none := by kernel_rfl
theorem laidOut : laidOutB Tryd.prog = true := by kernel_rfl
def laidS : List (String × DataW Unit) := [("speculum/sha.first", Rows.laid_speculum_sha_first), ("speculum/sha.rounds", Rows.laid_speculum_sha_rounds)]
set_option maxRecDepth 100000
/-- The door's own heap meets the condition. -/
theorem door_met (os : Os) (args : Array Value) : laidMetH Tryd.prog laidS ((World.doorLaid Tryd.prog 400 os).forCall (fun _ _ => 0) ⟨#[], args, []⟩).memory :=
  laidMetH_of_parts3 (fuel := 8) (laidMet_of_run' 8 (by kernel_rfl) (by kernel_rfl)) (by kernel_rfl) (by kernel_rfl)
/-- What the condition gives the walks: the tables, as_ the machine knows them. -/
theorem rel_of {W : World} (h : laidMetH Tryd.prog laidS W) : Am.Rel Am.TC [] [] W := by
  rw [MakeChecks.laidMetH_plain _ _ _ (by kernel_rfl)] at h
  obtain ⟨ps, ⟨g0, t0, cs0, f0, p0, q0, hg0, ht0, hv0, hd0, ⟨g1, t1, cs1, f1, p1, q1, hg1, ht1, hv1, hd1, _, _⟩, _⟩, _, _⟩ := h
  have v0 := Am.vp_of_var (P := Tryd.prog) (n := "speculum/sha.first") (g := 0) (t := 179) (e := 177) (m := 8) (k := .u32) Am.shaFirst (by kernel_rfl) (by kernel_rfl) (by kernel_rfl) (by kernel_rfl) (by kernel_rfl) (by kernel_rfl) hg0 ht0 hv0 hd0
  have v1 := Am.vp_of_var (P := Tryd.prog) (n := "speculum/sha.rounds") (g := 1) (t := 178) (e := 177) (m := 64) (k := .u32) Am.shaRounds (by kernel_rfl) (by kernel_rfl) (by kernel_rfl) (by kernel_rfl) (by kernel_rfl) (by kernel_rfl) hg1 ht1 hv1 hd1
  refine ⟨rfl, fun r o h => by simp at h, fun r h => by simp at h, fun r r' pl pl' h => by simp at h, fun g cs h => ?_⟩
  simp only [Am.TC] at h
  split at h
  · rename_i hg; subst hg; cases h; exact v0
  · split at h
    · rename_i hg; subst hg; cases h; exact v1
    · cases h
end Go.Proofs.YthgcooppjhcgcaaDoor.LawDoor
end
