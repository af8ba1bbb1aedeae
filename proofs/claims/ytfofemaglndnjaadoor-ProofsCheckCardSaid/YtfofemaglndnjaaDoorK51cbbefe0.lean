import Derived.Test.YtfofemaglndnjaaDoorK3479c6a61
import Derived.Test.YtfofemaglndnjaaDoorRows
import Derived.Test.YtfofemaglndnjaaDoorCards
import Derived.Test.YtfofemaglndnjaaDoorTie
import Derived.Test.YtfofemaglndnjaaDoorK25d2d41ae
import Derived.ProofKit
import Derived.LaidMore
import Derived.OpenShut
import Derived.Stop.Joined
import Derived.SevenTiedAt
import Derived.MakeChecks
import Derived.Test.YtfofemaglndnjaaDoorK4d504d59e
section
set_option linter.unusedSimpArgs false
set_option linter.unusedVariables false
/- What a law with the laid tables of sha begins with. -/
namespace Go.Proofs.YtfofemaglndnjaaDoor.LawDoor
open Go.ChangeShapes Go.WideShapes Go.ChangeAt Go.RowKit
theorem own : ownKnob Tryd.prog.godebug = none := by kernel_rfl
theorem laidOut : laidOutB Tryd.prog = true := by kernel_rfl
def laidS : List (String × DataW Unit) := [("speculum/sha.first", Rows.laid_speculum_sha_first), ("speculum/sha.rounds", Rows.laid_speculum_sha_rounds)]
set_option maxRecDepth 100000
/-- The door's own heap meets the condition. -/
theorem door_met (os : Os) (args : Array Value) : laidMetH Tryd.prog laidS ((World.doorLaid Tryd.prog 400 os).forCall (fun _ _ => 0) ⟨#[], args, []⟩).memory :=
  laidMetH_of_parts3 (fuel := 8) (laidMet_of_run' 8 (by kernel_rfl) (by kernel_rfl)) (by kernel_rfl) (by kernel_rfl)
/-- What the condition gives the walks: the tables, as_ the machine knows them. -/
theorem rel_of {W : World} (h : laidMetH Tryd.prog laidS W) : Am.Rel Am.TC [] [] W := by
  rw [MakeChecks.laidMetH_plain _ _ _ (by kernel_rfl)] at h
  obtain ⟨ps, ⟨g0, t0, cs0, f0, p0, q0, hg0, ht0, hv0, hd0, ⟨g1, t1, cs1, f1, p1, q1, hg1, ht1, hv1, hd1, _, _⟩, _⟩, _, _⟩ := h
  have v0 := Am.vp_of_var (P := Tryd.prog) (n := "speculum/sha.first") (g := 0) (t := 140) (e := 138) (m := 8) (k := .u32) Am.shaFirst (by kernel_rfl) (by kernel_rfl) (by kernel_rfl) (by kernel_rfl) (by kernel_rfl) (by kernel_rfl) hg0 ht0 hv0 hd0
  have v1 := Am.vp_of_var (P := Tryd.prog) (n := "speculum/sha.rounds") (g := 1) (t := 139) (e := 138) (m := 64) (k := .u32) Am.shaRounds (by kernel_rfl) (by kernel_rfl) (by kernel_rfl) (by kernel_rfl) (by kernel_rfl) (by kernel_rfl) hg1 ht1 hv1 hd1
  refine ⟨rfl, fun r o h => by simp at h, fun r h => by simp at h, fun r r' pl pl' h => by simp at h, fun g cs h => ?_⟩
  simp only [Am.TC] at h
  split at h
  · rename_i hg; subst hg; cases h; exact v0
  · split at h
    · rename_i hg; subst hg; cases h; exact v1
    · cases h
end Go.Proofs.YtfofemaglndnjaaDoor.LawDoor
end
section
set_option linter.unusedSimpArgs false
set_option linter.unusedVariables false
/- Proofs: plain laws: a proof that Proof gives is checked; one of another length is not. -/
set_option linter.unusedSimpArgs false
set_option linter.unusedVariables false
namespace Go.Proofs.YtfofemaglndnjaaDoor
namespace Am
theorem pow_odd (j : Nat) : (2 ^ (j + 1) - 1) / 2 = 2 ^ j - 1 ∧ (2 ^ (j + 1) - 1) % 2 = 1 := by
  have := Nat.pow_succ (n := 2) (m := j)
  have h2 : 0 < 2 ^ j := Nat.pow_pos (by decide)
  omega
theorem lp_left : ∀ (j i last : Nat), i < 2 ^ j → 2 ^ j ≤ last → last < 2 ^ (j + 1) → lp i last = lp i (2 ^ j - 1) ++ [false]
  | 0, i, last, h1, h2, h3 => by
    simp at h1 h2 h3
    obtain rfl : i = 0 := by omega
    obtain rfl : last = 1 := by omega
    rw [lp_ne (by decide) (by decide) (by decide), show (1 : Nat) / 2 = 0 from rfl, show 2 ^ 0 - 1 = 0 from rfl, lp_zero]
    rfl
  | j + 1, i, last, h1, h2, h3 => by
    have e1 := Nat.pow_succ (n := 2) (m := j)
    have e2 := Nat.pow_succ (n := 2) (m := j + 1)
    have hp : 0 < 2 ^ j := Nat.pow_pos (by decide)
    obtain ⟨o1, o2⟩ := pow_odd j
    have ih := lp_left j (i / 2) (last / 2) (by omega) (by omega) (by omega)
    by_cases h : i % 2 = 1
    · rw [lp_odd h (by omega), lp_odd h (by omega), o1, ih]; rfl
    · rw [lp_ne h (by omega) (by omega), lp_ne h (by omega) (by omega), o1, ih]; rfl
theorem lp_right : ∀ (j i last : Nat), i ≤ last → last < 2 ^ j → lp (2 ^ j + i) (2 ^ j + last) = lp i last ++ [true]
  | 0, i, last, h1, h2 => by
    simp at h2
    subst h2
    obtain rfl : i = 0 := by omega
    rw [show 2 ^ 0 + 0 = 1 from rfl, lp_odd (by decide) (by decide), show (1 : Nat) / 2 = 0 from rfl, lp_zero]
    rfl
  | j + 1, i, last, h1, h2 => by
    have e1 := Nat.pow_succ (n := 2) (m := j)
    have hp : 0 < 2 ^ j := Nat.pow_pos (by decide)
    have ih := lp_right j (i / 2) (last / 2) (by omega) (by omega)
    have d1 : (2 ^ (j + 1) + i) / 2 = 2 ^ j + i / 2 := by omega
    have d2 : (2 ^ (j + 1) + last) / 2 = 2 ^ j + last / 2 := by omega
    by_cases h : i % 2 = 1
    · rw [lp_odd (i := 2 ^ (j + 1) + i) (by omega) (by omega), lp_odd h (by omega), d1, d2, ih]; rfl
    · by_cases he : i = last
      · subst he
        rw [lp_eq (i := 2 ^ (j + 1) + i) (by omega), lp_eq h, d1, ih]
      · rw [lp_ne (i := 2 ^ (j + 1) + i) (by omega) (by omega) (by omega), lp_ne h (by omega) he, d1, d2, ih]; rfl
def pathS (i last : Nat) : List Bool := lp (st i last).1 (st i last).2
theorem st_first : ∀ (f i last last' : Nat), i < f → (st i last).1 = (st i last').1
  | 0, _, _, _, h => by omega
  | f + 1, i, last, last', h => by
    by_cases h1 : i % 2 = 1
    · rw [st_odd h1, st_odd h1]; exact st_first f (i / 2) _ _ (by omega)
    · rw [st_even h1, st_even h1]
theorem path_left : ∀ (j i last : Nat), i < 2 ^ j → 2 ^ j ≤ last → last < 2 ^ (j + 1) → pathS i last = pathS i (2 ^ j - 1) ++ [false]
  | 0, i, last, h1, h2, h3 => by
    have h1' := h1
    simp at h1
    unfold pathS
    rw [st_even (by omega), st_even (by omega)]
    exact lp_left 0 i last h1' h2 h3
  | j + 1, i, last, h1, h2, h3 => by
    have e1 := Nat.pow_succ (n := 2) (m := j)
    have e2 := Nat.pow_succ (n := 2) (m := j + 1)
    have hp : 0 < 2 ^ j := Nat.pow_pos (by decide)
    obtain ⟨o1, o2⟩ := pow_odd j
    by_cases h : i % 2 = 1
    · have ih := path_left j (i / 2) (last / 2) (by omega) (by omega) (by omega)
      unfold pathS at ih ⊢
      rw [st_odd h, st_odd h, o1]; exact ih
    · unfold pathS
      rw [st_even h, st_even h]
      exact lp_left (j + 1) i last h1 h2 h3
theorem st_right : ∀ (j i last : Nat), i < last → last < 2 ^ j → ∃ k, st (2 ^ j + i) (2 ^ j + last) = (2 ^ k + (st i last).1, 2 ^ k + (st i last).2) ∧ (st i last).1 ≤ (st i last).2 ∧ (st i last).2 < 2 ^ k
  | 0, i, last, h1, h2 => by simp at h2; omega
  | j + 1, i, last, h1, h2 => by
    have e1 := Nat.pow_succ (n := 2) (m := j)
    have hp : 0 < 2 ^ j := Nat.pow_pos (by decide)
    by_cases h : i % 2 = 1
    · have ih := st_right j (i / 2) (last / 2) (by omega) (by omega)
      rw [st_odd h, st_odd (i := 2 ^ (j + 1) + i) (by omega), show (2 ^ (j + 1) + i) / 2 = 2 ^ j + i / 2 by omega, show (2 ^ (j + 1) + last) / 2 = 2 ^ j + last / 2 by omega]
      exact ih
    · rw [st_even h, st_even (i := 2 ^ (j + 1) + i) (by omega)]
      exact ⟨j + 1, rfl, by omega, h2⟩
theorem path_right {j i last : Nat} (h1 : i < last) (h2 : last < 2 ^ j) : pathS (2 ^ j + i) (2 ^ j + last) = pathS i last ++ [true] ∧ 0 < (st (2 ^ j + i) (2 ^ j + last)).1 := by
  obtain ⟨k, e, h3, h4⟩ := st_right j i last h1 h2
  unfold pathS
  rw [e]
  have hp : 0 < 2 ^ k := Nat.pow_pos (by decide)
  exact ⟨lp_right k _ _ h3 h4, by omega⟩
theorem st_full : ∀ (j : Nat), st (2 ^ j - 1) (2 ^ j - 1) = (0, 0)
  | 0 => by rw [st_even (by decide)]
  | j + 1 => by
    obtain ⟨o1, o2⟩ := pow_odd j
    rw [st_odd o2, o1]; exact st_full j
theorem run_snoc (t : Bool) (h : List UInt8) : ∀ (p : List Bool) (ps : List (List UInt8)) (a b : List UInt8), run (p ++ [t]) (ps ++ [h]) a b = (run p ps a b).map fun x => if t then (nodeS h x.1, nodeS h x.2) else (x.1, nodeS x.2 h)
  | [], [], a, b => by cases t <;> rfl
  | [], y :: ps, a, b => by
    have : ∀ a b, run [] (ps ++ [h]) a b = none := fun a b => by cases ps <;> rfl
    cases t <;> simp [run, this]
  | x :: p, [], a, b => by
    have : ∀ a b, run (p ++ [t]) [] a b = none := fun a b => by cases p <;> cases t <;> simp [run]
    cases x <;> simp [run, this]
  | x :: p, y :: ps, a, b => by
    have ih := run_snoc t h p ps
    cases x <;> simp [run, ih]
/-- With the first one given, or the older root. -/
def runB (u : Bool) (p : List Bool) (ps : List (List UInt8)) (o : List UInt8) : Option (List UInt8 × List UInt8) :=
  if u then match ps with
    | [] => none
    | h :: ps => run p ps h h
  else run p ps o o
theorem chkG_is (i last : Nat) (o : List UInt8) (ps : List (List UInt8)) : chkG i last o ps = runB (decide (0 < i)) (lp i last) ps o := by
  unfold chkG runB
  by_cases h : 0 < i <;> simp [h] <;> cases ps <;> rfl
theorem runB_snoc (u t : Bool) (h : List UInt8) (p : List Bool) (ps : List (List UInt8)) (o : List UInt8) :
    runB u (p ++ [t]) (ps ++ [h]) o = (runB u p ps o).map fun x => if t then (nodeS h x.1, nodeS h x.2) else (x.1, nodeS x.2 h) := by
  unfold runB
  cases u with
  | false => exact run_snoc t h p ps o o
  | true =>
    cases ps with
    | nil =>
      have : run (p ++ [t]) [] h h = none := by cases p <;> cases t <;> simp [run]
      simp [this]
    | cons y ps => exact run_snoc t h p ps y y
theorem split_pow {n : Nat} (h : 2 ≤ n) : ∃ j, splitS n = 2 ^ j ∧ 2 ^ j < n ∧ n ≤ 2 ^ (j + 1) := by
  obtain ⟨s1, s2, s3⟩ := split_spec h
  refine ⟨Nat.log2 (n - 1), ?_, ?_, ?_⟩
  · unfold splitS; rw [if_neg (by omega)]
  · have : splitS n = 2 ^ Nat.log2 (n - 1) := by unfold splitS; rw [if_neg (by omega)]
    omega
  · have : splitS n = 2 ^ Nat.log2 (n - 1) := by unfold splitS; rw [if_neg (by omega)]
    have e := Nat.pow_succ (n := 2) (m := Nat.log2 (n - 1))
    omega
/-- What Proof gives says the two roots. -/
theorem honest : ∀ (f : Nat) (l : List (List UInt8)) (m : Nat) (kn : Bool) (o : List UInt8), l.length < f → 0 < m → m ≤ l.length → (m < l.length ∨ ∃ j, l.length = 2 ^ j) → (kn = true → o = rootS (l.take m)) →
    runB (!kn || decide (0 < (st (m - 1) (l.length - 1)).1)) (pathS (m - 1) (l.length - 1)) (subS l m kn) o = some (rootS (l.take m), rootS l)
  | 0, _, _, _, _, h, _, _, _, _ => by omega
  | f + 1, l, m, kn, o, hf, h0, hm, hc, ho => by
    by_cases h1 : m = l.length
    · obtain ⟨j, hj⟩ := hc.resolve_left (by omega)
      subst h1
      have e : st (l.length - 1) (l.length - 1) = (0, 0) := by rw [hj]; exact st_full j
      unfold pathS
      rw [e, subS_all, List.take_of_length_le (Nat.le_refl _)]
      simp only [lp_zero]
      rw [List.take_of_length_le (Nat.le_refl _)] at ho
      cases kn with
      | true => rw [ho rfl]; rfl
      | false => rfl
    · obtain ⟨j, hk, k1, k2⟩ := split_pow (n := l.length) (by omega)
      have e2 := Nat.pow_succ (n := 2) (m := j)
      have hp : 0 < 2 ^ j := Nat.pow_pos (by decide)
      have hR : rootS l = nodeS (rootS (l.take (2 ^ j))) (rootS (l.drop (2 ^ j))) := by rw [rootS_two (by omega), hk]
      by_cases h2 : m ≤ 2 ^ j
      · have hs := subS_left (l := l) (m := m) (kn := kn) h0 (by omega) (by rw [hk]; exact h2)
        rw [hk] at hs
        have hl : (l.take (2 ^ j)).length = 2 ^ j := by rw [List.length_take]; omega
        have et : (l.take (2 ^ j)).take m = l.take m := by rw [List.take_take, Nat.min_eq_left h2]
        have ih := honest f (l.take (2 ^ j)) m kn o (by omega) h0 (by omega) (.inr ⟨j, hl⟩) (by rw [et]; exact ho)
        rw [hl, et] at ih
        rw [hs, path_left j (m - 1) (l.length - 1) (by omega) (by omega) (by omega), runB_snoc, st_first m (m - 1) (l.length - 1) (2 ^ j - 1) (by omega), ih, hR]
        rfl
      · have hs := subS_right (l := l) (m := m) (kn := kn) (by omega) (by rw [hk]; exact h2)
        rw [hk] at hs
        have hl : (l.drop (2 ^ j)).length = l.length - 2 ^ j := by rw [List.length_drop]
        have ih := honest f (l.drop (2 ^ j)) (m - 2 ^ j) false o (by omega) (by omega) (by omega) (.inl (by omega)) (by intro h; cases h)
        rw [hl] at ih
        obtain ⟨p1, p2⟩ := path_right (j := j) (i := m - 2 ^ j - 1) (last := l.length - 2 ^ j - 1) (by omega) (by omega)
        rw [show 2 ^ j + (m - 2 ^ j - 1) = m - 1 by omega, show 2 ^ j + (l.length - 2 ^ j - 1) = l.length - 1 by omega] at p1 p2
        have hRm : rootS (l.take m) = nodeS (rootS (l.take (2 ^ j))) (rootS ((l.drop (2 ^ j)).take (m - 2 ^ j))) := by
          have hlm : (l.take m).length = m := by rw [List.length_take]; omega
          rw [rootS_two (by omega), hlm, split_uniq (n := m) (j := j) (by omega) (by omega), List.take_take, Nat.min_eq_left (by omega), List.drop_take]
        rw [hs, p1, runB_snoc, decide_eq_true p2, Bool.or_true]
        simp only [Bool.not_false, Bool.true_or] at ih
        rw [ih, hR, hRm]
        rfl
theorem chkS_is (i last : Nat) (o : List UInt8) (ps : List (List UInt8)) : chkS i last o ps = runB (decide (0 < (st i last).1)) (pathS i last) ps o := chkG_is _ _ _ _
theorem honest_chk {l : List (List UInt8)} {m : Nat} (hm : m ≤ l.length) (hl : l.length ≤ 4096) : chkI m l.length (rootS (l.take m)) (rootS l) (proofL l m) = 0 := by
  unfold chkI
  rw [if_neg (by omega)]
  by_cases h0 : m = 0
  · subst h0
    rw [if_pos (show ((0 : Nat) : Int) = 0 from rfl), if_pos]
    refine ⟨by unfold proofL; rw [if_neg (by simp)], by simp, ?_⟩
    cases l with
    | nil => exact .inr rfl
    | cons a l => exact .inl (by simp only [List.length_cons]; omega)
  · rw [if_neg (by omega)]
    by_cases h1 : m = l.length
    · subst h1
      rw [if_pos rfl, if_pos]
      exact ⟨by unfold proofL; rw [if_neg (by omega)], by rw [List.take_of_length_le (Nat.le_refl _)]⟩
    · rw [if_neg (by omega)]
      have e : proofL l m = subS l m true := by unfold proofL; rw [if_pos (by omega)]; rfl
      have := honest (l.length + 1) l m true (rootS (l.take m)) (by omega) (by omega) hm (.inl (by omega)) (fun _ => rfl)
      simp only [Bool.not_true, Bool.false_or] at this
      rw [e, Int.toNat_natCast, Int.toNat_natCast, chkS_is, this]
      simp [fitI]
end Am
end Go.Proofs.YtfofemaglndnjaaDoor
end
section
set_option linter.unusedSimpArgs false
set_option linter.unusedVariables false
/- Proofs: the law ProofsBack: its contract. -/
set_option linter.unusedSimpArgs false
set_option linter.unusedVariables false
namespace Go.Proofs.YtfofemaglndnjaaDoor
namespace Am
end Am
end Go.Proofs.YtfofemaglndnjaaDoor
end
section
set_option linter.unusedSimpArgs false
set_option linter.unusedVariables false
/- Proofs: plain laws: what the reference says of a proof is what the program's loop says. -/
set_option linter.unusedSimpArgs false
set_option linter.unusedVariables false
namespace Go.Proofs.YtfofemaglndnjaaDoor
namespace Am
def saysF : Nat → Nat → Nat → Bool → List UInt8 → List (List UInt8) → List UInt8 × List UInt8 × Bool
  | 0, _, _, _, o, _ => (o, o, false)
  | f + 1, m, n, kn, o, ps =>
    if m = n then (if kn then (o, o, ps.isEmpty) else match ps with
      | [x] => (x, x, true)
      | _ => (o, o, false))
    else match ps.getLast? with
      | none => (o, o, false)
      | some last =>
        if m ≤ splitS n then (let r := saysF f m (splitS n) kn o ps.dropLast; (r.1, nodeS r.2.1 last, r.2.2))
        else (let r := saysF f (m - splitS n) (n - splitS n) false o ps.dropLast; (nodeS last r.1, nodeS last r.2.1, r.2.2))
def okO (r : List UInt8 × List UInt8 × Bool) : Option (List UInt8 × List UInt8) := if r.2.2 then some (r.1, r.2.1) else none
theorem runB_empty {u : Bool} {p : List Bool} {t : Bool} {o : List UInt8} : runB u (p ++ [t]) [] o = none := by
  cases u with
  | true => rfl
  | false =>
    show run (p ++ [t]) [] o o = none
    cases p <;> cases t <;> simp [run]
theorem says_is : ∀ (f m n : Nat) (kn : Bool) (o : List UInt8) (ps : List (List UInt8)), n < f → 0 < m → m ≤ n → (m < n ∨ ∃ j, n = 2 ^ j) →
    okO (saysF f m n kn o ps) = runB (!kn || decide (0 < (st (m - 1) (n - 1)).1)) (pathS (m - 1) (n - 1)) ps o
  | 0, _, _, _, _, _, h, _, _, _ => by omega
  | f + 1, m, n, kn, o, ps, hf, h0, hm, hc => by
    by_cases h1 : m = n
    · obtain ⟨j, hj⟩ := hc.resolve_left (by omega)
      subst h1
      have e : st (m - 1) (m - 1) = (0, 0) := by rw [hj]; exact st_full j
      unfold pathS
      simp only [saysF, if_true, e, lp_zero]
      cases kn with
      | true => cases ps <;> rfl
      | false =>
        match ps with
        | [] => rfl
        | [x] => rfl
        | x :: y :: l => rfl
    · obtain ⟨j, hk, k1, k2⟩ := split_pow (n := n) (by omega)
      have e2 := Nat.pow_succ (n := 2) (m := j)
      have hp : 0 < 2 ^ j := Nat.pow_pos (by decide)
      simp only [saysF, if_neg h1, hk]
      rcases List.eq_nil_or_concat ps with rfl | ⟨rest, last, rfl⟩
      · by_cases h2 : m ≤ 2 ^ j
        · rw [path_left j (m - 1) (n - 1) (by omega) (by omega) (by omega), runB_empty]; rfl
        · obtain ⟨p1, p2⟩ := path_right (j := j) (i := m - 2 ^ j - 1) (last := n - 2 ^ j - 1) (by omega) (by omega)
          rw [show 2 ^ j + (m - 2 ^ j - 1) = m - 1 by omega, show 2 ^ j + (n - 2 ^ j - 1) = n - 1 by omega] at p1 p2
          rw [p1, runB_empty]; rfl
      · rw [List.concat_eq_append, List.getLast?_concat, List.dropLast_concat]
        simp only []
        by_cases h2 : m ≤ 2 ^ j
        · have ih := says_is f m (2 ^ j) kn o rest (by omega) h0 h2 (.inr ⟨j, rfl⟩)
          simp only [if_pos h2]
          rw [path_left j (m - 1) (n - 1) (by omega) (by omega) (by omega), runB_snoc, st_first m (m - 1) (n - 1) (2 ^ j - 1) (by omega), ← ih]
          unfold okO
          cases (saysF f m (2 ^ j) kn o rest).2.2 <;> rfl
        · have ih := says_is f (m - 2 ^ j) (n - 2 ^ j) false o rest (by omega) (by omega) (by omega) (.inl (by omega))
          obtain ⟨p1, p2⟩ := path_right (j := j) (i := m - 2 ^ j - 1) (last := n - 2 ^ j - 1) (by omega) (by omega)
          rw [show 2 ^ j + (m - 2 ^ j - 1) = m - 1 by omega, show 2 ^ j + (n - 2 ^ j - 1) = n - 1 by omega] at p1 p2
          simp only [if_neg h2]
          simp only [Bool.not_false, Bool.true_or] at ih
          rw [p1, runB_snoc, decide_eq_true p2, Bool.or_true, ← ih]
          unfold okO
          cases (saysF f (m - 2 ^ j) (n - 2 ^ j) false o rest).2.2 <;> rfl
end Am
end Go.Proofs.YtfofemaglndnjaaDoor
end
section
set_option linter.unusedSimpArgs false
set_option linter.unusedVariables false
/- Proofs: contract: the reference's says. -/
set_option linter.unusedSimpArgs false
set_option linter.unusedVariables false
namespace Go.Proofs.YtfofemaglndnjaaDoor
namespace Am
def saysH : Nat → Nat → Nat → Bool → Hash → List Hash → Hash × Hash × Bool
  | 0, _, _, _, o, _ => (o, o, false)
  | f + 1, m, n, kn, o, ps =>
    if m = n then (if kn then (o, o, ps.isEmpty) else match ps with
      | [x] => (x, x, true)
      | _ => (o, o, false))
    else match ps.getLast? with
      | none => (o, o, false)
      | some last =>
        if m ≤ splitS n then (let r := saysH f m (splitS n) kn o ps.dropLast; (r.1, nodeH r.2.1 last, r.2.2))
        else (let r := saysH f (m - splitS n) (n - splitS n) false o ps.dropLast; (nodeH last r.1, nodeH last r.2.1, r.2.2))
theorem hb_last (l : List Hash) : (hb l).getLast? = l.getLast?.map (·.1) := List.getLast?_map ..
theorem hb_init (l : List Hash) : (hb l).dropLast = hb l.dropLast := by simp [hb]
theorem saysH_is : ∀ (f m n : Nat) (kn : Bool) (o : Hash) (ps : List Hash), saysF f m n kn o.1 (hb ps) = ((saysH f m n kn o ps).1.1, (saysH f m n kn o ps).2.1.1, (saysH f m n kn o ps).2.2)
  | 0, _, _, _, _, _ => rfl
  | f + 1, m, n, kn, o, ps => by
    simp only [saysF, saysH]
    by_cases h1 : m = n
    · simp only [if_pos h1]
      cases kn with
      | true => cases ps <;> rfl
      | false =>
        match ps with
        | [] => rfl
        | [x] => rfl
        | x :: y :: l => rfl
    · simp only [if_neg h1]
      rw [hb_last, hb_init]
      cases hl : ps.getLast? with
      | none => rfl
      | some last =>
        simp only [Option.map_some]
        by_cases h2 : m ≤ splitS n
        · simp only [if_pos h2]
          rw [saysH_is f]; rfl
        · simp only [if_neg h2]
          rw [saysH_is f]; rfl
def sayV (r : Hash × Hash × Bool) : AV := .tup [.agg (hc r.1), .agg (hc r.2.1), .bool r.2.2]
theorem sayV_down {τ news : Store} (hw : Wf τ.length τ) (a b : Hash) (t : Bool) : DownV τ.length (.tup [.agg (hc a), .agg (hc b), .bool t]) (τ ++ news) (.tup [.agg (hc a), .agg (hc b), .bool t]) τ :=
  DownV.pure hw (by simp only [RL, RLs]; exact ⟨rl_agg (rl_hc _), rl_agg (rl_hc _), trivial, trivial⟩)
set_option maxHeartbeats 8000000 in
theorem says_to : ∀ (f : Nat) (σ : Store) (m n : Nat) (kn : Bool) (o : Hash) (x : AV) (ps : List Hash), n < f → 0 < m → m ≤ n → n ≤ 4096 → SlV 32 (hr ps) x → ps.length < 1000000 →
    ACallsTo TC 66 [.int .i64 m, .int .i64 n, .bool kn, .agg (hc o), x] σ (sayV (saysH f m n kn o ps)) σ := by
  intro f
  induction f with
  | zero => intro σ m n kn o x ps h; omega
  | succ f ih =>
    intro σ m n kn o x ps hf h0 hm hn hx hl
    have r1 := hx.len
    rw [hr_len] at r1
    unfold rLenSl at r1
    unfold sayV
    by_cases h1 : m = n
    · subst h1
      cases kn with
      | true =>
        have e : saysH (f + 1) m m true o ps = (o, o, ps.isEmpty) := by simp [saysH]
        rw [e]
        refine ACallsTo.of_body speculumref07_says_ok (by simp) fun hw _ => ?_
        cases ps with
        | nil =>
          repeat' (first | refine SWp.seq ?_ | refine SWp.block ?_ | refine SWp.scope ?_ | (refine SWp.reg ?_; (simp (disch := first | omega | (simp only [List.length_set, List.length_append, List.length_cons, List.length_nil, List.length_map]; omega)) only [go_sem, Nat.reduceEqDiff, Nat.reduceBEq, Nat.reduceAdd, Nat.reduceMul, Nat.reduceSub, Nat.reduceLeDiff, Int.reduceToNat, Int.reducePow, r1])) | refine SWp.condT rfl ?_ | refine SWp.condF rfl ?_ | (refine SWp.condD rfl (fun ht => ?_) (fun ht => ?_) <;> try (exfalso; omega)) | ((first | refine SWp.skip ?_ | refine SWp.exit ?_ | refine SWp.ret ?_); try (simp (disch := first | omega | (simp only [List.length_set, List.length_append, List.length_cons, List.length_nil, List.length_map]; omega)) only [go_sem, Nat.reduceEqDiff, Nat.reduceBEq, Nat.reduceAdd, Nat.reduceMul, Nat.reduceSub, Nat.reduceLeDiff, Int.reduceToNat, Int.reducePow, r1])) | ((first | refine splitG (fun ht => ?_) (fun ht => ?_) | refine splitGB (fun ht => ?_) (fun ht => ?_) | refine splitR (fun ht => ?_) (fun ht => ?_) | refine splitRB (fun ht => ?_) (fun ht => ?_) | refine splitE (fun ht => ?_) (fun ht => ?_) | refine splitEB (fun ht => ?_) (fun ht => ?_) | refine splitC (fun ht => ?_) (fun ht => ?_) | refine splitCB (fun ht => ?_) (fun ht => ?_)) <;> (simp (disch := first | omega | (simp only [List.length_set, List.length_append, List.length_cons, List.length_nil, List.length_map]; omega)) only [go_sem, Nat.reduceEqDiff, Nat.reduceBEq, Nat.reduceAdd, Nat.reduceMul, Nat.reduceSub, Nat.reduceLeDiff, Int.reduceToNat, Int.reducePow, r1])))
          exact sayV_down hw _ _ _
        | cons y l =>
          have hne : ¬ ((l.length : Int) + 1) = 0 := by omega
          repeat' (first | refine SWp.seq ?_ | refine SWp.block ?_ | refine SWp.scope ?_ | (refine SWp.reg ?_; (simp (disch := first | omega | (simp only [List.length_set, List.length_append, List.length_cons, List.length_nil, List.length_map]; omega)) only [go_sem, Nat.reduceEqDiff, Nat.reduceBEq, Nat.reduceAdd, Nat.reduceMul, Nat.reduceSub, Nat.reduceLeDiff, Int.reduceToNat, Int.reducePow, r1, hne, List.length_cons])) | refine SWp.condT rfl ?_ | refine SWp.condF rfl ?_ | (refine SWp.condD rfl (fun ht => ?_) (fun ht => ?_) <;> try (exfalso; omega)) | ((first | refine SWp.skip ?_ | refine SWp.exit ?_ | refine SWp.ret ?_); try (simp (disch := first | omega | (simp only [List.length_set, List.length_append, List.length_cons, List.length_nil, List.length_map]; omega)) only [go_sem, Nat.reduceEqDiff, Nat.reduceBEq, Nat.reduceAdd, Nat.reduceMul, Nat.reduceSub, Nat.reduceLeDiff, Int.reduceToNat, Int.reducePow, r1, hne, List.length_cons])) | ((first | refine splitG (fun ht => ?_) (fun ht => ?_) | refine splitGB (fun ht => ?_) (fun ht => ?_) | refine splitR (fun ht => ?_) (fun ht => ?_) | refine splitRB (fun ht => ?_) (fun ht => ?_) | refine splitE (fun ht => ?_) (fun ht => ?_) | refine splitEB (fun ht => ?_) (fun ht => ?_) | refine splitC (fun ht => ?_) (fun ht => ?_) | refine splitCB (fun ht => ?_) (fun ht => ?_)) <;> (simp (disch := first | omega | (simp only [List.length_set, List.length_append, List.length_cons, List.length_nil, List.length_map]; omega)) only [go_sem, Nat.reduceEqDiff, Nat.reduceBEq, Nat.reduceAdd, Nat.reduceMul, Nat.reduceSub, Nat.reduceLeDiff, Int.reduceToNat, Int.reducePow, r1, hne, List.length_cons])))
          exact sayV_down hw _ _ _
      | false =>
        match ps, hx, hl, r1 with
        | [y], hx, hl, r1 =>
          obtain ⟨ex, rfl⟩ := hx.vsl (by rw [hr_len]; simp)
          have er : hr [y] = [hc y] := rfl
          rw [er]
          have e : saysH (f + 1) m m false o [y] = (y, y, true) := by simp [saysH]
          rw [e]
          refine ACallsTo.of_body speculumref07_says_ok (by simp) fun hw _ => ?_
          repeat' (first | refine SWp.seq ?_ | refine SWp.block ?_ | refine SWp.scope ?_ | (refine SWp.reg ?_; (simp (disch := first | omega | (simp only [List.length_set, List.length_append, List.length_cons, List.length_nil, List.length_map]; omega)) only [go_sem, Nat.reduceEqDiff, Nat.reduceBEq, Nat.reduceAdd, Nat.reduceMul, Nat.reduceSub, Nat.reduceLeDiff, Int.reduceToNat, Int.reducePow])) | refine SWp.condT rfl ?_ | refine SWp.condF rfl ?_ | (refine SWp.condD rfl (fun ht => ?_) (fun ht => ?_) <;> try (exfalso; omega)) | ((first | refine SWp.skip ?_ | refine SWp.exit ?_ | refine SWp.ret ?_); try (simp (disch := first | omega | (simp only [List.length_set, List.length_append, List.length_cons, List.length_nil, List.length_map]; omega)) only [go_sem, Nat.reduceEqDiff, Nat.reduceBEq, Nat.reduceAdd, Nat.reduceMul, Nat.reduceSub, Nat.reduceLeDiff, Int.reduceToNat, Int.reducePow])) | ((first | refine splitG (fun ht => ?_) (fun ht => ?_) | refine splitGB (fun ht => ?_) (fun ht => ?_) | refine splitR (fun ht => ?_) (fun ht => ?_) | refine splitRB (fun ht => ?_) (fun ht => ?_) | refine splitE (fun ht => ?_) (fun ht => ?_) | refine splitEB (fun ht => ?_) (fun ht => ?_) | refine splitC (fun ht => ?_) (fun ht => ?_) | refine splitCB (fun ht => ?_) (fun ht => ?_)) <;> (simp (disch := first | omega | (simp only [List.length_set, List.length_append, List.length_cons, List.length_nil, List.length_map]; omega)) only [go_sem, Nat.reduceEqDiff, Nat.reduceBEq, Nat.reduceAdd, Nat.reduceMul, Nat.reduceSub, Nat.reduceLeDiff, Int.reduceToNat, Int.reducePow])))
          exact sayV_down hw _ _ _
        | [], hx, hl, r1 =>
          have e : saysH (f + 1) m m false o [] = (o, o, false) := by simp [saysH]
          rw [e]
          refine ACallsTo.of_body speculumref07_says_ok (by simp) fun hw _ => ?_
          repeat' (first | refine SWp.seq ?_ | refine SWp.block ?_ | refine SWp.scope ?_ | (refine SWp.reg ?_; (simp (disch := first | omega | (simp only [List.length_set, List.length_append, List.length_cons, List.length_nil, List.length_map]; omega)) only [go_sem, Nat.reduceEqDiff, Nat.reduceBEq, Nat.reduceAdd, Nat.reduceMul, Nat.reduceSub, Nat.reduceLeDiff, Int.reduceToNat, Int.reducePow, r1])) | refine SWp.condT rfl ?_ | refine SWp.condF rfl ?_ | (refine SWp.condD rfl (fun ht => ?_) (fun ht => ?_) <;> try (exfalso; omega)) | ((first | refine SWp.skip ?_ | refine SWp.exit ?_ | refine SWp.ret ?_); try (simp (disch := first | omega | (simp only [List.length_set, List.length_append, List.length_cons, List.length_nil, List.length_map]; omega)) only [go_sem, Nat.reduceEqDiff, Nat.reduceBEq, Nat.reduceAdd, Nat.reduceMul, Nat.reduceSub, Nat.reduceLeDiff, Int.reduceToNat, Int.reducePow, r1])) | ((first | refine splitG (fun ht => ?_) (fun ht => ?_) | refine splitGB (fun ht => ?_) (fun ht => ?_) | refine splitR (fun ht => ?_) (fun ht => ?_) | refine splitRB (fun ht => ?_) (fun ht => ?_) | refine splitE (fun ht => ?_) (fun ht => ?_) | refine splitEB (fun ht => ?_) (fun ht => ?_) | refine splitC (fun ht => ?_) (fun ht => ?_) | refine splitCB (fun ht => ?_) (fun ht => ?_)) <;> (simp (disch := first | omega | (simp only [List.length_set, List.length_append, List.length_cons, List.length_nil, List.length_map]; omega)) only [go_sem, Nat.reduceEqDiff, Nat.reduceBEq, Nat.reduceAdd, Nat.reduceMul, Nat.reduceSub, Nat.reduceLeDiff, Int.reduceToNat, Int.reducePow, r1])))
          exact sayV_down hw _ _ _
        | y :: z :: l, hx, hl, r1 =>
          have e : saysH (f + 1) m m false o (y :: z :: l) = (o, o, false) := by simp [saysH]
          rw [e]
          have hne : ¬ ((l.length : Int) + 1 + 1) = 1 := by omega
          refine ACallsTo.of_body speculumref07_says_ok (by simp) fun hw _ => ?_
          repeat' (first | refine SWp.seq ?_ | refine SWp.block ?_ | refine SWp.scope ?_ | (refine SWp.reg ?_; (simp (disch := first | omega | (simp only [List.length_set, List.length_append, List.length_cons, List.length_nil, List.length_map]; omega)) only [go_sem, Nat.reduceEqDiff, Nat.reduceBEq, Nat.reduceAdd, Nat.reduceMul, Nat.reduceSub, Nat.reduceLeDiff, Int.reduceToNat, Int.reducePow, r1, hne, List.length_cons])) | refine SWp.condT rfl ?_ | refine SWp.condF rfl ?_ | (refine SWp.condD rfl (fun ht => ?_) (fun ht => ?_) <;> try (exfalso; omega)) | ((first | refine SWp.skip ?_ | refine SWp.exit ?_ | refine SWp.ret ?_); try (simp (disch := first | omega | (simp only [List.length_set, List.length_append, List.length_cons, List.length_nil, List.length_map]; omega)) only [go_sem, Nat.reduceEqDiff, Nat.reduceBEq, Nat.reduceAdd, Nat.reduceMul, Nat.reduceSub, Nat.reduceLeDiff, Int.reduceToNat, Int.reducePow, r1, hne, List.length_cons])) | ((first | refine splitG (fun ht => ?_) (fun ht => ?_) | refine splitGB (fun ht => ?_) (fun ht => ?_) | refine splitR (fun ht => ?_) (fun ht => ?_) | refine splitRB (fun ht => ?_) (fun ht => ?_) | refine splitE (fun ht => ?_) (fun ht => ?_) | refine splitEB (fun ht => ?_) (fun ht => ?_) | refine splitC (fun ht => ?_) (fun ht => ?_) | refine splitCB (fun ht => ?_) (fun ht => ?_)) <;> (simp (disch := first | omega | (simp only [List.length_set, List.length_append, List.length_cons, List.length_nil, List.length_map]; omega)) only [go_sem, Nat.reduceEqDiff, Nat.reduceBEq, Nat.reduceAdd, Nat.reduceMul, Nat.reduceSub, Nat.reduceLeDiff, Int.reduceToNat, Int.reducePow, r1, hne, List.length_cons])))
          exact sayV_down hw _ _ _
    · have h1' : ¬ (m : Int) = n := by omega
      rcases List.eq_nil_or_concat ps with rfl | ⟨rest, last, e⟩
      · have e : saysH (f + 1) m n kn o [] = (o, o, false) := by simp [saysH, h1]
        rw [e]
        refine ACallsTo.of_body speculumref07_says_ok (by simp) fun hw _ => ?_
        cases kn with
        | true =>
          repeat' (first | refine SWp.seq ?_ | refine SWp.block ?_ | refine SWp.scope ?_ | (refine SWp.reg ?_; (simp (disch := first | omega | (simp only [List.length_set, List.length_append, List.length_cons, List.length_nil, List.length_map]; omega)) only [go_sem, Nat.reduceEqDiff, Nat.reduceBEq, Nat.reduceAdd, Nat.reduceMul, Nat.reduceSub, Nat.reduceLeDiff, Int.reduceToNat, Int.reducePow, r1, h1'])) | refine SWp.condT rfl ?_ | refine SWp.condF rfl ?_ | (refine SWp.condD rfl (fun ht => ?_) (fun ht => ?_) <;> try (exfalso; omega)) | ((first | refine SWp.skip ?_ | refine SWp.exit ?_ | refine SWp.ret ?_); try (simp (disch := first | omega | (simp only [List.length_set, List.length_append, List.length_cons, List.length_nil, List.length_map]; omega)) only [go_sem, Nat.reduceEqDiff, Nat.reduceBEq, Nat.reduceAdd, Nat.reduceMul, Nat.reduceSub, Nat.reduceLeDiff, Int.reduceToNat, Int.reducePow, r1, h1'])) | ((first | refine splitG (fun ht => ?_) (fun ht => ?_) | refine splitGB (fun ht => ?_) (fun ht => ?_) | refine splitR (fun ht => ?_) (fun ht => ?_) | refine splitRB (fun ht => ?_) (fun ht => ?_) | refine splitE (fun ht => ?_) (fun ht => ?_) | refine splitEB (fun ht => ?_) (fun ht => ?_) | refine splitC (fun ht => ?_) (fun ht => ?_) | refine splitCB (fun ht => ?_) (fun ht => ?_)) <;> (simp (disch := first | omega | (simp only [List.length_set, List.length_append, List.length_cons, List.length_nil, List.length_map]; omega)) only [go_sem, Nat.reduceEqDiff, Nat.reduceBEq, Nat.reduceAdd, Nat.reduceMul, Nat.reduceSub, Nat.reduceLeDiff, Int.reduceToNat, Int.reducePow, r1, h1'])))
          exact sayV_down hw _ _ _
        | false =>
          repeat' (first | refine SWp.seq ?_ | refine SWp.block ?_ | refine SWp.scope ?_ | (refine SWp.reg ?_; (simp (disch := first | omega | (simp only [List.length_set, List.length_append, List.length_cons, List.length_nil, List.length_map]; omega)) only [go_sem, Nat.reduceEqDiff, Nat.reduceBEq, Nat.reduceAdd, Nat.reduceMul, Nat.reduceSub, Nat.reduceLeDiff, Int.reduceToNat, Int.reducePow, r1, h1'])) | refine SWp.condT rfl ?_ | refine SWp.condF rfl ?_ | (refine SWp.condD rfl (fun ht => ?_) (fun ht => ?_) <;> try (exfalso; omega)) | ((first | refine SWp.skip ?_ | refine SWp.exit ?_ | refine SWp.ret ?_); try (simp (disch := first | omega | (simp only [List.length_set, List.length_append, List.length_cons, List.length_nil, List.length_map]; omega)) only [go_sem, Nat.reduceEqDiff, Nat.reduceBEq, Nat.reduceAdd, Nat.reduceMul, Nat.reduceSub, Nat.reduceLeDiff, Int.reduceToNat, Int.reducePow, r1, h1'])) | ((first | refine splitG (fun ht => ?_) (fun ht => ?_) | refine splitGB (fun ht => ?_) (fun ht => ?_) | refine splitR (fun ht => ?_) (fun ht => ?_) | refine splitRB (fun ht => ?_) (fun ht => ?_) | refine splitE (fun ht => ?_) (fun ht => ?_) | refine splitEB (fun ht => ?_) (fun ht => ?_) | refine splitC (fun ht => ?_) (fun ht => ?_) | refine splitCB (fun ht => ?_) (fun ht => ?_)) <;> (simp (disch := first | omega | (simp only [List.length_set, List.length_append, List.length_cons, List.length_nil, List.length_map]; omega)) only [go_sem, Nat.reduceEqDiff, Nat.reduceBEq, Nat.reduceAdd, Nat.reduceMul, Nat.reduceSub, Nat.reduceLeDiff, Int.reduceToNat, Int.reducePow, r1, h1'])))
          exact sayV_down hw _ _ _
      · rw [List.concat_eq_append] at e
        subst e
        obtain ⟨s1, s2, s3⟩ := split_spec (n := n) (by omega)
        have hsp := fun σ => ref_Split_to σ n (by omega)
        obtain ⟨k, hkd⟩ : ∃ k, splitS n = k := ⟨_, rfl⟩
        rw [hkd] at s1 s2 s3 hsp
        obtain ⟨ex, rfl⟩ := hx.vsl (by rw [hr_len]; simp)
        have e2 : saysH (f + 1) m n kn o (rest ++ [last]) = if m ≤ k then (let r := saysH f m k kn o rest; (r.1, nodeH r.2.1 last, r.2.2)) else (let r := saysH f (m - k) (n - k) false o rest; (nodeH last r.1, nodeH last r.2.1, r.2.2)) := by
          simp [saysH, h1, hkd]
        rw [e2]
        obtain ⟨l, hll⟩ : ∃ l, rest ++ [last] = l := ⟨_, rfl⟩
        have hL : l.length = rest.length + 1 := by rw [← hll]; simp
        have hg : hd l rest.length = last := by rw [← hll]; simp [hd]
        have tk : l.take rest.length = rest := by rw [← hll]; simp
        rw [hll] at hl ⊢
        have hidx : ((rest.length + 1 : Nat) : Int) - 1 = rest.length := by omega
        by_cases hle' : m ≤ k
        · have hle : (m : Int) ≤ k := by omega
          rw [if_pos hle']
          have i1 := fun σ b => ih σ m k kn o (.vsl 32 (hr rest) b) rest (by omega) h0 hle' (by omega) (.inr ⟨b, rfl⟩) (by omega)
          generalize saysH f m k kn o rest = r at *
          obtain ⟨ra, rb, rok⟩ := r
          simp only [sayV] at i1 ⊢
          have hN := fun σ => ref_Node_h σ rb last
          refine ACallsTo.of_body speculumref07_says_ok (by simp) fun hw _ => ?_
          cases kn with
          | true =>
            repeat' (first | refine SWp.seq ?_ | refine SWp.block ?_ | refine SWp.scope ?_ | (refine SWp.reg ?_; (simp (disch := first | omega | (simp only [List.length_set, List.length_append, List.length_cons, List.length_nil, List.length_map]; omega)) only [go_sem, Nat.reduceEqDiff, Nat.reduceBEq, Nat.reduceAdd, Nat.reduceMul, Nat.reduceSub, Nat.reduceLeDiff, Int.reduceToNat, Int.reducePow, hL, h1'])) | refine SWp.condT rfl ?_ | refine SWp.condF rfl ?_ | (refine SWp.condD rfl (fun ht => ?_) (fun ht => ?_) <;> try (exfalso; omega)) | ((first | refine SWp.skip ?_ | refine SWp.exit ?_ | refine SWp.ret ?_); try (simp (disch := first | omega | (simp only [List.length_set, List.length_append, List.length_cons, List.length_nil, List.length_map]; omega)) only [go_sem, Nat.reduceEqDiff, Nat.reduceBEq, Nat.reduceAdd, Nat.reduceMul, Nat.reduceSub, Nat.reduceLeDiff, Int.reduceToNat, Int.reducePow, hL, h1'])) | ((first | refine splitG (fun ht => ?_) (fun ht => ?_) | refine splitGB (fun ht => ?_) (fun ht => ?_) | refine splitR (fun ht => ?_) (fun ht => ?_) | refine splitRB (fun ht => ?_) (fun ht => ?_) | refine splitE (fun ht => ?_) (fun ht => ?_) | refine splitEB (fun ht => ?_) (fun ht => ?_) | refine splitC (fun ht => ?_) (fun ht => ?_) | refine splitCB (fun ht => ?_) (fun ht => ?_)) <;> (simp (disch := first | omega | (simp only [List.length_set, List.length_append, List.length_cons, List.length_nil, List.length_map]; omega)) only [go_sem, Nat.reduceEqDiff, Nat.reduceBEq, Nat.reduceAdd, Nat.reduceMul, Nat.reduceSub, Nat.reduceLeDiff, Int.reduceToNat, Int.reducePow, hL, h1'])))
            refine SWp.reg2 ?_ ?_
            · simp (disch := first | omega | (simp only [List.length_set, List.length_append, List.length_cons, List.length_nil, List.length_map]; omega)) only [go_sem, Nat.reduceEqDiff, Nat.reduceBEq, Nat.reduceAdd, Nat.reduceMul, Nat.reduceSub, Nat.reduceLeDiff, Int.reduceToNat, Int.reducePow, hL, hidx, hg, tk]
              repeat' (first | (apply callW.any; (first | exact (hsp _) | exact (i1 _ _) | exact (hN _)); all_goals try (simp (disch := first | omega | (simp only [List.length_set, List.length_append, List.length_cons, List.length_nil, List.length_map]; omega)) only [go_sem, Nat.reduceEqDiff, Nat.reduceBEq, Nat.reduceAdd, Nat.reduceMul, Nat.reduceSub, Nat.reduceLeDiff, Int.reduceToNat, Int.reducePow, hL, hidx, hg, tk, hle])) | refine SWp.seq ?_ | refine SWp.block ?_ | refine SWp.scope ?_ | (refine SWp.reg ?_; (simp (disch := first | omega | (simp only [List.length_set, List.length_append, List.length_cons, List.length_nil, List.length_map]; omega)) only [go_sem, Nat.reduceEqDiff, Nat.reduceBEq, Nat.reduceAdd, Nat.reduceMul, Nat.reduceSub, Nat.reduceLeDiff, Int.reduceToNat, Int.reducePow, hL, hidx, hg, tk, hle])) | refine SWp.condT rfl ?_ | refine SWp.condF rfl ?_ | (refine SWp.condD rfl (fun ht => ?_) (fun ht => ?_) <;> try (exfalso; omega)) | ((first | refine SWp.skip ?_ | refine SWp.exit ?_ | refine SWp.ret ?_); try (simp (disch := first | omega | (simp only [List.length_set, List.length_append, List.length_cons, List.length_nil, List.length_map]; omega)) only [go_sem, Nat.reduceEqDiff, Nat.reduceBEq, Nat.reduceAdd, Nat.reduceMul, Nat.reduceSub, Nat.reduceLeDiff, Int.reduceToNat, Int.reducePow, hL, hidx, hg, tk, hle])) | ((first | refine splitG (fun ht => ?_) (fun ht => ?_) | refine splitGB (fun ht => ?_) (fun ht => ?_) | refine splitR (fun ht => ?_) (fun ht => ?_) | refine splitRB (fun ht => ?_) (fun ht => ?_) | refine splitE (fun ht => ?_) (fun ht => ?_) | refine splitEB (fun ht => ?_) (fun ht => ?_) | refine splitC (fun ht => ?_) (fun ht => ?_) | refine splitCB (fun ht => ?_) (fun ht => ?_)) <;> (simp (disch := first | omega | (simp only [List.length_set, List.length_append, List.length_cons, List.length_nil, List.length_map]; omega)) only [go_sem, Nat.reduceEqDiff, Nat.reduceBEq, Nat.reduceAdd, Nat.reduceMul, Nat.reduceSub, Nat.reduceLeDiff, Int.reduceToNat, Int.reducePow, hL, hidx, hg, tk, hle])))
              exact sayV_down hw _ _ _
            · simp (disch := first | omega | (simp only [List.length_set, List.length_append, List.length_cons, List.length_nil, List.length_map]; omega)) only [go_sem, Nat.reduceEqDiff, Nat.reduceBEq, Nat.reduceAdd, Nat.reduceMul, Nat.reduceSub, Nat.reduceLeDiff, Int.reduceToNat, Int.reducePow, hL, hidx, hg, tk]
              repeat' (first | (apply callW.any; (first | exact (hsp _) | exact (i1 _ _) | exact (hN _)); all_goals try (simp (disch := first | omega | (simp only [List.length_set, List.length_append, List.length_cons, List.length_nil, List.length_map]; omega)) only [go_sem, Nat.reduceEqDiff, Nat.reduceBEq, Nat.reduceAdd, Nat.reduceMul, Nat.reduceSub, Nat.reduceLeDiff, Int.reduceToNat, Int.reducePow, hL, hidx, hg, tk, hle])) | refine SWp.seq ?_ | refine SWp.block ?_ | refine SWp.scope ?_ | (refine SWp.reg ?_; (simp (disch := first | omega | (simp only [List.length_set, List.length_append, List.length_cons, List.length_nil, List.length_map]; omega)) only [go_sem, Nat.reduceEqDiff, Nat.reduceBEq, Nat.reduceAdd, Nat.reduceMul, Nat.reduceSub, Nat.reduceLeDiff, Int.reduceToNat, Int.reducePow, hL, hidx, hg, tk, hle])) | refine SWp.condT rfl ?_ | refine SWp.condF rfl ?_ | (refine SWp.condD rfl (fun ht => ?_) (fun ht => ?_) <;> try (exfalso; omega)) | ((first | refine SWp.skip ?_ | refine SWp.exit ?_ | refine SWp.ret ?_); try (simp (disch := first | omega | (simp only [List.length_set, List.length_append, List.length_cons, List.length_nil, List.length_map]; omega)) only [go_sem, Nat.reduceEqDiff, Nat.reduceBEq, Nat.reduceAdd, Nat.reduceMul, Nat.reduceSub, Nat.reduceLeDiff, Int.reduceToNat, Int.reducePow, hL, hidx, hg, tk, hle])) | ((first | refine splitG (fun ht => ?_) (fun ht => ?_) | refine splitGB (fun ht => ?_) (fun ht => ?_) | refine splitR (fun ht => ?_) (fun ht => ?_) | refine splitRB (fun ht => ?_) (fun ht => ?_) | refine splitE (fun ht => ?_) (fun ht => ?_) | refine splitEB (fun ht => ?_) (fun ht => ?_) | refine splitC (fun ht => ?_) (fun ht => ?_) | refine splitCB (fun ht => ?_) (fun ht => ?_)) <;> (simp (disch := first | omega | (simp only [List.length_set, List.length_append, List.length_cons, List.length_nil, List.length_map]; omega)) only [go_sem, Nat.reduceEqDiff, Nat.reduceBEq, Nat.reduceAdd, Nat.reduceMul, Nat.reduceSub, Nat.reduceLeDiff, Int.reduceToNat, Int.reducePow, hL, hidx, hg, tk, hle])))
              exact sayV_down hw _ _ _
          | false =>
            repeat' (first | refine SWp.seq ?_ | refine SWp.block ?_ | refine SWp.scope ?_ | (refine SWp.reg ?_; (simp (disch := first | omega | (simp only [List.length_set, List.length_append, List.length_cons, List.length_nil, List.length_map]; omega)) only [go_sem, Nat.reduceEqDiff, Nat.reduceBEq, Nat.reduceAdd, Nat.reduceMul, Nat.reduceSub, Nat.reduceLeDiff, Int.reduceToNat, Int.reducePow, hL, h1'])) | refine SWp.condT rfl ?_ | refine SWp.condF rfl ?_ | (refine SWp.condD rfl (fun ht => ?_) (fun ht => ?_) <;> try (exfalso; omega)) | ((first | refine SWp.skip ?_ | refine SWp.exit ?_ | refine SWp.ret ?_); try (simp (disch := first | omega | (simp only [List.length_set, List.length_append, List.length_cons, List.length_nil, List.length_map]; omega)) only [go_sem, Nat.reduceEqDiff, Nat.reduceBEq, Nat.reduceAdd, Nat.reduceMul, Nat.reduceSub, Nat.reduceLeDiff, Int.reduceToNat, Int.reducePow, hL, h1'])) | ((first | refine splitG (fun ht => ?_) (fun ht => ?_) | refine splitGB (fun ht => ?_) (fun ht => ?_) | refine splitR (fun ht => ?_) (fun ht => ?_) | refine splitRB (fun ht => ?_) (fun ht => ?_) | refine splitE (fun ht => ?_) (fun ht => ?_) | refine splitEB (fun ht => ?_) (fun ht => ?_) | refine splitC (fun ht => ?_) (fun ht => ?_) | refine splitCB (fun ht => ?_) (fun ht => ?_)) <;> (simp (disch := first | omega | (simp only [List.length_set, List.length_append, List.length_cons, List.length_nil, List.length_map]; omega)) only [go_sem, Nat.reduceEqDiff, Nat.reduceBEq, Nat.reduceAdd, Nat.reduceMul, Nat.reduceSub, Nat.reduceLeDiff, Int.reduceToNat, Int.reducePow, hL, h1'])))
            refine SWp.reg2 ?_ ?_
            · simp (disch := first | omega | (simp only [List.length_set, List.length_append, List.length_cons, List.length_nil, List.length_map]; omega)) only [go_sem, Nat.reduceEqDiff, Nat.reduceBEq, Nat.reduceAdd, Nat.reduceMul, Nat.reduceSub, Nat.reduceLeDiff, Int.reduceToNat, Int.reducePow, hL, hidx, hg, tk]
              repeat' (first | (apply callW.any; (first | exact (hsp _) | exact (i1 _ _) | exact (hN _)); all_goals try (simp (disch := first | omega | (simp only [List.length_set, List.length_append, List.length_cons, List.length_nil, List.length_map]; omega)) only [go_sem, Nat.reduceEqDiff, Nat.reduceBEq, Nat.reduceAdd, Nat.reduceMul, Nat.reduceSub, Nat.reduceLeDiff, Int.reduceToNat, Int.reducePow, hL, hidx, hg, tk, hle])) | refine SWp.seq ?_ | refine SWp.block ?_ | refine SWp.scope ?_ | (refine SWp.reg ?_; (simp (disch := first | omega | (simp only [List.length_set, List.length_append, List.length_cons, List.length_nil, List.length_map]; omega)) only [go_sem, Nat.reduceEqDiff, Nat.reduceBEq, Nat.reduceAdd, Nat.reduceMul, Nat.reduceSub, Nat.reduceLeDiff, Int.reduceToNat, Int.reducePow, hL, hidx, hg, tk, hle])) | refine SWp.condT rfl ?_ | refine SWp.condF rfl ?_ | (refine SWp.condD rfl (fun ht => ?_) (fun ht => ?_) <;> try (exfalso; omega)) | ((first | refine SWp.skip ?_ | refine SWp.exit ?_ | refine SWp.ret ?_); try (simp (disch := first | omega | (simp only [List.length_set, List.length_append, List.length_cons, List.length_nil, List.length_map]; omega)) only [go_sem, Nat.reduceEqDiff, Nat.reduceBEq, Nat.reduceAdd, Nat.reduceMul, Nat.reduceSub, Nat.reduceLeDiff, Int.reduceToNat, Int.reducePow, hL, hidx, hg, tk, hle])) | ((first | refine splitG (fun ht => ?_) (fun ht => ?_) | refine splitGB (fun ht => ?_) (fun ht => ?_) | refine splitR (fun ht => ?_) (fun ht => ?_) | refine splitRB (fun ht => ?_) (fun ht => ?_) | refine splitE (fun ht => ?_) (fun ht => ?_) | refine splitEB (fun ht => ?_) (fun ht => ?_) | refine splitC (fun ht => ?_) (fun ht => ?_) | refine splitCB (fun ht => ?_) (fun ht => ?_)) <;> (simp (disch := first | omega | (simp only [List.length_set, List.length_append, List.length_cons, List.length_nil, List.length_map]; omega)) only [go_sem, Nat.reduceEqDiff, Nat.reduceBEq, Nat.reduceAdd, Nat.reduceMul, Nat.reduceSub, Nat.reduceLeDiff, Int.reduceToNat, Int.reducePow, hL, hidx, hg, tk, hle])))
              exact sayV_down hw _ _ _
            · simp (disch := first | omega | (simp only [List.length_set, List.length_append, List.length_cons, List.length_nil, List.length_map]; omega)) only [go_sem, Nat.reduceEqDiff, Nat.reduceBEq, Nat.reduceAdd, Nat.reduceMul, Nat.reduceSub, Nat.reduceLeDiff, Int.reduceToNat, Int.reducePow, hL, hidx, hg, tk]
              repeat' (first | (apply callW.any; (first | exact (hsp _) | exact (i1 _ _) | exact (hN _)); all_goals try (simp (disch := first | omega | (simp only [List.length_set, List.length_append, List.length_cons, List.length_nil, List.length_map]; omega)) only [go_sem, Nat.reduceEqDiff, Nat.reduceBEq, Nat.reduceAdd, Nat.reduceMul, Nat.reduceSub, Nat.reduceLeDiff, Int.reduceToNat, Int.reducePow, hL, hidx, hg, tk, hle])) | refine SWp.seq ?_ | refine SWp.block ?_ | refine SWp.scope ?_ | (refine SWp.reg ?_; (simp (disch := first | omega | (simp only [List.length_set, List.length_append, List.length_cons, List.length_nil, List.length_map]; omega)) only [go_sem, Nat.reduceEqDiff, Nat.reduceBEq, Nat.reduceAdd, Nat.reduceMul, Nat.reduceSub, Nat.reduceLeDiff, Int.reduceToNat, Int.reducePow, hL, hidx, hg, tk, hle])) | refine SWp.condT rfl ?_ | refine SWp.condF rfl ?_ | (refine SWp.condD rfl (fun ht => ?_) (fun ht => ?_) <;> try (exfalso; omega)) | ((first | refine SWp.skip ?_ | refine SWp.exit ?_ | refine SWp.ret ?_); try (simp (disch := first | omega | (simp only [List.length_set, List.length_append, List.length_cons, List.length_nil, List.length_map]; omega)) only [go_sem, Nat.reduceEqDiff, Nat.reduceBEq, Nat.reduceAdd, Nat.reduceMul, Nat.reduceSub, Nat.reduceLeDiff, Int.reduceToNat, Int.reducePow, hL, hidx, hg, tk, hle])) | ((first | refine splitG (fun ht => ?_) (fun ht => ?_) | refine splitGB (fun ht => ?_) (fun ht => ?_) | refine splitR (fun ht => ?_) (fun ht => ?_) | refine splitRB (fun ht => ?_) (fun ht => ?_) | refine splitE (fun ht => ?_) (fun ht => ?_) | refine splitEB (fun ht => ?_) (fun ht => ?_) | refine splitC (fun ht => ?_) (fun ht => ?_) | refine splitCB (fun ht => ?_) (fun ht => ?_)) <;> (simp (disch := first | omega | (simp only [List.length_set, List.length_append, List.length_cons, List.length_nil, List.length_map]; omega)) only [go_sem, Nat.reduceEqDiff, Nat.reduceBEq, Nat.reduceAdd, Nat.reduceMul, Nat.reduceSub, Nat.reduceLeDiff, Int.reduceToNat, Int.reducePow, hL, hidx, hg, tk, hle])))
              exact sayV_down hw _ _ _
        · have hle : ¬ (m : Int) ≤ k := by omega
          rw [if_neg hle']
          have i1 := fun σ b => ih σ (m - k) (n - k) false o (.vsl 32 (hr rest) b) rest (by omega) (by omega) (by omega) (by omega) (.inr ⟨b, rfl⟩) (by omega)
          have hmk : (m : Int) - k = ((m - k : Nat) : Int) := by omega
          have hnk : (n : Int) - k = ((n - k : Nat) : Int) := by omega
          generalize saysH f (m - k) (n - k) false o rest = r at *
          obtain ⟨ra, rb, rok⟩ := r
          simp only [sayV] at i1 ⊢
          have hN := fun σ => ref_Node_h σ last ra
          have hN2 := fun σ => ref_Node_h σ last rb
          refine ACallsTo.of_body speculumref07_says_ok (by simp) fun hw _ => ?_
          cases kn with
          | true =>
            repeat' (first | refine SWp.seq ?_ | refine SWp.block ?_ | refine SWp.scope ?_ | (refine SWp.reg ?_; (simp (disch := first | omega | (simp only [List.length_set, List.length_append, List.length_cons, List.length_nil, List.length_map]; omega)) only [go_sem, Nat.reduceEqDiff, Nat.reduceBEq, Nat.reduceAdd, Nat.reduceMul, Nat.reduceSub, Nat.reduceLeDiff, Int.reduceToNat, Int.reducePow, hL, h1'])) | refine SWp.condT rfl ?_ | refine SWp.condF rfl ?_ | (refine SWp.condD rfl (fun ht => ?_) (fun ht => ?_) <;> try (exfalso; omega)) | ((first | refine SWp.skip ?_ | refine SWp.exit ?_ | refine SWp.ret ?_); try (simp (disch := first | omega | (simp only [List.length_set, List.length_append, List.length_cons, List.length_nil, List.length_map]; omega)) only [go_sem, Nat.reduceEqDiff, Nat.reduceBEq, Nat.reduceAdd, Nat.reduceMul, Nat.reduceSub, Nat.reduceLeDiff, Int.reduceToNat, Int.reducePow, hL, h1'])) | ((first | refine splitG (fun ht => ?_) (fun ht => ?_) | refine splitGB (fun ht => ?_) (fun ht => ?_) | refine splitR (fun ht => ?_) (fun ht => ?_) | refine splitRB (fun ht => ?_) (fun ht => ?_) | refine splitE (fun ht => ?_) (fun ht => ?_) | refine splitEB (fun ht => ?_) (fun ht => ?_) | refine splitC (fun ht => ?_) (fun ht => ?_) | refine splitCB (fun ht => ?_) (fun ht => ?_)) <;> (simp (disch := first | omega | (simp only [List.length_set, List.length_append, List.length_cons, List.length_nil, List.length_map]; omega)) only [go_sem, Nat.reduceEqDiff, Nat.reduceBEq, Nat.reduceAdd, Nat.reduceMul, Nat.reduceSub, Nat.reduceLeDiff, Int.reduceToNat, Int.reducePow, hL, h1'])))
            refine SWp.reg2 ?_ ?_
            · simp (disch := first | omega | (simp only [List.length_set, List.length_append, List.length_cons, List.length_nil, List.length_map]; omega)) only [go_sem, Nat.reduceEqDiff, Nat.reduceBEq, Nat.reduceAdd, Nat.reduceMul, Nat.reduceSub, Nat.reduceLeDiff, Int.reduceToNat, Int.reducePow, hL, hidx, hg, tk]
              repeat' (first | (apply callW.any; (first | exact (hsp _) | exact (i1 _ _) | exact (hN _) | exact (hN2 _)); all_goals try (simp (disch := first | omega | (simp only [List.length_set, List.length_append, List.length_cons, List.length_nil, List.length_map]; omega)) only [go_sem, Nat.reduceEqDiff, Nat.reduceBEq, Nat.reduceAdd, Nat.reduceMul, Nat.reduceSub, Nat.reduceLeDiff, Int.reduceToNat, Int.reducePow, hL, hidx, hg, tk, hle, hmk, hnk])) | refine SWp.seq ?_ | refine SWp.block ?_ | refine SWp.scope ?_ | (refine SWp.reg ?_; (simp (disch := first | omega | (simp only [List.length_set, List.length_append, List.length_cons, List.length_nil, List.length_map]; omega)) only [go_sem, Nat.reduceEqDiff, Nat.reduceBEq, Nat.reduceAdd, Nat.reduceMul, Nat.reduceSub, Nat.reduceLeDiff, Int.reduceToNat, Int.reducePow, hL, hidx, hg, tk, hle, hmk, hnk])) | refine SWp.condT rfl ?_ | refine SWp.condF rfl ?_ | (refine SWp.condD rfl (fun ht => ?_) (fun ht => ?_) <;> try (exfalso; omega)) | ((first | refine SWp.skip ?_ | refine SWp.exit ?_ | refine SWp.ret ?_); try (simp (disch := first | omega | (simp only [List.length_set, List.length_append, List.length_cons, List.length_nil, List.length_map]; omega)) only [go_sem, Nat.reduceEqDiff, Nat.reduceBEq, Nat.reduceAdd, Nat.reduceMul, Nat.reduceSub, Nat.reduceLeDiff, Int.reduceToNat, Int.reducePow, hL, hidx, hg, tk, hle, hmk, hnk])) | ((first | refine splitG (fun ht => ?_) (fun ht => ?_) | refine splitGB (fun ht => ?_) (fun ht => ?_) | refine splitR (fun ht => ?_) (fun ht => ?_) | refine splitRB (fun ht => ?_) (fun ht => ?_) | refine splitE (fun ht => ?_) (fun ht => ?_) | refine splitEB (fun ht => ?_) (fun ht => ?_) | refine splitC (fun ht => ?_) (fun ht => ?_) | refine splitCB (fun ht => ?_) (fun ht => ?_)) <;> (simp (disch := first | omega | (simp only [List.length_set, List.length_append, List.length_cons, List.length_nil, List.length_map]; omega)) only [go_sem, Nat.reduceEqDiff, Nat.reduceBEq, Nat.reduceAdd, Nat.reduceMul, Nat.reduceSub, Nat.reduceLeDiff, Int.reduceToNat, Int.reducePow, hL, hidx, hg, tk, hle, hmk, hnk])))
              exact sayV_down hw _ _ _
            · simp (disch := first | omega | (simp only [List.length_set, List.length_append, List.length_cons, List.length_nil, List.length_map]; omega)) only [go_sem, Nat.reduceEqDiff, Nat.reduceBEq, Nat.reduceAdd, Nat.reduceMul, Nat.reduceSub, Nat.reduceLeDiff, Int.reduceToNat, Int.reducePow, hL, hidx, hg, tk]
              repeat' (first | (apply callW.any; (first | exact (hsp _) | exact (i1 _ _) | exact (hN _) | exact (hN2 _)); all_goals try (simp (disch := first | omega | (simp only [List.length_set, List.length_append, List.length_cons, List.length_nil, List.length_map]; omega)) only [go_sem, Nat.reduceEqDiff, Nat.reduceBEq, Nat.reduceAdd, Nat.reduceMul, Nat.reduceSub, Nat.reduceLeDiff, Int.reduceToNat, Int.reducePow, hL, hidx, hg, tk, hle, hmk, hnk])) | refine SWp.seq ?_ | refine SWp.block ?_ | refine SWp.scope ?_ | (refine SWp.reg ?_; (simp (disch := first | omega | (simp only [List.length_set, List.length_append, List.length_cons, List.length_nil, List.length_map]; omega)) only [go_sem, Nat.reduceEqDiff, Nat.reduceBEq, Nat.reduceAdd, Nat.reduceMul, Nat.reduceSub, Nat.reduceLeDiff, Int.reduceToNat, Int.reducePow, hL, hidx, hg, tk, hle, hmk, hnk])) | refine SWp.condT rfl ?_ | refine SWp.condF rfl ?_ | (refine SWp.condD rfl (fun ht => ?_) (fun ht => ?_) <;> try (exfalso; omega)) | ((first | refine SWp.skip ?_ | refine SWp.exit ?_ | refine SWp.ret ?_); try (simp (disch := first | omega | (simp only [List.length_set, List.length_append, List.length_cons, List.length_nil, List.length_map]; omega)) only [go_sem, Nat.reduceEqDiff, Nat.reduceBEq, Nat.reduceAdd, Nat.reduceMul, Nat.reduceSub, Nat.reduceLeDiff, Int.reduceToNat, Int.reducePow, hL, hidx, hg, tk, hle, hmk, hnk])) | ((first | refine splitG (fun ht => ?_) (fun ht => ?_) | refine splitGB (fun ht => ?_) (fun ht => ?_) | refine splitR (fun ht => ?_) (fun ht => ?_) | refine splitRB (fun ht => ?_) (fun ht => ?_) | refine splitE (fun ht => ?_) (fun ht => ?_) | refine splitEB (fun ht => ?_) (fun ht => ?_) | refine splitC (fun ht => ?_) (fun ht => ?_) | refine splitCB (fun ht => ?_) (fun ht => ?_)) <;> (simp (disch := first | omega | (simp only [List.length_set, List.length_append, List.length_cons, List.length_nil, List.length_map]; omega)) only [go_sem, Nat.reduceEqDiff, Nat.reduceBEq, Nat.reduceAdd, Nat.reduceMul, Nat.reduceSub, Nat.reduceLeDiff, Int.reduceToNat, Int.reducePow, hL, hidx, hg, tk, hle, hmk, hnk])))
              exact sayV_down hw _ _ _
          | false =>
            repeat' (first | refine SWp.seq ?_ | refine SWp.block ?_ | refine SWp.scope ?_ | (refine SWp.reg ?_; (simp (disch := first | omega | (simp only [List.length_set, List.length_append, List.length_cons, List.length_nil, List.length_map]; omega)) only [go_sem, Nat.reduceEqDiff, Nat.reduceBEq, Nat.reduceAdd, Nat.reduceMul, Nat.reduceSub, Nat.reduceLeDiff, Int.reduceToNat, Int.reducePow, hL, h1'])) | refine SWp.condT rfl ?_ | refine SWp.condF rfl ?_ | (refine SWp.condD rfl (fun ht => ?_) (fun ht => ?_) <;> try (exfalso; omega)) | ((first | refine SWp.skip ?_ | refine SWp.exit ?_ | refine SWp.ret ?_); try (simp (disch := first | omega | (simp only [List.length_set, List.length_append, List.length_cons, List.length_nil, List.length_map]; omega)) only [go_sem, Nat.reduceEqDiff, Nat.reduceBEq, Nat.reduceAdd, Nat.reduceMul, Nat.reduceSub, Nat.reduceLeDiff, Int.reduceToNat, Int.reducePow, hL, h1'])) | ((first | refine splitG (fun ht => ?_) (fun ht => ?_) | refine splitGB (fun ht => ?_) (fun ht => ?_) | refine splitR (fun ht => ?_) (fun ht => ?_) | refine splitRB (fun ht => ?_) (fun ht => ?_) | refine splitE (fun ht => ?_) (fun ht => ?_) | refine splitEB (fun ht => ?_) (fun ht => ?_) | refine splitC (fun ht => ?_) (fun ht => ?_) | refine splitCB (fun ht => ?_) (fun ht => ?_)) <;> (simp (disch := first | omega | (simp only [List.length_set, List.length_append, List.length_cons, List.length_nil, List.length_map]; omega)) only [go_sem, Nat.reduceEqDiff, Nat.reduceBEq, Nat.reduceAdd, Nat.reduceMul, Nat.reduceSub, Nat.reduceLeDiff, Int.reduceToNat, Int.reducePow, hL, h1'])))
            refine SWp.reg2 ?_ ?_
            · simp (disch := first | omega | (simp only [List.length_set, List.length_append, List.length_cons, List.length_nil, List.length_map]; omega)) only [go_sem, Nat.reduceEqDiff, Nat.reduceBEq, Nat.reduceAdd, Nat.reduceMul, Nat.reduceSub, Nat.reduceLeDiff, Int.reduceToNat, Int.reducePow, hL, hidx, hg, tk]
              repeat' (first | (apply callW.any; (first | exact (hsp _) | exact (i1 _ _) | exact (hN _) | exact (hN2 _)); all_goals try (simp (disch := first | omega | (simp only [List.length_set, List.length_append, List.length_cons, List.length_nil, List.length_map]; omega)) only [go_sem, Nat.reduceEqDiff, Nat.reduceBEq, Nat.reduceAdd, Nat.reduceMul, Nat.reduceSub, Nat.reduceLeDiff, Int.reduceToNat, Int.reducePow, hL, hidx, hg, tk, hle, hmk, hnk])) | refine SWp.seq ?_ | refine SWp.block ?_ | refine SWp.scope ?_ | (refine SWp.reg ?_; (simp (disch := first | omega | (simp only [List.length_set, List.length_append, List.length_cons, List.length_nil, List.length_map]; omega)) only [go_sem, Nat.reduceEqDiff, Nat.reduceBEq, Nat.reduceAdd, Nat.reduceMul, Nat.reduceSub, Nat.reduceLeDiff, Int.reduceToNat, Int.reducePow, hL, hidx, hg, tk, hle, hmk, hnk])) | refine SWp.condT rfl ?_ | refine SWp.condF rfl ?_ | (refine SWp.condD rfl (fun ht => ?_) (fun ht => ?_) <;> try (exfalso; omega)) | ((first | refine SWp.skip ?_ | refine SWp.exit ?_ | refine SWp.ret ?_); try (simp (disch := first | omega | (simp only [List.length_set, List.length_append, List.length_cons, List.length_nil, List.length_map]; omega)) only [go_sem, Nat.reduceEqDiff, Nat.reduceBEq, Nat.reduceAdd, Nat.reduceMul, Nat.reduceSub, Nat.reduceLeDiff, Int.reduceToNat, Int.reducePow, hL, hidx, hg, tk, hle, hmk, hnk])) | ((first | refine splitG (fun ht => ?_) (fun ht => ?_) | refine splitGB (fun ht => ?_) (fun ht => ?_) | refine splitR (fun ht => ?_) (fun ht => ?_) | refine splitRB (fun ht => ?_) (fun ht => ?_) | refine splitE (fun ht => ?_) (fun ht => ?_) | refine splitEB (fun ht => ?_) (fun ht => ?_) | refine splitC (fun ht => ?_) (fun ht => ?_) | refine splitCB (fun ht => ?_) (fun ht => ?_)) <;> (simp (disch := first | omega | (simp only [List.length_set, List.length_append, List.length_cons, List.length_nil, List.length_map]; omega)) only [go_sem, Nat.reduceEqDiff, Nat.reduceBEq, Nat.reduceAdd, Nat.reduceMul, Nat.reduceSub, Nat.reduceLeDiff, Int.reduceToNat, Int.reducePow, hL, hidx, hg, tk, hle, hmk, hnk])))
              exact sayV_down hw _ _ _
            · simp (disch := first | omega | (simp only [List.length_set, List.length_append, List.length_cons, List.length_nil, List.length_map]; omega)) only [go_sem, Nat.reduceEqDiff, Nat.reduceBEq, Nat.reduceAdd, Nat.reduceMul, Nat.reduceSub, Nat.reduceLeDiff, Int.reduceToNat, Int.reducePow, hL, hidx, hg, tk]
              repeat' (first | (apply callW.any; (first | exact (hsp _) | exact (i1 _ _) | exact (hN _) | exact (hN2 _)); all_goals try (simp (disch := first | omega | (simp only [List.length_set, List.length_append, List.length_cons, List.length_nil, List.length_map]; omega)) only [go_sem, Nat.reduceEqDiff, Nat.reduceBEq, Nat.reduceAdd, Nat.reduceMul, Nat.reduceSub, Nat.reduceLeDiff, Int.reduceToNat, Int.reducePow, hL, hidx, hg, tk, hle, hmk, hnk])) | refine SWp.seq ?_ | refine SWp.block ?_ | refine SWp.scope ?_ | (refine SWp.reg ?_; (simp (disch := first | omega | (simp only [List.length_set, List.length_append, List.length_cons, List.length_nil, List.length_map]; omega)) only [go_sem, Nat.reduceEqDiff, Nat.reduceBEq, Nat.reduceAdd, Nat.reduceMul, Nat.reduceSub, Nat.reduceLeDiff, Int.reduceToNat, Int.reducePow, hL, hidx, hg, tk, hle, hmk, hnk])) | refine SWp.condT rfl ?_ | refine SWp.condF rfl ?_ | (refine SWp.condD rfl (fun ht => ?_) (fun ht => ?_) <;> try (exfalso; omega)) | ((first | refine SWp.skip ?_ | refine SWp.exit ?_ | refine SWp.ret ?_); try (simp (disch := first | omega | (simp only [List.length_set, List.length_append, List.length_cons, List.length_nil, List.length_map]; omega)) only [go_sem, Nat.reduceEqDiff, Nat.reduceBEq, Nat.reduceAdd, Nat.reduceMul, Nat.reduceSub, Nat.reduceLeDiff, Int.reduceToNat, Int.reducePow, hL, hidx, hg, tk, hle, hmk, hnk])) | ((first | refine splitG (fun ht => ?_) (fun ht => ?_) | refine splitGB (fun ht => ?_) (fun ht => ?_) | refine splitR (fun ht => ?_) (fun ht => ?_) | refine splitRB (fun ht => ?_) (fun ht => ?_) | refine splitE (fun ht => ?_) (fun ht => ?_) | refine splitEB (fun ht => ?_) (fun ht => ?_) | refine splitC (fun ht => ?_) (fun ht => ?_) | refine splitCB (fun ht => ?_) (fun ht => ?_)) <;> (simp (disch := first | omega | (simp only [List.length_set, List.length_append, List.length_cons, List.length_nil, List.length_map]; omega)) only [go_sem, Nat.reduceEqDiff, Nat.reduceBEq, Nat.reduceAdd, Nat.reduceMul, Nat.reduceSub, Nat.reduceLeDiff, Int.reduceToNat, Int.reducePow, hL, hidx, hg, tk, hle, hmk, hnk])))
              exact sayV_down hw _ _ _
end Am
end Go.Proofs.YtfofemaglndnjaaDoor
end
section
set_option linter.unusedSimpArgs false
set_option linter.unusedVariables false
/- Proofs: contract: the reference's Check. -/
set_option linter.unusedSimpArgs false
set_option linter.unusedVariables false
namespace Go.Proofs.YtfofemaglndnjaaDoor
namespace Am
def chkH (m n : Int) (o nw : Hash) (ps : List Hash) : Int := chkI m n o.1 nw.1 (hb ps)
theorem chkH_main {m n : Nat} {o nw : Hash} {ps : List Hash} (h0 : 0 < m) (h1 : m < n) (h2 : n ≤ 4096) :
    chkH m n o nw ps = if (saysH (n + 1) m n true o ps).2.2 = true ∧ (saysH (n + 1) m n true o ps).1 = o ∧ (saysH (n + 1) m n true o ps).2.1 = nw then 0 else 80 := by
  have e := says_is (n + 1) m n true o.1 (hb ps) (by omega) h0 (by omega) (.inl h1)
  rw [saysH_is, Bool.not_true, Bool.false_or, ← chkS_is] at e
  unfold chkH chkI
  rw [if_neg (by omega), if_neg (by omega), if_neg (by omega), Int.toNat_natCast, Int.toNat_natCast, ← e]
  generalize saysH (n + 1) m n true o ps = r
  obtain ⟨a, b, t⟩ := r
  cases t with
  | false => simp [okO, fitI]
  | true => simp [okO, fitI, Subtype.ext_iff]
set_option maxHeartbeats 8000000 in
theorem refCheck_to (σ : Store) (m n : Int) (o nw : Hash) (x : AV) (ps : List Hash) (hx : SlV 32 (hr ps) x) (hl : ps.length < 1000000) :
    ACallsTo TC 20 [.int .i64 m, .int .i64 n, .agg (hc o), .agg (hc nw), x] σ (.int .i64 (chkH m n o nw ps)) σ := by
  have r1 := hx.len
  rw [hr_len] at r1
  unfold rLenSl at r1
  have hps : hb ps = [] ↔ ps.length = 0 := by rw [← List.length_eq_zero_iff, hb_len]
  by_cases hb1 : n < 0 ∨ 4096 < n ∨ m < 0 ∨ n < m
  · have e : chkH m n o nw ps = 2 := by unfold chkH chkI; rw [if_pos hb1]
    rw [e]
    refine ACallsTo.of_body speculumref07_Check_ok (by simp) fun hw _ => ?_
    repeat' (first | refine SWp.seq ?_ | refine SWp.block ?_ | refine SWp.scope ?_ | (refine SWp.reg ?_; (simp (disch := first | omega | (simp only [List.length_set, List.length_append, List.length_cons, List.length_nil, List.length_map]; omega)) only [go_sem, Nat.reduceEqDiff, Nat.reduceBEq, Nat.reduceAdd, Nat.reduceMul, Nat.reduceSub, Nat.reduceLeDiff, Int.reduceToNat, Int.reducePow, r1])) | refine SWp.condT rfl ?_ | refine SWp.condF rfl ?_ | (refine SWp.condD rfl (fun ht => ?_) (fun ht => ?_) <;> try (exfalso; omega)) | ((first | refine SWp.skip ?_ | refine SWp.exit ?_ | refine SWp.ret ?_); try (simp (disch := first | omega | (simp only [List.length_set, List.length_append, List.length_cons, List.length_nil, List.length_map]; omega)) only [go_sem, Nat.reduceEqDiff, Nat.reduceBEq, Nat.reduceAdd, Nat.reduceMul, Nat.reduceSub, Nat.reduceLeDiff, Int.reduceToNat, Int.reducePow, r1])) | ((first | refine splitG (fun ht => ?_) (fun ht => ?_) | refine splitGB (fun ht => ?_) (fun ht => ?_) | refine splitR (fun ht => ?_) (fun ht => ?_) | refine splitRB (fun ht => ?_) (fun ht => ?_) | refine splitE (fun ht => ?_) (fun ht => ?_) | refine splitEB (fun ht => ?_) (fun ht => ?_) | refine splitC (fun ht => ?_) (fun ht => ?_) | refine splitCB (fun ht => ?_) (fun ht => ?_)) <;> (simp (disch := first | omega | (simp only [List.length_set, List.length_append, List.length_cons, List.length_nil, List.length_map]; omega)) only [go_sem, Nat.reduceEqDiff, Nat.reduceBEq, Nat.reduceAdd, Nat.reduceMul, Nat.reduceSub, Nat.reduceLeDiff, Int.reduceToNat, Int.reducePow, r1])))
    all_goals exact DownV.pure hw (rlB_ok _ rfl)
  · by_cases hm0 : m = 0
    · subst hm0
      have hS : ∀ σ, ACallsTo TC 65 [.str []] σ (.agg (hc (shaH []))) σ := fun σ => ref_Sum_to σ [] (by simp)
      have e : chkH 0 n o nw ps = if ps.length = 0 ∧ o = shaH [] ∧ (0 < n ∨ o = nw) then 0 else 80 := by
        unfold chkH chkI
        rw [if_neg hb1, if_pos rfl, rootS_nil]
        have h1 : (o.1 = shaS []) ↔ (o = shaH []) := by rw [Subtype.ext_iff]; rfl
        have h2 : (nw.1 = o.1) ↔ (o = nw) := by rw [← Subtype.ext_iff]; exact eq_comm
        simp only [hps, h1, h2]
      rw [e]
      refine ACallsTo.of_body speculumref07_Check_ok (by simp) fun hw _ => ?_
      by_cases c1 : ps.length = 0
      · by_cases c2 : o = shaH []
        · have d2 := decide_eq_true c2
          by_cases c3 : 0 < n
          · rw [if_pos ⟨c1, c2, .inl c3⟩]
            repeat' (first | (apply callW.any; (first | exact (hS _)); all_goals try (simp (disch := first | omega | (simp only [List.length_set, List.length_append, List.length_cons, List.length_nil, List.length_map]; omega)) only [go_sem, Nat.reduceEqDiff, Nat.reduceBEq, Nat.reduceAdd, Nat.reduceMul, Nat.reduceSub, Nat.reduceLeDiff, Int.reduceToNat, Int.reducePow, r1, c1, d2])) | refine SWp.seq ?_ | refine SWp.block ?_ | refine SWp.scope ?_ | (refine SWp.reg ?_; (simp (disch := first | omega | (simp only [List.length_set, List.length_append, List.length_cons, List.length_nil, List.length_map]; omega)) only [go_sem, Nat.reduceEqDiff, Nat.reduceBEq, Nat.reduceAdd, Nat.reduceMul, Nat.reduceSub, Nat.reduceLeDiff, Int.reduceToNat, Int.reducePow, r1, c1, d2])) | refine SWp.condT rfl ?_ | refine SWp.condF rfl ?_ | (refine SWp.condD rfl (fun ht => ?_) (fun ht => ?_) <;> try (exfalso; omega)) | ((first | refine SWp.skip ?_ | refine SWp.exit ?_ | refine SWp.ret ?_); try (simp (disch := first | omega | (simp only [List.length_set, List.length_append, List.length_cons, List.length_nil, List.length_map]; omega)) only [go_sem, Nat.reduceEqDiff, Nat.reduceBEq, Nat.reduceAdd, Nat.reduceMul, Nat.reduceSub, Nat.reduceLeDiff, Int.reduceToNat, Int.reducePow, r1, c1, d2])) | ((first | refine splitG (fun ht => ?_) (fun ht => ?_) | refine splitGB (fun ht => ?_) (fun ht => ?_) | refine splitR (fun ht => ?_) (fun ht => ?_) | refine splitRB (fun ht => ?_) (fun ht => ?_) | refine splitE (fun ht => ?_) (fun ht => ?_) | refine splitEB (fun ht => ?_) (fun ht => ?_) | refine splitC (fun ht => ?_) (fun ht => ?_) | refine splitCB (fun ht => ?_) (fun ht => ?_)) <;> (simp (disch := first | omega | (simp only [List.length_set, List.length_append, List.length_cons, List.length_nil, List.length_map]; omega)) only [go_sem, Nat.reduceEqDiff, Nat.reduceBEq, Nat.reduceAdd, Nat.reduceMul, Nat.reduceSub, Nat.reduceLeDiff, Int.reduceToNat, Int.reducePow, r1, c1, d2])))
            exact DownV.pure hw (rlB_ok _ rfl)
          · by_cases c4 : o = nw
            · have d4 := decide_eq_true c4
              rw [if_pos ⟨c1, c2, .inr c4⟩]
              repeat' (first | (apply callW.any; (first | exact (hS _)); all_goals try (simp (disch := first | omega | (simp only [List.length_set, List.length_append, List.length_cons, List.length_nil, List.length_map]; omega)) only [go_sem, Nat.reduceEqDiff, Nat.reduceBEq, Nat.reduceAdd, Nat.reduceMul, Nat.reduceSub, Nat.reduceLeDiff, Int.reduceToNat, Int.reducePow, r1, c1, d2, d4])) | refine SWp.seq ?_ | refine SWp.block ?_ | refine SWp.scope ?_ | (refine SWp.reg ?_; (simp (disch := first | omega | (simp only [List.length_set, List.length_append, List.length_cons, List.length_nil, List.length_map]; omega)) only [go_sem, Nat.reduceEqDiff, Nat.reduceBEq, Nat.reduceAdd, Nat.reduceMul, Nat.reduceSub, Nat.reduceLeDiff, Int.reduceToNat, Int.reducePow, r1, c1, d2, d4])) | refine SWp.condT rfl ?_ | refine SWp.condF rfl ?_ | (refine SWp.condD rfl (fun ht => ?_) (fun ht => ?_) <;> try (exfalso; omega)) | ((first | refine SWp.skip ?_ | refine SWp.exit ?_ | refine SWp.ret ?_); try (simp (disch := first | omega | (simp only [List.length_set, List.length_append, List.length_cons, List.length_nil, List.length_map]; omega)) only [go_sem, Nat.reduceEqDiff, Nat.reduceBEq, Nat.reduceAdd, Nat.reduceMul, Nat.reduceSub, Nat.reduceLeDiff, Int.reduceToNat, Int.reducePow, r1, c1, d2, d4])) | ((first | refine splitG (fun ht => ?_) (fun ht => ?_) | refine splitGB (fun ht => ?_) (fun ht => ?_) | refine splitR (fun ht => ?_) (fun ht => ?_) | refine splitRB (fun ht => ?_) (fun ht => ?_) | refine splitE (fun ht => ?_) (fun ht => ?_) | refine splitEB (fun ht => ?_) (fun ht => ?_) | refine splitC (fun ht => ?_) (fun ht => ?_) | refine splitCB (fun ht => ?_) (fun ht => ?_)) <;> (simp (disch := first | omega | (simp only [List.length_set, List.length_append, List.length_cons, List.length_nil, List.length_map]; omega)) only [go_sem, Nat.reduceEqDiff, Nat.reduceBEq, Nat.reduceAdd, Nat.reduceMul, Nat.reduceSub, Nat.reduceLeDiff, Int.reduceToNat, Int.reducePow, r1, c1, d2, d4])))
              exact DownV.pure hw (rlB_ok _ rfl)
            · have d4 := decide_eq_false c4
              rw [if_neg (fun h => h.2.2.elim c3 c4)]
              repeat' (first | (apply callW.any; (first | exact (hS _)); all_goals try (simp (disch := first | omega | (simp only [List.length_set, List.length_append, List.length_cons, List.length_nil, List.length_map]; omega)) only [go_sem, Nat.reduceEqDiff, Nat.reduceBEq, Nat.reduceAdd, Nat.reduceMul, Nat.reduceSub, Nat.reduceLeDiff, Int.reduceToNat, Int.reducePow, r1, c1, d2, d4])) | refine SWp.seq ?_ | refine SWp.block ?_ | refine SWp.scope ?_ | (refine SWp.reg ?_; (simp (disch := first | omega | (simp only [List.length_set, List.length_append, List.length_cons, List.length_nil, List.length_map]; omega)) only [go_sem, Nat.reduceEqDiff, Nat.reduceBEq, Nat.reduceAdd, Nat.reduceMul, Nat.reduceSub, Nat.reduceLeDiff, Int.reduceToNat, Int.reducePow, r1, c1, d2, d4])) | refine SWp.condT rfl ?_ | refine SWp.condF rfl ?_ | (refine SWp.condD rfl (fun ht => ?_) (fun ht => ?_) <;> try (exfalso; omega)) | ((first | refine SWp.skip ?_ | refine SWp.exit ?_ | refine SWp.ret ?_); try (simp (disch := first | omega | (simp only [List.length_set, List.length_append, List.length_cons, List.length_nil, List.length_map]; omega)) only [go_sem, Nat.reduceEqDiff, Nat.reduceBEq, Nat.reduceAdd, Nat.reduceMul, Nat.reduceSub, Nat.reduceLeDiff, Int.reduceToNat, Int.reducePow, r1, c1, d2, d4])) | ((first | refine splitG (fun ht => ?_) (fun ht => ?_) | refine splitGB (fun ht => ?_) (fun ht => ?_) | refine splitR (fun ht => ?_) (fun ht => ?_) | refine splitRB (fun ht => ?_) (fun ht => ?_) | refine splitE (fun ht => ?_) (fun ht => ?_) | refine splitEB (fun ht => ?_) (fun ht => ?_) | refine splitC (fun ht => ?_) (fun ht => ?_) | refine splitCB (fun ht => ?_) (fun ht => ?_)) <;> (simp (disch := first | omega | (simp only [List.length_set, List.length_append, List.length_cons, List.length_nil, List.length_map]; omega)) only [go_sem, Nat.reduceEqDiff, Nat.reduceBEq, Nat.reduceAdd, Nat.reduceMul, Nat.reduceSub, Nat.reduceLeDiff, Int.reduceToNat, Int.reducePow, r1, c1, d2, d4])))
              exact DownV.pure hw (rlB_ok _ rfl)
        · have d2 := decide_eq_false c2
          rw [if_neg (fun h => c2 h.2.1)]
          repeat' (first | (apply callW.any; (first | exact (hS _)); all_goals try (simp (disch := first | omega | (simp only [List.length_set, List.length_append, List.length_cons, List.length_nil, List.length_map]; omega)) only [go_sem, Nat.reduceEqDiff, Nat.reduceBEq, Nat.reduceAdd, Nat.reduceMul, Nat.reduceSub, Nat.reduceLeDiff, Int.reduceToNat, Int.reducePow, r1, c1, d2])) | refine SWp.seq ?_ | refine SWp.block ?_ | refine SWp.scope ?_ | (refine SWp.reg ?_; (simp (disch := first | omega | (simp only [List.length_set, List.length_append, List.length_cons, List.length_nil, List.length_map]; omega)) only [go_sem, Nat.reduceEqDiff, Nat.reduceBEq, Nat.reduceAdd, Nat.reduceMul, Nat.reduceSub, Nat.reduceLeDiff, Int.reduceToNat, Int.reducePow, r1, c1, d2])) | refine SWp.condT rfl ?_ | refine SWp.condF rfl ?_ | (refine SWp.condD rfl (fun ht => ?_) (fun ht => ?_) <;> try (exfalso; omega)) | ((first | refine SWp.skip ?_ | refine SWp.exit ?_ | refine SWp.ret ?_); try (simp (disch := first | omega | (simp only [List.length_set, List.length_append, List.length_cons, List.length_nil, List.length_map]; omega)) only [go_sem, Nat.reduceEqDiff, Nat.reduceBEq, Nat.reduceAdd, Nat.reduceMul, Nat.reduceSub, Nat.reduceLeDiff, Int.reduceToNat, Int.reducePow, r1, c1, d2])) | ((first | refine splitG (fun ht => ?_) (fun ht => ?_) | refine splitGB (fun ht => ?_) (fun ht => ?_) | refine splitR (fun ht => ?_) (fun ht => ?_) | refine splitRB (fun ht => ?_) (fun ht => ?_) | refine splitE (fun ht => ?_) (fun ht => ?_) | refine splitEB (fun ht => ?_) (fun ht => ?_) | refine splitC (fun ht => ?_) (fun ht => ?_) | refine splitCB (fun ht => ?_) (fun ht => ?_)) <;> (simp (disch := first | omega | (simp only [List.length_set, List.length_append, List.length_cons, List.length_nil, List.length_map]; omega)) only [go_sem, Nat.reduceEqDiff, Nat.reduceBEq, Nat.reduceAdd, Nat.reduceMul, Nat.reduceSub, Nat.reduceLeDiff, Int.reduceToNat, Int.reducePow, r1, c1, d2])))
          exact DownV.pure hw (rlB_ok _ rfl)
      · have c1' : ¬ (ps.length : Int) = 0 := by omega
        rw [if_neg (fun h => c1 h.1)]
        repeat' (first | (apply callW.any; (first | exact (hS _)); all_goals try (simp (disch := first | omega | (simp only [List.length_set, List.length_append, List.length_cons, List.length_nil, List.length_map]; omega)) only [go_sem, Nat.reduceEqDiff, Nat.reduceBEq, Nat.reduceAdd, Nat.reduceMul, Nat.reduceSub, Nat.reduceLeDiff, Int.reduceToNat, Int.reducePow, r1, c1'])) | refine SWp.seq ?_ | refine SWp.block ?_ | refine SWp.scope ?_ | (refine SWp.reg ?_; (simp (disch := first | omega | (simp only [List.length_set, List.length_append, List.length_cons, List.length_nil, List.length_map]; omega)) only [go_sem, Nat.reduceEqDiff, Nat.reduceBEq, Nat.reduceAdd, Nat.reduceMul, Nat.reduceSub, Nat.reduceLeDiff, Int.reduceToNat, Int.reducePow, r1, c1'])) | refine SWp.condT rfl ?_ | refine SWp.condF rfl ?_ | (refine SWp.condD rfl (fun ht => ?_) (fun ht => ?_) <;> try (exfalso; omega)) | ((first | refine SWp.skip ?_ | refine SWp.exit ?_ | refine SWp.ret ?_); try (simp (disch := first | omega | (simp only [List.length_set, List.length_append, List.length_cons, List.length_nil, List.length_map]; omega)) only [go_sem, Nat.reduceEqDiff, Nat.reduceBEq, Nat.reduceAdd, Nat.reduceMul, Nat.reduceSub, Nat.reduceLeDiff, Int.reduceToNat, Int.reducePow, r1, c1'])) | ((first | refine splitG (fun ht => ?_) (fun ht => ?_) | refine splitGB (fun ht => ?_) (fun ht => ?_) | refine splitR (fun ht => ?_) (fun ht => ?_) | refine splitRB (fun ht => ?_) (fun ht => ?_) | refine splitE (fun ht => ?_) (fun ht => ?_) | refine splitEB (fun ht => ?_) (fun ht => ?_) | refine splitC (fun ht => ?_) (fun ht => ?_) | refine splitCB (fun ht => ?_) (fun ht => ?_)) <;> (simp (disch := first | omega | (simp only [List.length_set, List.length_append, List.length_cons, List.length_nil, List.length_map]; omega)) only [go_sem, Nat.reduceEqDiff, Nat.reduceBEq, Nat.reduceAdd, Nat.reduceMul, Nat.reduceSub, Nat.reduceLeDiff, Int.reduceToNat, Int.reducePow, r1, c1'])))
        exact DownV.pure hw (rlB_ok _ rfl)
    · by_cases hmn : m = n
      · subst hmn
        have e : chkH m m o nw ps = if ps.length = 0 ∧ o = nw then 0 else 80 := by
          unfold chkH chkI
          rw [if_neg hb1, if_neg hm0, if_pos rfl]
          simp only [hps, ← Subtype.ext_iff]
        rw [e]
        refine ACallsTo.of_body speculumref07_Check_ok (by simp) fun hw _ => ?_
        by_cases c1 : ps.length = 0
        · by_cases c2 : o = nw
          · have d2 := decide_eq_true c2
            rw [if_pos ⟨c1, c2⟩]
            repeat' (first | refine SWp.seq ?_ | refine SWp.block ?_ | refine SWp.scope ?_ | (refine SWp.reg ?_; (simp (disch := first | omega | (simp only [List.length_set, List.length_append, List.length_cons, List.length_nil, List.length_map]; omega)) only [go_sem, Nat.reduceEqDiff, Nat.reduceBEq, Nat.reduceAdd, Nat.reduceMul, Nat.reduceSub, Nat.reduceLeDiff, Int.reduceToNat, Int.reducePow, r1, c1, d2])) | refine SWp.condT rfl ?_ | refine SWp.condF rfl ?_ | (refine SWp.condD rfl (fun ht => ?_) (fun ht => ?_) <;> try (exfalso; omega)) | ((first | refine SWp.skip ?_ | refine SWp.exit ?_ | refine SWp.ret ?_); try (simp (disch := first | omega | (simp only [List.length_set, List.length_append, List.length_cons, List.length_nil, List.length_map]; omega)) only [go_sem, Nat.reduceEqDiff, Nat.reduceBEq, Nat.reduceAdd, Nat.reduceMul, Nat.reduceSub, Nat.reduceLeDiff, Int.reduceToNat, Int.reducePow, r1, c1, d2])) | ((first | refine splitG (fun ht => ?_) (fun ht => ?_) | refine splitGB (fun ht => ?_) (fun ht => ?_) | refine splitR (fun ht => ?_) (fun ht => ?_) | refine splitRB (fun ht => ?_) (fun ht => ?_) | refine splitE (fun ht => ?_) (fun ht => ?_) | refine splitEB (fun ht => ?_) (fun ht => ?_) | refine splitC (fun ht => ?_) (fun ht => ?_) | refine splitCB (fun ht => ?_) (fun ht => ?_)) <;> (simp (disch := first | omega | (simp only [List.length_set, List.length_append, List.length_cons, List.length_nil, List.length_map]; omega)) only [go_sem, Nat.reduceEqDiff, Nat.reduceBEq, Nat.reduceAdd, Nat.reduceMul, Nat.reduceSub, Nat.reduceLeDiff, Int.reduceToNat, Int.reducePow, r1, c1, d2])))
            exact DownV.pure hw (rlB_ok _ rfl)
          · have d2 := decide_eq_false c2
            rw [if_neg (fun h => c2 h.2)]
            repeat' (first | refine SWp.seq ?_ | refine SWp.block ?_ | refine SWp.scope ?_ | (refine SWp.reg ?_; (simp (disch := first | omega | (simp only [List.length_set, List.length_append, List.length_cons, List.length_nil, List.length_map]; omega)) only [go_sem, Nat.reduceEqDiff, Nat.reduceBEq, Nat.reduceAdd, Nat.reduceMul, Nat.reduceSub, Nat.reduceLeDiff, Int.reduceToNat, Int.reducePow, r1, c1, d2])) | refine SWp.condT rfl ?_ | refine SWp.condF rfl ?_ | (refine SWp.condD rfl (fun ht => ?_) (fun ht => ?_) <;> try (exfalso; omega)) | ((first | refine SWp.skip ?_ | refine SWp.exit ?_ | refine SWp.ret ?_); try (simp (disch := first | omega | (simp only [List.length_set, List.length_append, List.length_cons, List.length_nil, List.length_map]; omega)) only [go_sem, Nat.reduceEqDiff, Nat.reduceBEq, Nat.reduceAdd, Nat.reduceMul, Nat.reduceSub, Nat.reduceLeDiff, Int.reduceToNat, Int.reducePow, r1, c1, d2])) | ((first | refine splitG (fun ht => ?_) (fun ht => ?_) | refine splitGB (fun ht => ?_) (fun ht => ?_) | refine splitR (fun ht => ?_) (fun ht => ?_) | refine splitRB (fun ht => ?_) (fun ht => ?_) | refine splitE (fun ht => ?_) (fun ht => ?_) | refine splitEB (fun ht => ?_) (fun ht => ?_) | refine splitC (fun ht => ?_) (fun ht => ?_) | refine splitCB (fun ht => ?_) (fun ht => ?_)) <;> (simp (disch := first | omega | (simp only [List.length_set, List.length_append, List.length_cons, List.length_nil, List.length_map]; omega)) only [go_sem, Nat.reduceEqDiff, Nat.reduceBEq, Nat.reduceAdd, Nat.reduceMul, Nat.reduceSub, Nat.reduceLeDiff, Int.reduceToNat, Int.reducePow, r1, c1, d2])))
            exact DownV.pure hw (rlB_ok _ rfl)
        · have c1' : ¬ (ps.length : Int) = 0 := by omega
          rw [if_neg (fun h => c1 h.1)]
          repeat' (first | refine SWp.seq ?_ | refine SWp.block ?_ | refine SWp.scope ?_ | (refine SWp.reg ?_; (simp (disch := first | omega | (simp only [List.length_set, List.length_append, List.length_cons, List.length_nil, List.length_map]; omega)) only [go_sem, Nat.reduceEqDiff, Nat.reduceBEq, Nat.reduceAdd, Nat.reduceMul, Nat.reduceSub, Nat.reduceLeDiff, Int.reduceToNat, Int.reducePow, r1, c1'])) | refine SWp.condT rfl ?_ | refine SWp.condF rfl ?_ | (refine SWp.condD rfl (fun ht => ?_) (fun ht => ?_) <;> try (exfalso; omega)) | ((first | refine SWp.skip ?_ | refine SWp.exit ?_ | refine SWp.ret ?_); try (simp (disch := first | omega | (simp only [List.length_set, List.length_append, List.length_cons, List.length_nil, List.length_map]; omega)) only [go_sem, Nat.reduceEqDiff, Nat.reduceBEq, Nat.reduceAdd, Nat.reduceMul, Nat.reduceSub, Nat.reduceLeDiff, Int.reduceToNat, Int.reducePow, r1, c1'])) | ((first | refine splitG (fun ht => ?_) (fun ht => ?_) | refine splitGB (fun ht => ?_) (fun ht => ?_) | refine splitR (fun ht => ?_) (fun ht => ?_) | refine splitRB (fun ht => ?_) (fun ht => ?_) | refine splitE (fun ht => ?_) (fun ht => ?_) | refine splitEB (fun ht => ?_) (fun ht => ?_) | refine splitC (fun ht => ?_) (fun ht => ?_) | refine splitCB (fun ht => ?_) (fun ht => ?_)) <;> (simp (disch := first | omega | (simp only [List.length_set, List.length_append, List.length_cons, List.length_nil, List.length_map]; omega)) only [go_sem, Nat.reduceEqDiff, Nat.reduceBEq, Nat.reduceAdd, Nat.reduceMul, Nat.reduceSub, Nat.reduceLeDiff, Int.reduceToNat, Int.reducePow, r1, c1'])))
          exact DownV.pure hw (rlB_ok _ rfl)
      · obtain ⟨m, rfl⟩ : ∃ k : Nat, m = k := ⟨m.toNat, by omega⟩
        obtain ⟨n, rfl⟩ : ∃ k : Nat, n = k := ⟨n.toNat, by omega⟩
        rw [chkH_main (by omega) (by omega) (by omega)]
        have i1 := fun σ => says_to (n + 1) σ m n true o x ps (by omega) (by omega) (by omega) (by omega) hx hl
        unfold sayV at i1
        generalize saysH (n + 1) m n true o ps = r at *
        obtain ⟨a, b, t⟩ := r
        simp only at i1 ⊢
        refine ACallsTo.of_body speculumref07_Check_ok (by simp) fun hw _ => ?_
        cases t with
        | false =>
          rw [if_neg (fun h => by cases h.1)]
          repeat' (first | (apply callW.any; (first | exact (i1 _)); all_goals try (simp (disch := first | omega | (simp only [List.length_set, List.length_append, List.length_cons, List.length_nil, List.length_map]; omega)) only [go_sem, Nat.reduceEqDiff, Nat.reduceBEq, Nat.reduceAdd, Nat.reduceMul, Nat.reduceSub, Nat.reduceLeDiff, Int.reduceToNat, Int.reducePow])) | refine SWp.seq ?_ | refine SWp.block ?_ | refine SWp.scope ?_ | (refine SWp.reg ?_; (simp (disch := first | omega | (simp only [List.length_set, List.length_append, List.length_cons, List.length_nil, List.length_map]; omega)) only [go_sem, Nat.reduceEqDiff, Nat.reduceBEq, Nat.reduceAdd, Nat.reduceMul, Nat.reduceSub, Nat.reduceLeDiff, Int.reduceToNat, Int.reducePow])) | refine SWp.condT rfl ?_ | refine SWp.condF rfl ?_ | (refine SWp.condD rfl (fun ht => ?_) (fun ht => ?_) <;> try (exfalso; omega)) | ((first | refine SWp.skip ?_ | refine SWp.exit ?_ | refine SWp.ret ?_); try (simp (disch := first | omega | (simp only [List.length_set, List.length_append, List.length_cons, List.length_nil, List.length_map]; omega)) only [go_sem, Nat.reduceEqDiff, Nat.reduceBEq, Nat.reduceAdd, Nat.reduceMul, Nat.reduceSub, Nat.reduceLeDiff, Int.reduceToNat, Int.reducePow])) | ((first | refine splitG (fun ht => ?_) (fun ht => ?_) | refine splitGB (fun ht => ?_) (fun ht => ?_) | refine splitR (fun ht => ?_) (fun ht => ?_) | refine splitRB (fun ht => ?_) (fun ht => ?_) | refine splitE (fun ht => ?_) (fun ht => ?_) | refine splitEB (fun ht => ?_) (fun ht => ?_) | refine splitC (fun ht => ?_) (fun ht => ?_) | refine splitCB (fun ht => ?_) (fun ht => ?_)) <;> (simp (disch := first | omega | (simp only [List.length_set, List.length_append, List.length_cons, List.length_nil, List.length_map]; omega)) only [go_sem, Nat.reduceEqDiff, Nat.reduceBEq, Nat.reduceAdd, Nat.reduceMul, Nat.reduceSub, Nat.reduceLeDiff, Int.reduceToNat, Int.reducePow])))
          exact DownV.pure hw (rlB_ok _ rfl)
        | true =>
          by_cases c1 : a = o
          · have d1 := decide_eq_true c1
            by_cases c2 : b = nw
            · have d2 := decide_eq_true c2
              rw [if_pos ⟨rfl, c1, c2⟩]
              repeat' (first | (apply callW.any; (first | exact (i1 _)); all_goals try (simp (disch := first | omega | (simp only [List.length_set, List.length_append, List.length_cons, List.length_nil, List.length_map]; omega)) only [go_sem, Nat.reduceEqDiff, Nat.reduceBEq, Nat.reduceAdd, Nat.reduceMul, Nat.reduceSub, Nat.reduceLeDiff, Int.reduceToNat, Int.reducePow, d1, d2])) | refine SWp.seq ?_ | refine SWp.block ?_ | refine SWp.scope ?_ | (refine SWp.reg ?_; (simp (disch := first | omega | (simp only [List.length_set, List.length_append, List.length_cons, List.length_nil, List.length_map]; omega)) only [go_sem, Nat.reduceEqDiff, Nat.reduceBEq, Nat.reduceAdd, Nat.reduceMul, Nat.reduceSub, Nat.reduceLeDiff, Int.reduceToNat, Int.reducePow, d1, d2])) | refine SWp.condT rfl ?_ | refine SWp.condF rfl ?_ | (refine SWp.condD rfl (fun ht => ?_) (fun ht => ?_) <;> try (exfalso; omega)) | ((first | refine SWp.skip ?_ | refine SWp.exit ?_ | refine SWp.ret ?_); try (simp (disch := first | omega | (simp only [List.length_set, List.length_append, List.length_cons, List.length_nil, List.length_map]; omega)) only [go_sem, Nat.reduceEqDiff, Nat.reduceBEq, Nat.reduceAdd, Nat.reduceMul, Nat.reduceSub, Nat.reduceLeDiff, Int.reduceToNat, Int.reducePow, d1, d2])) | ((first | refine splitG (fun ht => ?_) (fun ht => ?_) | refine splitGB (fun ht => ?_) (fun ht => ?_) | refine splitR (fun ht => ?_) (fun ht => ?_) | refine splitRB (fun ht => ?_) (fun ht => ?_) | refine splitE (fun ht => ?_) (fun ht => ?_) | refine splitEB (fun ht => ?_) (fun ht => ?_) | refine splitC (fun ht => ?_) (fun ht => ?_) | refine splitCB (fun ht => ?_) (fun ht => ?_)) <;> (simp (disch := first | omega | (simp only [List.length_set, List.length_append, List.length_cons, List.length_nil, List.length_map]; omega)) only [go_sem, Nat.reduceEqDiff, Nat.reduceBEq, Nat.reduceAdd, Nat.reduceMul, Nat.reduceSub, Nat.reduceLeDiff, Int.reduceToNat, Int.reducePow, d1, d2])))
              exact DownV.pure hw (rlB_ok _ rfl)
            · have d2 := decide_eq_false c2
              rw [if_neg (fun h => c2 h.2.2)]
              repeat' (first | (apply callW.any; (first | exact (i1 _)); all_goals try (simp (disch := first | omega | (simp only [List.length_set, List.length_append, List.length_cons, List.length_nil, List.length_map]; omega)) only [go_sem, Nat.reduceEqDiff, Nat.reduceBEq, Nat.reduceAdd, Nat.reduceMul, Nat.reduceSub, Nat.reduceLeDiff, Int.reduceToNat, Int.reducePow, d1, d2])) | refine SWp.seq ?_ | refine SWp.block ?_ | refine SWp.scope ?_ | (refine SWp.reg ?_; (simp (disch := first | omega | (simp only [List.length_set, List.length_append, List.length_cons, List.length_nil, List.length_map]; omega)) only [go_sem, Nat.reduceEqDiff, Nat.reduceBEq, Nat.reduceAdd, Nat.reduceMul, Nat.reduceSub, Nat.reduceLeDiff, Int.reduceToNat, Int.reducePow, d1, d2])) | refine SWp.condT rfl ?_ | refine SWp.condF rfl ?_ | (refine SWp.condD rfl (fun ht => ?_) (fun ht => ?_) <;> try (exfalso; omega)) | ((first | refine SWp.skip ?_ | refine SWp.exit ?_ | refine SWp.ret ?_); try (simp (disch := first | omega | (simp only [List.length_set, List.length_append, List.length_cons, List.length_nil, List.length_map]; omega)) only [go_sem, Nat.reduceEqDiff, Nat.reduceBEq, Nat.reduceAdd, Nat.reduceMul, Nat.reduceSub, Nat.reduceLeDiff, Int.reduceToNat, Int.reducePow, d1, d2])) | ((first | refine splitG (fun ht => ?_) (fun ht => ?_) | refine splitGB (fun ht => ?_) (fun ht => ?_) | refine splitR (fun ht => ?_) (fun ht => ?_) | refine splitRB (fun ht => ?_) (fun ht => ?_) | refine splitE (fun ht => ?_) (fun ht => ?_) | refine splitEB (fun ht => ?_) (fun ht => ?_) | refine splitC (fun ht => ?_) (fun ht => ?_) | refine splitCB (fun ht => ?_) (fun ht => ?_)) <;> (simp (disch := first | omega | (simp only [List.length_set, List.length_append, List.length_cons, List.length_nil, List.length_map]; omega)) only [go_sem, Nat.reduceEqDiff, Nat.reduceBEq, Nat.reduceAdd, Nat.reduceMul, Nat.reduceSub, Nat.reduceLeDiff, Int.reduceToNat, Int.reducePow, d1, d2])))
              exact DownV.pure hw (rlB_ok _ rfl)
          · have d1 := decide_eq_false c1
            rw [if_neg (fun h => c1 h.2.1)]
            repeat' (first | (apply callW.any; (first | exact (i1 _)); all_goals try (simp (disch := first | omega | (simp only [List.length_set, List.length_append, List.length_cons, List.length_nil, List.length_map]; omega)) only [go_sem, Nat.reduceEqDiff, Nat.reduceBEq, Nat.reduceAdd, Nat.reduceMul, Nat.reduceSub, Nat.reduceLeDiff, Int.reduceToNat, Int.reducePow, d1])) | refine SWp.seq ?_ | refine SWp.block ?_ | refine SWp.scope ?_ | (refine SWp.reg ?_; (simp (disch := first | omega | (simp only [List.length_set, List.length_append, List.length_cons, List.length_nil, List.length_map]; omega)) only [go_sem, Nat.reduceEqDiff, Nat.reduceBEq, Nat.reduceAdd, Nat.reduceMul, Nat.reduceSub, Nat.reduceLeDiff, Int.reduceToNat, Int.reducePow, d1])) | refine SWp.condT rfl ?_ | refine SWp.condF rfl ?_ | (refine SWp.condD rfl (fun ht => ?_) (fun ht => ?_) <;> try (exfalso; omega)) | ((first | refine SWp.skip ?_ | refine SWp.exit ?_ | refine SWp.ret ?_); try (simp (disch := first | omega | (simp only [List.length_set, List.length_append, List.length_cons, List.length_nil, List.length_map]; omega)) only [go_sem, Nat.reduceEqDiff, Nat.reduceBEq, Nat.reduceAdd, Nat.reduceMul, Nat.reduceSub, Nat.reduceLeDiff, Int.reduceToNat, Int.reducePow, d1])) | ((first | refine splitG (fun ht => ?_) (fun ht => ?_) | refine splitGB (fun ht => ?_) (fun ht => ?_) | refine splitR (fun ht => ?_) (fun ht => ?_) | refine splitRB (fun ht => ?_) (fun ht => ?_) | refine splitE (fun ht => ?_) (fun ht => ?_) | refine splitEB (fun ht => ?_) (fun ht => ?_) | refine splitC (fun ht => ?_) (fun ht => ?_) | refine splitCB (fun ht => ?_) (fun ht => ?_)) <;> (simp (disch := first | omega | (simp only [List.length_set, List.length_append, List.length_cons, List.length_nil, List.length_map]; omega)) only [go_sem, Nat.reduceEqDiff, Nat.reduceBEq, Nat.reduceAdd, Nat.reduceMul, Nat.reduceSub, Nat.reduceLeDiff, Int.reduceToNat, Int.reducePow, d1])))
            exact DownV.pure hw (rlB_ok _ rfl)
end Am
end Go.Proofs.YtfofemaglndnjaaDoor
end
section
set_option linter.unusedSimpArgs false
set_option linter.unusedVariables false
/- Proofs: the law ProofsCheck: its contract. -/
set_option linter.unusedSimpArgs false
set_option linter.unusedVariables false
namespace Go.Proofs.YtfofemaglndnjaaDoor
namespace Am
theorem rlH {k : Nat} (h : Hash) : RL k (.agg (hc h)) := rl_agg (rl_hc h)
theorem Check_h (σ : Store) (m n : Int) (o nw : Hash) (x : AV) (ps : List Hash) (hx : RdSl σ 32 (hr ps) x) (hl : ps.length < 1000000) :
    ACallsTo TC 19 [.int .i64 m, .int .i64 n, .agg (hc o), .agg (hc nw), x] σ (.int .i64 (chkH m n o nw ps)) σ :=
  Check_rd σ m n o.1 nw.1 x (hb ps) (by rw [hr_hb]; exact hx) (hb_H ps) o.2 nw.2 (by rw [hb_len]; exact hl)
theorem refCheck_h (σ : Store) (m n : Int) (o nw : Hash) (x : AV) (ps : List Hash) (hx : RdSl σ 32 (hr ps) x) (hl : ps.length < 1000000) :
    ACallsTo TC 20 [.int .i64 m, .int .i64 n, .agg (hc o), .agg (hc nw), x] σ (.int .i64 (chkH m n o nw ps)) σ := by
  obtain ⟨x0, h0, hd⟩ := hx.lend (rlss_hr ps)
  have hi : ∀ i : Int, RL 0 (.int .i64 i) := fun i => by simp [RL]
  have := ACallsTo.lend glok (refCheck_to [] m n o nw x0 ps h0 hl) (drsc (rl0 (hi m) σ) (drsc (rl0 (hi n) σ) (drsc (rl0 (rlH o) σ) (drsc (rl0 (rlH nw) σ) (drs1 hd)))))
  rwa [show sh σ.length (.int .i64 (chkH m n o nw ps)) = .int .i64 (chkH m n o nw ps) from rfl, shS_nil, List.append_nil] at this
def proofH (l : List Hash) (m : Int) : List Hash := unb (proofL (hb l) m)
theorem proofH_hb (l : List Hash) (m : Int) : hb (proofH l m) = proofL (hb l) m := unb_hb (proofL_H (hb_H l))
theorem proofH_len (l : List Hash) (m : Int) : (proofH l m).length ≤ l.length + 1 := by
  have := proofL_le (m := m) (hb_H l)
  rwa [← proofH_hb, hb_len, hb_len] at this
theorem slVal_rd {sz : Nat} {es : List (List AV)} {σ : Store} : RdSl σ sz es (slVal sz es) := .of (slVal_is sz es)
theorem refProof_v (σ : Store) (l : List Hash) (x : AV) (m : Int) (hx : SlV 32 (hr l) x) (hl : l.length < 1000000) :
    ACallsTo TC 17 [x, .int .i64 m] σ (.tup [slVal 32 (hr (proofH l m)), .int .i64 (proofE (hb l) m)]) σ := by
  refine ACallsP.toDown (refProof_to σ (hb l) x m (by rw [hr_hb]; exact hx) (hb_H l) (by rw [hb_len]; exact hl)) fun hw v σ' h => ?_
  obtain ⟨v2, rfl, h⟩ := h
  rw [← proofH_hb, hr_hb] at h
  obtain ⟨y, rfl⟩ := h.ext
  refine DownV.all hw (drT (drsc ?_ (drs1 (FrzD.same (by simp [RL])))))
  rcases h with h | ⟨rfl, h0, _⟩
  · exact h.frz (rlss_hr _)
  · unfold slVal
    rw [if_neg h0]
    simp only [DR]
    exact .inl ⟨_, _, rfl, by simp, DRss.refl (keepD_base _ _ _) _ (rlss_hr _)⟩
attribute [local irreducible] ACallsTo ACallsP
set_option maxHeartbeats 16000000 in
theorem ProofsCheck_to (M N : Int) (o nw : Hash) (x : AV) (ps : List Hash) (hx : SlV 32 (hr ps) x) (hM : -9223372036854775808 ≤ M ∧ M ≤ 9223372036854775807) (hN : -9223372036854775808 ≤ N ∧ N ≤ 9223372036854775807) :
    ACallsTo TC 4 [.agg (.int .i64 M :: .int .i64 N :: (hc o ++ hc nw)), x] [] (.bool true) [] := by
  have r1 := hx.len
  rw [hr_len] at r1
  unfold rLenSl at r1
  refine ACallsTo.of_body speculumlaw07_ProofsCheck_ok (by simp) fun hw _ => ?_
  by_cases hl : ps.length ≤ 80
  · have hC1 := fun σ m n a b => Check_h σ m n a b x ps (.of hx) (by omega)
    have hR1 := fun σ m n a b => refCheck_h σ m n a b x ps (.of hx) (by omega)
    obtain ⟨n, hn⟩ : ∃ n : Nat, N % 128 = n := ⟨(N % 128).toNat, by omega⟩
    obtain ⟨m1, hm1⟩ : ∃ n : Nat, M % 128 = n := ⟨(M % 128).toNat, by omega⟩
    have mN : intBin .and .i64 N 127 = some (.int .i64 n) := by have := and_mask N 7 (by decide); simpa [hn] using this
    have mM : intBin .and .i64 M 127 = some (.int .i64 m1) := by have := and_mask M 7 (by decide); simpa [hm1] using this
    obtain ⟨m, hm⟩ : ∃ m : Nat, (m1 : Int) % ((n : Int) + 1) = m := ⟨m1 % (n + 1), by simp⟩
    have hn1 : ¬ (n : Int) + 1 = 0 := by omega
    have hmn : m ≤ n := by
      have := Int.emod_lt_of_pos (m1 : Int) (b := (n : Int) + 1) (by omega)
      omega
    obtain ⟨seed, hseed⟩ : ∃ s : UInt8, M % 256 = (s.toNat : Int) := ⟨UInt8.ofNat (M % 256).toNat, by rw [UInt8.toNat_ofNat']; omega⟩
    have hS := fun σ => Some_h σ n seed (by omega)
    simp only [Int.toNat_natCast] at hS
    obtain ⟨L, hL⟩ : ∃ L, someL seed n = L := ⟨_, rfl⟩
    have hLl : L.length = n := by rw [← hL, someL_len]
    have hmL : m ≤ (hb L).length := by rw [hb_len]; omega
    have hk0 := honest_chk (l := hb L) (m := m) hmL (by rw [hb_len]; omega)
    have hE : proofE (hb L) m = 0 := by unfold proofE; rw [if_neg (by omega)]
    obtain ⟨p, hp⟩ : ∃ p, proofH L m = p := ⟨_, rfl⟩
    have hpl := proofH_len L m
    rw [hp] at hpl
    have hk : chkH m n (rootH (L.take m)) (rootH L) p = 0 := by
      rw [← hLl, ← hp]
      unfold chkH
      rw [proofH_hb, ← hb_len]
      rw [hb_take] at hk0
      exact hk0
    rw [hL] at hS
    have hspl : SlV 32 (hr p) (slVal 32 (hr p)) := slVal_is _ _
    have hpr := hspl.len
    rw [hr_len] at hpr
    unfold rLenSl at hpr
    have hC2 := fun σ m n a b => Check_h σ m n a b (slVal 32 (hr p)) p slVal_rd (by omega)
    have hR2 := fun σ m n a b => refCheck_h σ m n a b (slVal 32 (hr p)) p slVal_rd (by omega)
    have hC3 : ∀ σ m n a b r k, σ[r]? = some (some (hr (p.set k o))) → ACallsTo TC 19 [.int .i64 m, .int .i64 n, .agg (hc a), .agg (hc b), .sl r 0 p.length none 32] σ (.int .i64 (chkH m n a b (p.set k o))) σ := fun σ m n a b r k hg =>
      Check_h σ m n a b _ _ (.inr ⟨r, 0, none, hr (p.set k o), by simp [hr_len], hg, by omega, by simp⟩) (by simp; omega)
    have hR3 : ∀ σ m n a b r k, σ[r]? = some (some (hr (p.set k o))) → ACallsTo TC 20 [.int .i64 m, .int .i64 n, .agg (hc a), .agg (hc b), .sl r 0 p.length none 32] σ (.int .i64 (chkH m n a b (p.set k o))) σ := fun σ m n a b r k hg =>
      refCheck_h σ m n a b _ _ (.inr ⟨r, 0, none, hr (p.set k o), by simp [hr_len], hg, by omega, by simp⟩) (by simp; omega)
    have hRL := fun σ y hy => trees_Root_h σ L y (.of hy) (by omega)
    have hRm := fun σ y hy => trees_Root_h σ (L.take m) y (.of hy) (by rw [List.length_take]; omega)
    have hP := fun σ y hy => refProof_v σ L y m hy (by omega)
    rw [hE, hp] at hP
    generalize hA : rootH (L.take m) = A at *
    generalize hB : rootH L = B at *
    generalize hsv : slVal 32 (hr p) = pv at *
    by_cases hn0 : n = 0
    · subst hn0
      obtain rfl : m = 0 := by omega
      obtain rfl : L = [] := List.eq_nil_of_length_eq_zero hLl
      have hSv : ∀ σ, ACallsTo TC 21 [.int .i64 (0 : Nat), .int .u8 seed.toNat] σ .nilsl σ := hS
      have hRm0 : ∀ σ, ACallsTo TC 22 [.nilsl] σ (.agg (hc A)) σ := fun σ => hRm σ .nilsl (.inl ⟨rfl, rfl⟩)
      have hRL0 : ∀ σ, ACallsTo TC 22 [.nilsl] σ (.agg (hc B)) σ := fun σ => hRL σ .nilsl (.inl ⟨rfl, rfl⟩)
      have hP0 := fun σ => hP σ .nilsl (.inl ⟨rfl, rfl⟩)
      have hAB : A = B := by rw [← hA, ← hB]; rfl
      subst hAB
      repeat' (first | (apply callW.any; (first | exact (hC1 _ _ _ _ _) | exact (hR1 _ _ _ _ _) | exact (hSv _) | exact (hP0 _) | exact (hRL0 _) | exact (hC2 _ _ _ _ _) | exact (hR2 _ _ _ _ _)); all_goals try (simp (disch := first | omega | (simp only [List.length_set, List.length_append, List.length_cons, List.length_nil, List.length_map]; omega)) only [go_sem, Nat.reduceEqDiff, Nat.reduceBEq, Nat.reduceAdd, Nat.reduceMul, Nat.reduceSub, Nat.reduceLeDiff, Int.reduceToNat, Int.reducePow, r1, mN, mM, hn1, hm, hseed, hk])) | refine SWp.seq ?_ | refine SWp.block ?_ | refine SWp.scope ?_ | (refine SWp.regS ?_; (simp (disch := first | omega | (simp only [List.length_set, List.length_append, List.length_cons, List.length_nil, List.length_map]; omega)) only [go_sem, Nat.reduceEqDiff, Nat.reduceBEq, Nat.reduceAdd, Nat.reduceMul, Nat.reduceSub, Nat.reduceLeDiff, Int.reduceToNat, Int.reducePow, r1, mN, mM, hn1, hm, hseed, hk])) | refine SWp.condT rfl ?_ | refine SWp.condF rfl ?_ | (refine SWp.condD rfl (fun ht => ?_) (fun ht => ?_) <;> try (exfalso; omega)) | ((first | refine SWp.skip ?_ | refine SWp.exit ?_ | refine SWp.ret ?_); try (simp (disch := first | omega | (simp only [List.length_set, List.length_append, List.length_cons, List.length_nil, List.length_map]; omega)) only [go_sem, Nat.reduceEqDiff, Nat.reduceBEq, Nat.reduceAdd, Nat.reduceMul, Nat.reduceSub, Nat.reduceLeDiff, Int.reduceToNat, Int.reducePow, r1, mN, mM, hn1, hm, hseed, hk])) | ((first | refine splitG (fun ht => ?_) (fun ht => ?_) | refine splitGB (fun ht => ?_) (fun ht => ?_) | refine splitR (fun ht => ?_) (fun ht => ?_) | refine splitRB (fun ht => ?_) (fun ht => ?_) | refine splitE (fun ht => ?_) (fun ht => ?_) | refine splitEB (fun ht => ?_) (fun ht => ?_) | refine splitC (fun ht => ?_) (fun ht => ?_) | refine splitCB (fun ht => ?_) (fun ht => ?_)) <;> (simp (disch := first | omega | (simp only [List.length_set, List.length_append, List.length_cons, List.length_nil, List.length_map]; omega)) only [go_sem, Nat.reduceEqDiff, Nat.reduceBEq, Nat.reduceAdd, Nat.reduceMul, Nat.reduceSub, Nat.reduceLeDiff, Int.reduceToNat, Int.reducePow, r1, mN, mM, hn1, hm, hseed, hk])))
      refine SWp.loop (fun d ρ σ' => ∃ k : Nat, d + k = p.length ∧ σ'[0]? = some (some [.int .i64 M :: .int .i64 N :: (hc o ++ hc nw)]) ∧ σ'[1]? = some (some [hc A]) ∧ σ'[2]? = some (some [hc A]) ∧
        ρ 2 = .ptr 0 0 0 ∧ ρ 5 = .int .i64 ((0 : Nat) : Int) ∧ ρ 6 = .int .i64 ((0 : Nat) : Int) ∧ ρ 8 = pv ∧ ρ 10 = .ptr 1 0 0 ∧ ρ 11 = .ptr 2 0 0 ∧ ρ 12 = .int .i64 k) p.length ?_ ?_
      · exact ⟨0, by omega, by simp, by simp, by simp, by simp (disch := first | omega | (simp only [List.length_set, List.length_append, List.length_cons, List.length_nil, List.length_map]; omega)) only [go_sem, Nat.reduceEqDiff, Nat.reduceBEq, Nat.reduceAdd, Nat.reduceMul, Nat.reduceSub, Nat.reduceLeDiff, Int.reduceToNat, Int.reducePow], by simp (disch := first | omega | (simp only [List.length_set, List.length_append, List.length_cons, List.length_nil, List.length_map]; omega)) only [go_sem, Nat.reduceEqDiff, Nat.reduceBEq, Nat.reduceAdd, Nat.reduceMul, Nat.reduceSub, Nat.reduceLeDiff, Int.reduceToNat, Int.reducePow], by simp (disch := first | omega | (simp only [List.length_set, List.length_append, List.length_cons, List.length_nil, List.length_map]; omega)) only [go_sem, Nat.reduceEqDiff, Nat.reduceBEq, Nat.reduceAdd, Nat.reduceMul, Nat.reduceSub, Nat.reduceLeDiff, Int.reduceToNat, Int.reducePow], by simp (disch := first | omega | (simp only [List.length_set, List.length_append, List.length_cons, List.length_nil, List.length_map]; omega)) only [go_sem, Nat.reduceEqDiff, Nat.reduceBEq, Nat.reduceAdd, Nat.reduceMul, Nat.reduceSub, Nat.reduceLeDiff, Int.reduceToNat, Int.reducePow], by simp (disch := first | omega | (simp only [List.length_set, List.length_append, List.length_cons, List.length_nil, List.length_map]; omega)) only [go_sem, Nat.reduceEqDiff, Nat.reduceBEq, Nat.reduceAdd, Nat.reduceMul, Nat.reduceSub, Nat.reduceLeDiff, Int.reduceToNat, Int.reducePow], by simp (disch := first | omega | (simp only [List.length_set, List.length_append, List.length_cons, List.length_nil, List.length_map]; omega)) only [go_sem, Nat.reduceEqDiff, Nat.reduceBEq, Nat.reduceAdd, Nat.reduceMul, Nat.reduceSub, Nat.reduceLeDiff, Int.reduceToNat, Int.reducePow], by simp (disch := first | omega | (simp only [List.length_set, List.length_append, List.length_cons, List.length_nil, List.length_map]; omega)) only [go_sem, Nat.reduceEqDiff, Nat.reduceBEq, Nat.reduceAdd, Nat.reduceMul, Nat.reduceSub, Nat.reduceLeDiff, Int.reduceToNat, Int.reducePow]; rfl⟩
      · rintro d ρ σ' ⟨k, hd, c0, c1, c2, q2, q5, q6, q8, q10, q11, q12⟩
        have d0 := slen c0
        have d1 := slen c1
        have d2 := slen c2
        by_cases hk : k < p.length
        · obtain ⟨ex, hpv⟩ := hspl.vsl (by rw [hr_len]; omega)
          subst hpv
          repeat' (first | (apply callW.any; (first | exact (hC3 _ _ _ _ _ _ k (by simp)) | exact (hR3 _ _ _ _ _ _ k (by simp))); all_goals try (simp (disch := first | omega | (simp only [List.length_set, List.length_append, List.length_cons, List.length_nil, List.length_map]; omega)) only [go_sem, Nat.reduceEqDiff, Nat.reduceBEq, Nat.reduceAdd, Nat.reduceMul, Nat.reduceSub, Nat.reduceLeDiff, Int.reduceToNat, Int.reducePow, q2, q5, q6, q8, q10, q11, q12, c0, c1, c2, hpr])) | refine SWp.seq ?_ | refine SWp.block ?_ | refine SWp.scope ?_ | (refine SWp.regS ?_; (simp (disch := first | omega | (simp only [List.length_set, List.length_append, List.length_cons, List.length_nil, List.length_map]; omega)) only [go_sem, Nat.reduceEqDiff, Nat.reduceBEq, Nat.reduceAdd, Nat.reduceMul, Nat.reduceSub, Nat.reduceLeDiff, Int.reduceToNat, Int.reducePow, q2, q5, q6, q8, q10, q11, q12, c0, c1, c2, hpr])) | refine SWp.condT rfl ?_ | refine SWp.condF rfl ?_ | (refine SWp.condD rfl (fun ht => ?_) (fun ht => ?_) <;> try (exfalso; omega)) | ((first | refine SWp.skip ?_ | refine SWp.exit ?_ | refine SWp.ret ?_); try (simp (disch := first | omega | (simp only [List.length_set, List.length_append, List.length_cons, List.length_nil, List.length_map]; omega)) only [go_sem, Nat.reduceEqDiff, Nat.reduceBEq, Nat.reduceAdd, Nat.reduceMul, Nat.reduceSub, Nat.reduceLeDiff, Int.reduceToNat, Int.reducePow, q2, q5, q6, q8, q10, q11, q12, c0, c1, c2, hpr])) | ((first | refine splitG (fun ht => ?_) (fun ht => ?_) | refine splitGB (fun ht => ?_) (fun ht => ?_) | refine splitR (fun ht => ?_) (fun ht => ?_) | refine splitRB (fun ht => ?_) (fun ht => ?_) | refine splitE (fun ht => ?_) (fun ht => ?_) | refine splitEB (fun ht => ?_) (fun ht => ?_) | refine splitC (fun ht => ?_) (fun ht => ?_) | refine splitCB (fun ht => ?_) (fun ht => ?_)) <;> (simp (disch := first | omega | (simp only [List.length_set, List.length_append, List.length_cons, List.length_nil, List.length_map]; omega)) only [go_sem, Nat.reduceEqDiff, Nat.reduceBEq, Nat.reduceAdd, Nat.reduceMul, Nat.reduceSub, Nat.reduceLeDiff, Int.reduceToNat, Int.reducePow, q2, q5, q6, q8, q10, q11, q12, c0, c1, c2, hpr])))
          exact ⟨p.length - (k + 1), by omega, k + 1, by omega, by simp⟩
        · repeat' (first | (apply callW.any; (first | exact (proved7_to _)); all_goals try (simp (disch := first | omega | (simp only [List.length_set, List.length_append, List.length_cons, List.length_nil, List.length_map]; omega)) only [go_sem, Nat.reduceEqDiff, Nat.reduceBEq, Nat.reduceAdd, Nat.reduceMul, Nat.reduceSub, Nat.reduceLeDiff, Int.reduceToNat, Int.reducePow, q2, q8, q12, hpr])) | refine SWp.seq ?_ | refine SWp.block ?_ | refine SWp.scope ?_ | (refine SWp.reg ?_; (simp (disch := first | omega | (simp only [List.length_set, List.length_append, List.length_cons, List.length_nil, List.length_map]; omega)) only [go_sem, Nat.reduceEqDiff, Nat.reduceBEq, Nat.reduceAdd, Nat.reduceMul, Nat.reduceSub, Nat.reduceLeDiff, Int.reduceToNat, Int.reducePow, q2, q8, q12, hpr])) | refine SWp.condT rfl ?_ | refine SWp.condF rfl ?_ | (refine SWp.condD rfl (fun ht => ?_) (fun ht => ?_) <;> try (exfalso; omega)) | ((first | refine SWp.skip ?_ | refine SWp.exit ?_ | refine SWp.ret ?_); try (simp (disch := first | omega | (simp only [List.length_set, List.length_append, List.length_cons, List.length_nil, List.length_map]; omega)) only [go_sem, Nat.reduceEqDiff, Nat.reduceBEq, Nat.reduceAdd, Nat.reduceMul, Nat.reduceSub, Nat.reduceLeDiff, Int.reduceToNat, Int.reducePow, q2, q8, q12, hpr])) | ((first | refine splitG (fun ht => ?_) (fun ht => ?_) | refine splitGB (fun ht => ?_) (fun ht => ?_) | refine splitR (fun ht => ?_) (fun ht => ?_) | refine splitRB (fun ht => ?_) (fun ht => ?_) | refine splitE (fun ht => ?_) (fun ht => ?_) | refine splitEB (fun ht => ?_) (fun ht => ?_) | refine splitC (fun ht => ?_) (fun ht => ?_) | refine splitCB (fun ht => ?_) (fun ht => ?_)) <;> (simp (disch := first | omega | (simp only [List.length_set, List.length_append, List.length_cons, List.length_nil, List.length_map]; omega)) only [go_sem, Nat.reduceEqDiff, Nat.reduceBEq, Nat.reduceAdd, Nat.reduceMul, Nat.reduceSub, Nat.reduceLeDiff, Int.reduceToNat, Int.reducePow, q2, q8, q12, hpr])))
          exact DownV.pure (τ := []) (news := σ') hw (rlB_ok _ rfl)
    · have hSv : ∀ σ, ACallsTo TC 21 [.int .i64 n, .int .u8 seed.toNat] σ (.vsl 32 (hr L) false) σ := fun σ => by
        have := hS σ
        unfold slVal at this
        rwa [if_neg (by rw [hr_nil_iff]; intro e; rw [e] at hLl; simp at hLl; omega)] at this
      repeat' (first | (apply callW.any; (first | exact (hC1 _ _ _ _ _) | exact (hR1 _ _ _ _ _) | exact (hSv _) | exact (hP _ _ (.inr ⟨_, rfl⟩)) | exact (hRL _ _ (.inr ⟨_, rfl⟩)) | exact (hRm _ _ (.inr ⟨_, rfl⟩)) | exact (hC2 _ _ _ _ _) | exact (hR2 _ _ _ _ _)); all_goals try (simp (disch := first | omega | (simp only [List.length_set, List.length_append, List.length_cons, List.length_nil, List.length_map]; omega)) only [go_sem, Nat.reduceEqDiff, Nat.reduceBEq, Nat.reduceAdd, Nat.reduceMul, Nat.reduceSub, Nat.reduceLeDiff, Int.reduceToNat, Int.reducePow, r1, mN, mM, hn1, hm, hseed, hk, hLl])) | refine SWp.seq ?_ | refine SWp.block ?_ | refine SWp.scope ?_ | (refine SWp.regS ?_; (simp (disch := first | omega | (simp only [List.length_set, List.length_append, List.length_cons, List.length_nil, List.length_map]; omega)) only [go_sem, Nat.reduceEqDiff, Nat.reduceBEq, Nat.reduceAdd, Nat.reduceMul, Nat.reduceSub, Nat.reduceLeDiff, Int.reduceToNat, Int.reducePow, r1, mN, mM, hn1, hm, hseed, hk, hLl])) | refine SWp.condT rfl ?_ | refine SWp.condF rfl ?_ | (refine SWp.condD rfl (fun ht => ?_) (fun ht => ?_) <;> try (exfalso; omega)) | ((first | refine SWp.skip ?_ | refine SWp.exit ?_ | refine SWp.ret ?_); try (simp (disch := first | omega | (simp only [List.length_set, List.length_append, List.length_cons, List.length_nil, List.length_map]; omega)) only [go_sem, Nat.reduceEqDiff, Nat.reduceBEq, Nat.reduceAdd, Nat.reduceMul, Nat.reduceSub, Nat.reduceLeDiff, Int.reduceToNat, Int.reducePow, r1, mN, mM, hn1, hm, hseed, hk, hLl])) | ((first | refine splitG (fun ht => ?_) (fun ht => ?_) | refine splitGB (fun ht => ?_) (fun ht => ?_) | refine splitR (fun ht => ?_) (fun ht => ?_) | refine splitRB (fun ht => ?_) (fun ht => ?_) | refine splitE (fun ht => ?_) (fun ht => ?_) | refine splitEB (fun ht => ?_) (fun ht => ?_) | refine splitC (fun ht => ?_) (fun ht => ?_) | refine splitCB (fun ht => ?_) (fun ht => ?_)) <;> (simp (disch := first | omega | (simp only [List.length_set, List.length_append, List.length_cons, List.length_nil, List.length_map]; omega)) only [go_sem, Nat.reduceEqDiff, Nat.reduceBEq, Nat.reduceAdd, Nat.reduceMul, Nat.reduceSub, Nat.reduceLeDiff, Int.reduceToNat, Int.reducePow, r1, mN, mM, hn1, hm, hseed, hk, hLl])))
      refine SWp.loop (fun d ρ σ' => ∃ k : Nat, d + k = p.length ∧ σ'[0]? = some (some [.int .i64 M :: .int .i64 N :: (hc o ++ hc nw)]) ∧ σ'[1]? = some (some [hc A]) ∧ σ'[2]? = some (some [hc B]) ∧
        ρ 2 = .ptr 0 0 0 ∧ ρ 5 = .int .i64 n ∧ ρ 6 = .int .i64 m ∧ ρ 8 = pv ∧ ρ 10 = .ptr 1 0 0 ∧ ρ 11 = .ptr 2 0 0 ∧ ρ 12 = .int .i64 k) p.length ?_ ?_
      · exact ⟨0, by omega, by simp, by simp, by simp, by simp (disch := first | omega | (simp only [List.length_set, List.length_append, List.length_cons, List.length_nil, List.length_map]; omega)) only [go_sem, Nat.reduceEqDiff, Nat.reduceBEq, Nat.reduceAdd, Nat.reduceMul, Nat.reduceSub, Nat.reduceLeDiff, Int.reduceToNat, Int.reducePow], by simp (disch := first | omega | (simp only [List.length_set, List.length_append, List.length_cons, List.length_nil, List.length_map]; omega)) only [go_sem, Nat.reduceEqDiff, Nat.reduceBEq, Nat.reduceAdd, Nat.reduceMul, Nat.reduceSub, Nat.reduceLeDiff, Int.reduceToNat, Int.reducePow], by simp (disch := first | omega | (simp only [List.length_set, List.length_append, List.length_cons, List.length_nil, List.length_map]; omega)) only [go_sem, Nat.reduceEqDiff, Nat.reduceBEq, Nat.reduceAdd, Nat.reduceMul, Nat.reduceSub, Nat.reduceLeDiff, Int.reduceToNat, Int.reducePow], by simp (disch := first | omega | (simp only [List.length_set, List.length_append, List.length_cons, List.length_nil, List.length_map]; omega)) only [go_sem, Nat.reduceEqDiff, Nat.reduceBEq, Nat.reduceAdd, Nat.reduceMul, Nat.reduceSub, Nat.reduceLeDiff, Int.reduceToNat, Int.reducePow], by simp (disch := first | omega | (simp only [List.length_set, List.length_append, List.length_cons, List.length_nil, List.length_map]; omega)) only [go_sem, Nat.reduceEqDiff, Nat.reduceBEq, Nat.reduceAdd, Nat.reduceMul, Nat.reduceSub, Nat.reduceLeDiff, Int.reduceToNat, Int.reducePow], by simp (disch := first | omega | (simp only [List.length_set, List.length_append, List.length_cons, List.length_nil, List.length_map]; omega)) only [go_sem, Nat.reduceEqDiff, Nat.reduceBEq, Nat.reduceAdd, Nat.reduceMul, Nat.reduceSub, Nat.reduceLeDiff, Int.reduceToNat, Int.reducePow], by simp (disch := first | omega | (simp only [List.length_set, List.length_append, List.length_cons, List.length_nil, List.length_map]; omega)) only [go_sem, Nat.reduceEqDiff, Nat.reduceBEq, Nat.reduceAdd, Nat.reduceMul, Nat.reduceSub, Nat.reduceLeDiff, Int.reduceToNat, Int.reducePow]; rfl⟩
      · rintro d ρ σ' ⟨k, hd, c0, c1, c2, q2, q5, q6, q8, q10, q11, q12⟩
        have d0 := slen c0
        have d1 := slen c1
        have d2 := slen c2
        by_cases hk : k < p.length
        · obtain ⟨ex, hpv⟩ := hspl.vsl (by rw [hr_len]; omega)
          subst hpv
          repeat' (first | (apply callW.any; (first | exact (hC3 _ _ _ _ _ _ k (by simp)) | exact (hR3 _ _ _ _ _ _ k (by simp))); all_goals try (simp (disch := first | omega | (simp only [List.length_set, List.length_append, List.length_cons, List.length_nil, List.length_map]; omega)) only [go_sem, Nat.reduceEqDiff, Nat.reduceBEq, Nat.reduceAdd, Nat.reduceMul, Nat.reduceSub, Nat.reduceLeDiff, Int.reduceToNat, Int.reducePow, q2, q5, q6, q8, q10, q11, q12, c0, c1, c2, hpr])) | refine SWp.seq ?_ | refine SWp.block ?_ | refine SWp.scope ?_ | (refine SWp.regS ?_; (simp (disch := first | omega | (simp only [List.length_set, List.length_append, List.length_cons, List.length_nil, List.length_map]; omega)) only [go_sem, Nat.reduceEqDiff, Nat.reduceBEq, Nat.reduceAdd, Nat.reduceMul, Nat.reduceSub, Nat.reduceLeDiff, Int.reduceToNat, Int.reducePow, q2, q5, q6, q8, q10, q11, q12, c0, c1, c2, hpr])) | refine SWp.condT rfl ?_ | refine SWp.condF rfl ?_ | (refine SWp.condD rfl (fun ht => ?_) (fun ht => ?_) <;> try (exfalso; omega)) | ((first | refine SWp.skip ?_ | refine SWp.exit ?_ | refine SWp.ret ?_); try (simp (disch := first | omega | (simp only [List.length_set, List.length_append, List.length_cons, List.length_nil, List.length_map]; omega)) only [go_sem, Nat.reduceEqDiff, Nat.reduceBEq, Nat.reduceAdd, Nat.reduceMul, Nat.reduceSub, Nat.reduceLeDiff, Int.reduceToNat, Int.reducePow, q2, q5, q6, q8, q10, q11, q12, c0, c1, c2, hpr])) | ((first | refine splitG (fun ht => ?_) (fun ht => ?_) | refine splitGB (fun ht => ?_) (fun ht => ?_) | refine splitR (fun ht => ?_) (fun ht => ?_) | refine splitRB (fun ht => ?_) (fun ht => ?_) | refine splitE (fun ht => ?_) (fun ht => ?_) | refine splitEB (fun ht => ?_) (fun ht => ?_) | refine splitC (fun ht => ?_) (fun ht => ?_) | refine splitCB (fun ht => ?_) (fun ht => ?_)) <;> (simp (disch := first | omega | (simp only [List.length_set, List.length_append, List.length_cons, List.length_nil, List.length_map]; omega)) only [go_sem, Nat.reduceEqDiff, Nat.reduceBEq, Nat.reduceAdd, Nat.reduceMul, Nat.reduceSub, Nat.reduceLeDiff, Int.reduceToNat, Int.reducePow, q2, q5, q6, q8, q10, q11, q12, c0, c1, c2, hpr])))
          exact ⟨p.length - (k + 1), by omega, k + 1, by omega, by simp⟩
        · repeat' (first | (apply callW.any; (first | exact (proved7_to _)); all_goals try (simp (disch := first | omega | (simp only [List.length_set, List.length_append, List.length_cons, List.length_nil, List.length_map]; omega)) only [go_sem, Nat.reduceEqDiff, Nat.reduceBEq, Nat.reduceAdd, Nat.reduceMul, Nat.reduceSub, Nat.reduceLeDiff, Int.reduceToNat, Int.reducePow, q2, q8, q12, hpr])) | refine SWp.seq ?_ | refine SWp.block ?_ | refine SWp.scope ?_ | (refine SWp.reg ?_; (simp (disch := first | omega | (simp only [List.length_set, List.length_append, List.length_cons, List.length_nil, List.length_map]; omega)) only [go_sem, Nat.reduceEqDiff, Nat.reduceBEq, Nat.reduceAdd, Nat.reduceMul, Nat.reduceSub, Nat.reduceLeDiff, Int.reduceToNat, Int.reducePow, q2, q8, q12, hpr])) | refine SWp.condT rfl ?_ | refine SWp.condF rfl ?_ | (refine SWp.condD rfl (fun ht => ?_) (fun ht => ?_) <;> try (exfalso; omega)) | ((first | refine SWp.skip ?_ | refine SWp.exit ?_ | refine SWp.ret ?_); try (simp (disch := first | omega | (simp only [List.length_set, List.length_append, List.length_cons, List.length_nil, List.length_map]; omega)) only [go_sem, Nat.reduceEqDiff, Nat.reduceBEq, Nat.reduceAdd, Nat.reduceMul, Nat.reduceSub, Nat.reduceLeDiff, Int.reduceToNat, Int.reducePow, q2, q8, q12, hpr])) | ((first | refine splitG (fun ht => ?_) (fun ht => ?_) | refine splitGB (fun ht => ?_) (fun ht => ?_) | refine splitR (fun ht => ?_) (fun ht => ?_) | refine splitRB (fun ht => ?_) (fun ht => ?_) | refine splitE (fun ht => ?_) (fun ht => ?_) | refine splitEB (fun ht => ?_) (fun ht => ?_) | refine splitC (fun ht => ?_) (fun ht => ?_) | refine splitCB (fun ht => ?_) (fun ht => ?_)) <;> (simp (disch := first | omega | (simp only [List.length_set, List.length_append, List.length_cons, List.length_nil, List.length_map]; omega)) only [go_sem, Nat.reduceEqDiff, Nat.reduceBEq, Nat.reduceAdd, Nat.reduceMul, Nat.reduceSub, Nat.reduceLeDiff, Int.reduceToNat, Int.reducePow, q2, q8, q12, hpr])))
          exact DownV.pure (τ := []) (news := σ') hw (rlB_ok _ rfl)
  · repeat' (first | (apply callW.any; (first | exact (proved7_to _)); all_goals try (simp (disch := first | omega | (simp only [List.length_set, List.length_append, List.length_cons, List.length_nil, List.length_map]; omega)) only [go_sem, Nat.reduceEqDiff, Nat.reduceBEq, Nat.reduceAdd, Nat.reduceMul, Nat.reduceSub, Nat.reduceLeDiff, Int.reduceToNat, Int.reducePow, r1])) | refine SWp.seq ?_ | refine SWp.block ?_ | refine SWp.scope ?_ | (refine SWp.reg ?_; (simp (disch := first | omega | (simp only [List.length_set, List.length_append, List.length_cons, List.length_nil, List.length_map]; omega)) only [go_sem, Nat.reduceEqDiff, Nat.reduceBEq, Nat.reduceAdd, Nat.reduceMul, Nat.reduceSub, Nat.reduceLeDiff, Int.reduceToNat, Int.reducePow, r1])) | refine SWp.condT rfl ?_ | refine SWp.condF rfl ?_ | (refine SWp.condD rfl (fun ht => ?_) (fun ht => ?_) <;> try (exfalso; omega)) | ((first | refine SWp.skip ?_ | refine SWp.exit ?_ | refine SWp.ret ?_); try (simp (disch := first | omega | (simp only [List.length_set, List.length_append, List.length_cons, List.length_nil, List.length_map]; omega)) only [go_sem, Nat.reduceEqDiff, Nat.reduceBEq, Nat.reduceAdd, Nat.reduceMul, Nat.reduceSub, Nat.reduceLeDiff, Int.reduceToNat, Int.reducePow, r1])) | ((first | refine splitG (fun ht => ?_) (fun ht => ?_) | refine splitGB (fun ht => ?_) (fun ht => ?_) | refine splitR (fun ht => ?_) (fun ht => ?_) | refine splitRB (fun ht => ?_) (fun ht => ?_) | refine splitE (fun ht => ?_) (fun ht => ?_) | refine splitEB (fun ht => ?_) (fun ht => ?_) | refine splitC (fun ht => ?_) (fun ht => ?_) | refine splitCB (fun ht => ?_) (fun ht => ?_)) <;> (simp (disch := first | omega | (simp only [List.length_set, List.length_append, List.length_cons, List.length_nil, List.length_map]; omega)) only [go_sem, Nat.reduceEqDiff, Nat.reduceBEq, Nat.reduceAdd, Nat.reduceMul, Nat.reduceSub, Nat.reduceLeDiff, Int.reduceToNat, Int.reducePow, r1])))
    exact DownV.pure (τ := []) hw (rlB_ok _ rfl)
theorem ProofsCheck_law (avs : List AV) (h : ShAll [.row [.int .i64, .int .i64, hashTy, hashTy], .sl 32 hashTy] avs) : ACallsTo TC 4 avs [] (.bool true) [] := by
  simp only [ShAll] at h
  obtain ⟨_, _, rfl, h1, _, _, rfl, h2, rfl⟩ := h
  simp only [Sh] at h1
  obtain ⟨cs, rfl, h1⟩ := h1
  simp only [ShRow] at h1
  obtain ⟨a, b, rfl, ha, c, d, rfl, hc', e, f, rfl, he, g, k, rfl, hg, rfl⟩ := h1
  simp only [ShC] at ha hc'
  obtain ⟨M, rfl, hM1, hM2⟩ := ha
  obtain ⟨N, rfl, hN1, hN2⟩ := hc'
  obtain ⟨o, rfl⟩ := hashC_h he
  obtain ⟨nw, rfl⟩ := hashC_h hg
  obtain ⟨ps, k1, k2⟩ := hsl_h h2
  simp only [IntKind.min, IntKind.max, IntKind.signed, IntKind.bits] at hM1 hM2 hN1 hN2
  simp at hM1 hM2 hN1 hN2
  have := ProofsCheck_to M N o nw _ ps k1 ⟨hM1, hM2⟩ ⟨hN1, hN2⟩
  simpa using this
end Am
end Go.Proofs.YtfofemaglndnjaaDoor
end
