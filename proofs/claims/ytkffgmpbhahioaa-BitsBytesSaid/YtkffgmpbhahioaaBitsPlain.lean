/- Functions on bits: plain laws. -/
import Derived.Test.YtkffgmpbhahioaaBitsGet
set_option linter.unusedSimpArgs false
namespace Go.Proofs.Ytkffgmpbhahioaa
namespace Am
/-! Turning. -/
theorem rot_last (x : BitVec 32) : (x.rotateLeft 31).rotateLeft 1 = x := by
  apply BitVec.eq_of_getLsbD_eq
  intro j hj
  simp only [BitVec.getLsbD_rotateLeft, Nat.mod_eq_of_lt (by omega : 31 < 32), show (1 : Nat) % 32 = 1 from rfl, hj, decide_true, Bool.true_and, Bool.cond_decide]
  by_cases h1 : j < 1
  · rw [if_pos h1, if_neg (by omega), decide_eq_true (by omega), Bool.true_and]
    congr 1; omega
  · rw [if_neg h1, if_pos (by omega)]
    congr 1; omega
def rots (x : BitVec 32) : Nat → BitVec 32
  | 0 => x
  | n + 1 => (rots x n).rotateLeft 1
theorem rots_lt (x : BitVec 32) : ∀ n, n < 32 → x.rotateLeft n = rots x n
  | 0, _ => rot_zero x
  | n + 1, h => by rw [rots, ← rots_lt x n (by omega), rot_rot x n (by omega)]
theorem rots_add (x : BitVec 32) (a : Nat) : ∀ b, rots x (a + b) = rots (rots x a) b
  | 0 => rfl
  | b + 1 => by show (rots x (a + b)).rotateLeft 1 = _; rw [rots_add x a b]; rfl
theorem rots_32 (x : BitVec 32) : rots x 32 = x := by
  show (rots x 31).rotateLeft 1 = x
  rw [← rots_lt x 31 (by omega), rot_last]
theorem rots_mod (x : BitVec 32) (n : Nat) : rots x n = rots x (n % 32) := by
  have h : ∀ k m, rots x (32 * k + m) = rots x m := by
    intro k
    induction k with
    | zero => simp
    | succ k ih => intro m; rw [Nat.mul_succ, show 32 * k + 32 + m = 32 + (32 * k + m) by omega, rots_add, rots_32, ih]
  conv => lhs; rw [← Nat.div_add_mod n 32]
  exact h _ _
theorem rotL_lt (x k : Int) : rotL x k < 4294967296 := (BitVec.isLt _)
theorem rotL_rotL (x a b : Int) : rotL (rotL x a) b = rotL x (a + b) := by
  unfold rotL
  rw [u_ofInt, rots_lt _ _ (by omega : (a % 32).toNat < 32), rots_lt _ _ (by omega : (b % 32).toNat < 32), rots_lt _ _ (by omega : ((a + b) % 32).toNat < 32), ← rots_add, rots_mod]
  congr 3; omega
theorem rotL_zero (x k : Int) (h : 0 ≤ x ∧ x < 4294967296) (hk : k % 32 = 0) : (rotL x k : Int) = x := by
  unfold rotL
  rw [hk]
  show (((BitVec.ofInt 32 x).rotateLeft 0).toNat : Int) = x
  rw [rot_zero, ← u32_bv x h]
theorem rotL_congr (x a b : Int) (h : a % 32 = b % 32) : rotL x a = rotL x b := by unfold rotL; rw [h]
/-! Bits of a sum. -/
theorem pc_split : ∀ (a b n : Nat), pc (a + b) n = pc a (n % 2 ^ a) + pc b (n / 2 ^ a)
  | 0, b, n => by simp [pc, Nat.mod_one]
  | a + 1, b, n => by
    rw [show a + 1 + b = (a + b) + 1 by omega]
    simp only [pc]
    rw [pc_split a b (n / 2), Nat.div_div_eq_div_mul, Nat.pow_succ, Nat.mul_comm 2]
    have e1 : n % (2 ^ a * 2) % 2 = n % 2 := Nat.mod_mod_of_dvd _ (Nat.dvd_mul_left 2 _)
    have e2 : n % (2 ^ a * 2) / 2 = n / 2 % 2 ^ a := by rw [Nat.mul_comm, Nat.mod_mul_right_div_self]
    rw [e1, e2]
    omega
theorem pc_small : ∀ (w n : Nat), n < 2 → 0 < w → pc w n = n
  | 0, _, _, h => by omega
  | w + 1, n, h, _ => by
    have : n / 2 = 0 := by omega
    simp only [pc, this, pc_zero]; omega
theorem pc_rot1 (y : BitVec 32) : pc 64 (y.rotateLeft 1).toNat = pc 64 y.toNat := by
  have hy := y.isLt
  have e := rot_one y
  have e' : (y.rotateLeft 1).toNat = (y.toNat * 2) % 4294967296 + y.toNat / 2147483648 := by
    rw [Int.tdiv_eq_ediv_of_nonneg (by omega), wrap_u (by rfl), wrap_u (by rfl), wrap_u (by rfl)] at e
    simp only [IntKind.bits] at e
    omega
  rw [e']
  generalize y.toNat = n at *
  have h1 := pc_split 31 33 n
  have h2 := pc_split 1 63 ((n * 2) % 4294967296 + n / 2147483648)
  have h3 := pc_split 31 32 (n % 2147483648)
  simp only [Nat.reduceAdd, Nat.reducePow] at h1 h2 h3
  have e2 : ((n * 2) % 4294967296 + n / 2147483648) % 2 = n / 2147483648 := by omega
  have e3 : ((n * 2) % 4294967296 + n / 2147483648) / 2 = n % 2147483648 := by omega
  have e4 : n % 2147483648 % 2147483648 = n % 2147483648 := by omega
  have e5 : n % 2147483648 / 2147483648 = 0 := by omega
  rw [e2, e3, pc_small 1 _ (by omega) (by omega), h3, e4, e5, pc_zero] at h2
  rw [pc_small 33 _ (by omega) (by omega)] at h1
  omega
theorem pc_rots (x : BitVec 32) : ∀ n, pc 64 (rots x n).toNat = pc 64 x.toNat
  | 0 => rfl
  | n + 1 => by rw [rots, pc_rot1, pc_rots x n]
theorem pc_rotL (x k : Int) (h : 0 ≤ x ∧ x < 4294967296) : pc 64 (rotL x k) = pc 64 x.toNat := by
  unfold rotL
  rw [rots_lt _ _ (by omega), pc_rots]
  congr 1
  have := u32_bv x h
  omega
/-! What is put is got. -/
theorem val_be : ∀ (n x : Nat), x < 256 ^ n → val (be n x) = x
  | 0, x, h => by simp at h; subst h; rfl
  | n + 1, x, h => by
    rw [be, val_snoc, val_be n (x / 256) (by rw [Nat.pow_succ] at h; omega)]
    simp
    omega
theorem getS_putS (n : Int) (h : 0 ≤ n ∧ n < 18446744073709551616) : (getS (putS n 8) : Int) = n := by
  rw [putS, if_pos (by omega), getS, List.take_of_length_le (by rw [be_length]; decide)]
  show (val (be 8 n.toNat) : Int) = n
  rw [val_be 8 _ (by omega)]
  omega
theorem putS_len (x n : Int) : (putS x n).length ≤ 8 := by
  unfold putS
  split
  · rw [be_length]; omega
  · simp
/-! The highest bit. -/
theorem lg_pos : ∀ (w n : Nat), n < 2 ^ w → 0 < n → 2 ^ (lg w n - 1) ≤ n ∧ n < 2 ^ lg w n ∧ 0 < lg w n
  | 0, n, h, h0 => by simp at h; omega
  | w + 1, n, h, h0 => by
    simp only [lg, if_neg (by omega : n ≠ 0)]
    by_cases h2 : n / 2 = 0
    · have : n = 1 := by omega
      subst this
      simp [lg_zero]
    · obtain ⟨k1, k2, k3⟩ := lg_pos w (n / 2) (by rw [Nat.pow_succ] at h; omega) (by omega)
      have e : 1 + lg w (n / 2) - 1 = (lg w (n / 2) - 1) + 1 := by omega
      rw [e, Nat.pow_succ, Nat.add_comm 1, Nat.pow_succ]
      omega
theorem pc_pow : ∀ (w k : Nat), k < w → pc w (2 ^ k) = 1
  | 0, _, h => by omega
  | w + 1, 0, _ => by simp [pc, pc_zero]
  | w + 1, k + 1, h => by
    simp only [pc, Nat.pow_succ]
    rw [Nat.mul_mod_left, Nat.mul_div_cancel _ (by decide), pc_pow w k (by omega)]
/-- The bits of a number's bytes. -/
theorem be_getD : ∀ (n x i : Nat), i < n → ((be n x).getD i 0).toNat = x / 256 ^ (n - 1 - i) % 256
  | 0, _, _, h => by omega
  | n + 1, x, i, h => by
    rw [be_cons]
    cases i with
    | zero => simp
    | succ i =>
      rw [List.getD_cons_succ, be_getD n x i (by omega)]
      congr 3; omega
theorem bitS_be (x i : Nat) (hi : i < 32) : bitS (be 4 x) i = x / 2 ^ (31 - i) % 2 := by
  have h1 : (i : Int) / 8 < 4 := by omega
  rw [bitS, if_pos (by rw [be_length]; omega), be_getD 4 x _ (by omega)]
  have e : 256 ^ (4 - 1 - ((i : Int) / 8).toNat) = 2 ^ (8 * (3 - ((i : Int) / 8).toNat)) := by
    rw [show (256 : Nat) = 2 ^ 8 by rfl, ← Nat.pow_mul]
  rw [e, show (256 : Nat) = 2 ^ 8 by rfl]
  have hk : (7 - (i : Int) % 8).toNat < 8 := by omega
  generalize hk' : (7 - (i : Int) % 8).toNat = k at *
  have hj : 31 - i = 8 * (3 - ((i : Int) / 8).toNat) + k := by omega
  rw [hj, Nat.pow_add, ← Nat.div_div_eq_div_mul]
  generalize x / 2 ^ (8 * (3 - ((i : Int) / 8).toNat)) = y
  have : y % 2 ^ 8 / 2 ^ k = y / 2 ^ k % 2 ^ (8 - k) := by
    have e8 : (2 : Nat) ^ 8 = 2 ^ k * 2 ^ (8 - k) := by rw [← Nat.pow_add]; congr 1; omega
    rw [e8, Nat.mod_mul_right_div_self]
  rw [this]
  exact Nat.mod_mod_of_dvd _ (by
    have : 8 - k = (7 - k) + 1 := by omega
    rw [this, Nat.pow_succ]; exact Nat.dvd_mul_left _ _)
/-- The bits down to a place, counted. -/
theorem pc_more : ∀ (w x : Nat), x < 2 ^ w → ∀ v, pc (w + v) x = pc w x
  | 0, x, h, v => by simp at h; subst h; simp [pc_zero]
  | w + 1, x, h, v => by
    rw [show w + 1 + v = (w + v) + 1 by omega]
    simp only [pc]
    rw [pc_more w (x / 2) (by rw [Nat.pow_succ] at h; omega) v]
theorem pc_top (i x : Nat) (hi : i < 32) : pc i (x / 2 ^ (32 - i)) + x / 2 ^ (31 - i) % 2 = pc (i + 1) (x / 2 ^ (31 - i)) := by
  simp only [pc]
  rw [Nat.div_div_eq_div_mul, ← Nat.pow_succ, show (31 - i).succ = 32 - i by omega, Nat.add_comm]
end Am
end Go.Proofs.Ytkffgmpbhahioaa
