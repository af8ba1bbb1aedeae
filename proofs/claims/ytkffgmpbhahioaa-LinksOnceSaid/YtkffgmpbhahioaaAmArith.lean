/- THE ABSTRACT MACHINE, part 7: operators, conversions, literals of structs, arrays and slices. -/
import Derived.Test.YtkffgmpbhahioaaAmEq
namespace Go.Proofs.Ytkffgmpbhahioaa
namespace Am

section
variable {C : Ctx} {γ : Places} {σ : Store} {w : World}

/-! Operators. -/
def intBin (op : BinOp) (k : IntKind) (a b : Int) : Option AV :=
  match op with
  | .add => some (.int k (k.wrap (a + b)))
  | .sub => some (.int k (k.wrap (a - b)))
  | .mul => some (.int k (k.wrap (a * b)))
  | .quo => if b = 0 then none else some (.int k (k.wrap (a.tdiv b)))
  | .rem => if b = 0 then none else some (.int k (a.tmod b))
  | .and => some (.int k (k.wrap (BitVec.ofInt k.bits a &&& BitVec.ofInt k.bits b).toNat))
  | .or => some (.int k (k.wrap (BitVec.ofInt k.bits a ||| BitVec.ofInt k.bits b).toNat))
  | .xor => some (.int k (k.wrap (BitVec.ofInt k.bits a ^^^ BitVec.ofInt k.bits b).toNat))
  | .andNot => some (.int k (k.wrap (BitVec.ofInt k.bits a &&& ~~~BitVec.ofInt k.bits b).toNat))
  | .eql => some (.bool (a == b))
  | .neq => some (.bool (a != b))
  | .lss => some (.bool (decide (a < b)))
  | .leq => some (.bool (decide (a ≤ b)))
  | .gtr => some (.bool (decide (a > b)))
  | .geq => some (.bool (decide (a ≥ b)))
  | _ => none
def shBin (op : BinOp) (k : IntKind) (a b : Int) : Option AV :=
  match op with
  | .shl => if b < 0 then none else some (.int k (k.wrap (a * 2 ^ (min b.toNat k.bits))))
  | .shr => if b < 0 then none else some (.int k (a.fdiv (2 ^ (min b.toNat k.bits))))
  | _ => none
def strBin (op : BinOp) (a b : List UInt8) : Option AV :=
  match op with
  | .add => if a.length + b.length ≤ 9223372036854775807 then some (.str (a ++ b)) else none
  | .eql => some (.bool (a == b))
  | .neq => some (.bool (!(a == b)))
  | .lss => some (.bool (Op.bytesLess a b))
  | .leq => some (.bool (Op.bytesLess a b || a == b))
  | .gtr => some (.bool (!(Op.bytesLess a b || a == b)))
  | .geq => some (.bool (!Op.bytesLess a b))
  | _ => none
def eqOp (op : BinOp) (b : Bool) : Option AV :=
  match op with
  | .eql => some (.bool b)
  | .neq => some (.bool (!b))
  | _ => none
def tyPtr (C : Ctx) (t : TypeId) : Bool := match C.P.underlying t with | some (.pointer _) => true | _ => false
def tyBool (C : Ctx) (t : TypeId) : Bool := match C.P.underlying t with | some .bool => true | _ => false
def tyFunc (C : Ctx) (t : TypeId) : Bool := match C.P.underlying t with | some (.func _ _ _) => true | _ => false
/-- The kinds of the cells of a type whose values are compared with '=='. -/
def tyLeaves (C : Ctx) (t : TypeId) : Option (List LK) := if C.P.eqGuardType C.P.depth t = false then leaves C.P 40 t else none
def aEq (C : Ctx) (t : TypeId) (x y : AV) : Option Bool :=
  match x, y with
  | .bool a, .bool b => if tyBool C t = true then some (a == b) else none
  | .nilp, .nilp => if tyPtr C t = true then some true else none
  | .ptr _ _ _, .nilp => if tyPtr C t = true then some false else none
  | .vp _, .nilp => if tyPtr C t = true then some false else none
  | .nilp, .ptr _ _ _ => if tyPtr C t = true then some false else none
  | .nilp, .vp _ => if tyPtr C t = true then some false else none
  | .nilsl, .nilsl => (tySl C t).map fun _ => true
  | .vsl _ _ _, .nilsl => (tySl C t).map fun _ => false
  | .sl _ _ _ _ _, .nilsl => (tySl C t).map fun _ => false
  | .asl _ _ _ _ _ _, .nilsl => (tySl C t).map fun _ => false
  | .nilfn, .nilfn => if tyFunc C t = true then some true else none
  | .fn _ _, .nilfn => if tyFunc C t = true then some false else none
  | .agg xs, .agg ys => (tyLeaves C t).bind fun l => if xs.map kindOf = l.map some ∧ ys.map kindOf = l.map some ∧ tyAgg C t = some true then some (eqCells xs ys) else none
  | _, _ => none
def aBin (C : Ctx) (op : BinOp) (t : TypeId) (x y : AV) : Option AV :=
  match x, y with
  | .int k a, .int k' b => match op with
    | .shl => shBin .shl k a b
    | .shr => shBin .shr k a b
    | op => if k = k' then intBin op k a b else none
  | .str a, .str b => strBin op a b
  | x, y => (aEq C t x y).bind (eqOp op)

def asV : AV → Value
  | .int k n => .int k n
  | .bool b => .bool b
  | .str s => .string ⟨s.toArray⟩
  | _ => undef
theorem intBin_ok {op : BinOp} {k : IntKind} {a b : Int} {r : AV} {t : TypeId} (h : intBin op k a b = some r) : ∃ v, (binOp op t (.int k a) (.int k b)).run C.P w = .ok v w ∧ VR γ w r v := by
  refine ⟨asV r, ?_, ?_⟩
  · cases op <;> simp only [intBin, Option.some.injEq, reduceCtorEq] at h
    case quo =>
      split at h
      · cases h
      · rename_i hb
        simp only [Option.some.injEq] at h; subst h
        simp [binOp, Op.intDiv, hb, asV]
    case rem =>
      split at h
      · cases h
      · rename_i hb
        simp only [Option.some.injEq] at h; subst h
        simp [binOp, Op.intDiv, hb, asV]
    all_goals subst h
    all_goals simp [binOp, Op.intArith, Op.intBits, Op.intCmp, asV]
  · cases op <;> simp only [intBin, Option.some.injEq, reduceCtorEq] at h
    case quo => split at h <;> cases h; simp only [VR, asV]
    case rem => split at h <;> cases h; simp only [VR, asV]
    all_goals subst h
    all_goals simp only [VR, asV]
theorem shBin_ok {op : BinOp} {k k' : IntKind} {a b : Int} {r : AV} {t : TypeId} (h : shBin op k a b = some r) : ∃ v, (binOp op t (.int k a) (.int k' b)).run C.P w = .ok v w ∧ VR γ w r v := by
  refine ⟨asV r, ?_, ?_⟩
  · cases op <;> simp only [shBin, reduceCtorEq] at h
    all_goals (split at h; · cases h)
    all_goals (rename_i hb; simp only [Option.some.injEq] at h; subst h)
    all_goals simp [binOp, Op.shift, hb, asV]
  · cases op <;> simp only [shBin, reduceCtorEq] at h
    all_goals (split at h <;> cases h; simp only [VR, asV])
theorem strBin_ok {op : BinOp} {a b : List UInt8} {r : AV} {t : TypeId} (h : strBin op a b = some r) : ∃ v, (binOp op t (.string ⟨a.toArray⟩) (.string ⟨b.toArray⟩)).run C.P w = .ok v w ∧ VR γ w r v := by
  have e : binOp op t (.string ⟨a.toArray⟩) (.string ⟨b.toArray⟩) = Op.stringOp op ⟨a.toArray⟩ ⟨b.toArray⟩ := by cases op <;> rfl
  rw [e]
  refine ⟨asV r, ?_, ?_⟩
  · cases op <;> simp only [strBin, Option.some.injEq, reduceCtorEq] at h
    case add =>
      split at h
      · rename_i hle
        simp only [Option.some.injEq] at h; subst h
        have h1 : ¬ (((a.length + b.length : Nat) : Int) > IntKind.i64.max) := by simp [IntKind.max, IntKind.signed, IntKind.bits]; omega
        have h2 : (⟨a.toArray⟩ : ByteArray) ++ ⟨b.toArray⟩ = ⟨(a ++ b).toArray⟩ := by
          apply ByteArray.ext
          simp
        simp only [Op.stringOp, ba_size, h1, if_false, h2, Sem.run_pure, asV]
      · cases h
    all_goals subst h
    all_goals simp [Op.stringOp, ByteArray.toList_eq, asV]
  · cases op <;> simp only [strBin, Option.some.injEq, reduceCtorEq] at h
    case add => split at h <;> cases h; simp only [VR, asV]
    all_goals subst h
    all_goals simp only [VR, asV]

theorem eqOp_ok {op : BinOp} {b : Bool} {r : AV} {t : TypeId} {vx vy : Value} (h : eqOp op b = some r) (hi : ∀ k a, vx ≠ .int k a) (hf : ∀ k a, vx ≠ .float k a) (hc : ∀ k a b, vx ≠ .complex k a b) (hs : ∀ s, vx ≠ .string s)
    (he : (Op.equalIn 10000 t vx vy).run C.P w = .ok b w) : ∃ v, (binOp op t vx vy).run C.P w = .ok v w ∧ VR γ w r v := by
  have he' : (Op.equal t vx vy).run C.P w = .ok b w := he
  cases op <;> simp only [eqOp, Option.some.injEq, reduceCtorEq] at h
  all_goals subst h
  · have e : binOp .eql t vx vy = (do pure (.bool (← Op.equal t vx vy))) := by cases vx <;> first | rfl | exact absurd rfl (hi _ _) | exact absurd rfl (hf _ _) | exact absurd rfl (hc _ _ _) | exact absurd rfl (hs _)
    exact ⟨.bool b, by rw [e]; simp [he'], by simp only [VR]⟩
  · have e : binOp .neq t vx vy = (do pure (.bool (!(← Op.equal t vx vy)))) := by cases vx <;> first | rfl | exact absurd rfl (hi _ _) | exact absurd rfl (hf _ _) | exact absurd rfl (hc _ _ _) | exact absurd rfl (hs _)
    exact ⟨.bool (!b), by rw [e]; simp [he'], by simp only [VR]⟩

theorem eqn_pp {d : Nat} {t e : TypeId} (hu : C.P.underlying t = some (.pointer e)) : (Op.equalIn (d + 1) t (.pointer none) (.pointer none)).run C.P w = .ok true w := by simp [Op.equalIn, run_underlying hu]
theorem eqn_ap {d : Nat} {t e : TypeId} {a : Addr} (hu : C.P.underlying t = some (.pointer e)) : (Op.equalIn (d + 1) t (.pointer (some a)) (.pointer none)).run C.P w = .ok false w := by simp [Op.equalIn, run_underlying hu]
theorem eqn_pa {d : Nat} {t e : TypeId} {a : Addr} (hu : C.P.underlying t = some (.pointer e)) : (Op.equalIn (d + 1) t (.pointer none) (.pointer (some a))).run C.P w = .ok false w := by simp [Op.equalIn, run_underlying hu]
theorem eqn_ss {d : Nat} {t e : TypeId} (hu : C.P.underlying t = some (.slice e)) : (Op.equalIn (d + 1) t (.slice none 0 0) (.slice none 0 0)).run C.P w = .ok true w := by simp [Op.equalIn, run_underlying hu]
theorem eqn_as {d : Nat} {t e : TypeId} {a : Addr} {n c : Nat} (hu : C.P.underlying t = some (.slice e)) : (Op.equalIn (d + 1) t (.slice (some a) n c) (.slice none 0 0)).run C.P w = .ok false w := by simp [Op.equalIn, run_underlying hu]
theorem eqn_ff {d : Nat} {t : TypeId} {p r : Array TypeId} {v : Bool} (hu : C.P.underlying t = some (.func p r v)) : (Op.equalIn (d + 1) t .nilFunc .nilFunc).run C.P w = .ok true w := by simp [Op.equalIn, run_underlying hu]
theorem eqn_af {d : Nat} {t : TypeId} {p r : Array TypeId} {v : Bool} {f : Fn} {x y : Array Value} (hu : C.P.underlying t = some (.func p r v)) : (Op.equalIn (d + 1) t (.func f x y) .nilFunc).run C.P w = .ok false w := by simp [Op.equalIn, run_underlying hu]

theorem aEq_ok {t : TypeId} {x y : AV} {vx vy : Value} {b : Bool} (hx : VR γ w x vx) (hy : VR γ w y vy) (h : aEq C t x y = some b) :
    (Op.equalIn 10000 t vx vy).run C.P w = .ok b w ∧ (∀ k a, vx ≠ .int k a) ∧ (∀ k a, vx ≠ .float k a) ∧ (∀ k a b, vx ≠ .complex k a b) ∧ (∀ s, vx ≠ .string s) := by
  have ptr : tyPtr C t = true → ∃ e, C.P.underlying t = some (.pointer e) := fun h => by
    unfold tyPtr at h; split at h
    · exact ⟨_, by assumption⟩
    · cases h
  have fnc : tyFunc C t = true → ∃ p r v, C.P.underlying t = some (.func p r v) := fun h => by
    unfold tyFunc at h; split at h
    · exact ⟨_, _, _, by assumption⟩
    · cases h
  unfold aEq at h
  split at h
  · split at h
    · rename_i ht
      have hu : C.P.underlying t = some .bool := by unfold tyBool at ht; split at ht; · assumption
                                                    · cases ht
      simp only [Option.some.injEq] at h; subst h
      simp only [VR] at hx hy; subst hx; subst hy
      exact ⟨run_equalIn_bool' w 9999 t _ _ hu, by simp, by simp, by simp, by simp⟩
    · cases h
  · split at h
    · rename_i ht
      obtain ⟨e, hu⟩ := ptr ht
      simp only [Option.some.injEq] at h; subst h
      simp only [VR] at hx hy; subst hx; subst hy
      exact ⟨eqn_pp hu, by simp, by simp, by simp, by simp⟩
    · cases h
  · split at h
    · rename_i ht
      obtain ⟨e, hu⟩ := ptr ht
      simp only [Option.some.injEq] at h; subst h
      simp only [VR] at hx hy; subst hy
      obtain ⟨fl, pl, hpl, rfl⟩ := hx
      exact ⟨eqn_ap hu, by simp, by simp, by simp, by simp⟩
    · cases h
  · split at h
    · rename_i ht
      obtain ⟨e, hu⟩ := ptr ht
      simp only [Option.some.injEq] at h; subst h
      simp only [VR] at hx hy; subst hy
      obtain ⟨b, o, vals, rfl, _⟩ := hx
      exact ⟨eqn_ap hu, by simp, by simp, by simp, by simp⟩
    · cases h
  · split at h
    · rename_i ht
      obtain ⟨e, hu⟩ := ptr ht
      simp only [Option.some.injEq] at h; subst h
      simp only [VR] at hx hy; subst hx
      obtain ⟨fl, pl, hpl, rfl⟩ := hy
      exact ⟨eqn_pa hu, by simp, by simp, by simp, by simp⟩
    · cases h
  · split at h
    · rename_i ht
      obtain ⟨e, hu⟩ := ptr ht
      simp only [Option.some.injEq] at h; subst h
      simp only [VR] at hx hy; subst hx
      obtain ⟨b, o, vals, rfl, _⟩ := hy
      exact ⟨eqn_pa hu, by simp, by simp, by simp, by simp⟩
    · cases h
  · simp only [Option.map_eq_some_iff] at h
    obtain ⟨e, he, rfl⟩ := h
    simp only [VR] at hx hy; subst hx; subst hy
    exact ⟨eqn_ss (tySl_u he), by simp, by simp, by simp, by simp⟩
  · simp only [Option.map_eq_some_iff] at h
    obtain ⟨e, he, rfl⟩ := h
    simp only [VR] at hx hy; subst hy
    rcases hx with ⟨rfl, a, rfl⟩ | ⟨b, o, cap, vals, rfl, _⟩
    · exact ⟨eqn_as (tySl_u he), by simp, by simp, by simp, by simp⟩
    exact ⟨eqn_as (tySl_u he), by simp, by simp, by simp, by simp⟩
  · simp only [Option.map_eq_some_iff] at h
    obtain ⟨e, he, rfl⟩ := h
    simp only [VR] at hx hy; subst hy
    obtain ⟨fl, pl, b, o, cap, hpl, _, rfl, _⟩ := hx
    exact ⟨eqn_as (tySl_u he), by simp, by simp, by simp, by simp⟩
  · simp only [Option.map_eq_some_iff] at h
    obtain ⟨e, he, rfl⟩ := h
    simp only [VR] at hx hy; subst hy
    obtain ⟨fl, pl, b, o, hpl, rfl, _⟩ := hx
    exact ⟨eqn_as (tySl_u he), by simp, by simp, by simp, by simp⟩
  · split at h
    · rename_i ht
      obtain ⟨p, r, v, hu⟩ := fnc ht
      simp only [Option.some.injEq] at h; subst h
      simp only [VR] at hx hy; subst hx; subst hy
      exact ⟨eqn_ff hu, by simp, by simp, by simp, by simp⟩
    · cases h
  · split at h
    · rename_i ht
      obtain ⟨p, r, v, hu⟩ := fnc ht
      simp only [Option.some.injEq] at h; subst h
      simp only [VR] at hx hy; subst hy
      obtain ⟨vs, rfl, _⟩ := hx
      exact ⟨eqn_af hu, by simp, by simp, by simp, by simp⟩
    · cases h
  · rename_i xs ys
    simp only [Option.bind_eq_some_iff] at h
    obtain ⟨l, hl, h⟩ := h
    split at h
    · rename_i hk
      simp only [Option.some.injEq] at h; subst h
      simp only [VR] at hx hy
      obtain ⟨us, rfl, h1⟩ := hx
      obtain ⟨vs, rfl, h2⟩ := hy
      have hl' : leaves C.P 40 t = some l := by
        unfold tyLeaves at hl; split at hl
        · exact hl
        · cases hl
      obtain ⟨ag, hag, _, he⟩ := eqLeaves_ok (C := C) 40 10000 t l hl' (by omega) xs ys us vs hk.1 hk.2.1 h1 h2
      rw [hk.2.2] at hag; cases hag
      exact ⟨by simpa [mkV] using he, by simp, by simp, by simp, by simp⟩
    · cases h
  · cases h

theorem eqGuard_none {op : BinOp} {t : TypeId} {x y : Operand} {a b : Value} (h1 : a ≠ .nilIface) (h2 : ∀ cs, a ≠ .agg cs) : (eqGuard op t x y a b).run C.P w = .ok () w := by
  cases op <;> first
    | rfl
    | (cases a <;> first | exact absurd rfl h1 | exact absurd rfl (h2 _) | (cases b <;> rfl))

theorem bin_ok {op : BinOp} {t : TypeId} {x y r : AV} {vx vy : Value} {ox oy : Operand} (hx : VR γ w x vx) (hy : VR γ w y vy) (h : aBin C op t x y = some r) :
    ∃ v, (do eqGuard op t ox oy vx vy; binOp op t vx vy : Sem Value).run C.P w = .ok v w ∧ VR γ w r v := by
  unfold aBin at h
  split at h
  · rename_i k a k' b
    simp only [VR] at hx hy; subst hx; subst hy
    have hg := eqGuard_none (C := C) (w := w) (op := op) (t := t) (x := ox) (y := oy) (a := .int k a) (b := .int k' b) (by simp) (by simp)
    split at h
    · obtain ⟨v, h1, h2⟩ := shBin_ok (C := C) (γ := γ) (w := w) (k' := k') (t := t) h
      exact ⟨v, by simp [hg, h1], h2⟩
    · obtain ⟨v, h1, h2⟩ := shBin_ok (C := C) (γ := γ) (w := w) (k' := k') (t := t) h
      exact ⟨v, by simp [hg, h1], h2⟩
    · split at h
      · rename_i hk
        subst hk
        obtain ⟨v, h1, h2⟩ := intBin_ok (C := C) (γ := γ) (w := w) (t := t) h
        exact ⟨v, by simp [hg, h1], h2⟩
      · cases h
  · rename_i a b
    simp only [VR] at hx hy; subst hx; subst hy
    have hg := eqGuard_none (C := C) (w := w) (op := op) (t := t) (x := ox) (y := oy) (a := .string ⟨a.toArray⟩) (b := .string ⟨b.toArray⟩) (by simp) (by simp)
    obtain ⟨v, h1, h2⟩ := strBin_ok (C := C) (γ := γ) (w := w) (t := t) h
    exact ⟨v, by simp [hg, h1], h2⟩
  · simp only [Option.bind_eq_some_iff] at h
    obtain ⟨b, hb, h⟩ := h
    obtain ⟨h1, h2, h3, h4, h5⟩ := aEq_ok (C := C) hx hy hb
    obtain ⟨v, h6, h7⟩ := eqOp_ok (C := C) (γ := γ) (w := w) h h2 h3 h4 h5 h1
    have hg : (eqGuard op t ox oy vx vy).run C.P w = .ok () w := by
      by_cases hag : ∃ cs, vx = .agg cs
      · obtain ⟨cs, rfl⟩ := hag
        unfold aEq at hb
        split at hb
        case h_13 xs ys =>
          simp only [Option.bind_eq_some_iff] at hb
          obtain ⟨l, hl, hb⟩ := hb
          have hm : C.P.eqGuardType C.P.depth t = false := by
            unfold tyLeaves at hl; split at hl
            · assumption
            · cases hl
          simp only [VR] at hy
          obtain ⟨us, rfl, _⟩ := hy
          exact run_eqGuard_agg w op t ox oy _ _ hm
        case h_14 => cases hb
        all_goals
          exfalso
          first
            | (simp [VR] at hx; done)
            | (simp only [VR] at hx; obtain ⟨_, _, _, hx⟩ := hx; simp at hx; done)
            | (simp only [VR] at hx; obtain ⟨_, _, _, _, _, _, _, hx, _⟩ := hx; simp at hx; done)
            | (simp only [VR] at hx; obtain ⟨_, _, _, _, _, hx, _⟩ := hx; simp at hx; done)
      · refine eqGuard_none ?_ (fun cs e => hag ⟨cs, e⟩)
        rintro rfl
        unfold aEq at hb
        split at hb
        case h_14 => cases hb
        all_goals
          exfalso
          first
            | (simp [VR] at hx; done)
            | (simp only [VR] at hx; obtain ⟨_, _, _, hx⟩ := hx; simp at hx; done)
            | (simp only [VR] at hx; obtain ⟨_, _, _, _, _, _, _, hx, _⟩ := hx; simp at hx; done)
            | (simp only [VR] at hx; obtain ⟨_, _, _, _, _, hx, _⟩ := hx; simp at hx; done)
    exact ⟨v, by simp [hg, h6], h7⟩

def aUn (op : UnOp) (x : AV) : Option AV :=
  match op, x with
  | .neg, .int k n => some (.int k (k.wrap (0 - n)))
  | .xor, .int k n => some (.int k (k.wrap (BitVec.ofInt k.bits (if k.signed then -1 else k.max) ^^^ BitVec.ofInt k.bits n).toNat))
  | .not, .bool b => some (.bool (!b))
  | _, _ => none
theorem un_ok {op : UnOp} {x r : AV} {vx : Value} (hx : VR γ w x vx) (h : aUn op x = some r) : ∃ v, (Op.unary op vx).run C.P w = .ok v w ∧ VR γ w r v := by
  refine ⟨asV r, ?_, ?_⟩
  · unfold aUn at h
    split at h
    · simp only [VR] at hx; subst hx; simp only [Option.some.injEq] at h; subst h
      simp only [Op.unary, Op.intArith, Sem.run_pure, asV]
    · simp only [VR] at hx; subst hx; simp only [Option.some.injEq] at h; subst h
      simp only [Op.unary, Op.intBits, Sem.run_pure, asV]
    · simp only [VR] at hx; subst hx; simp only [Option.some.injEq] at h; subst h
      simp only [Op.unary, Sem.run_pure, asV]
    · cases h
  · unfold aUn at h
    split at h <;> cases h <;> simp only [VR, asV]

def aMin (mx : Bool) (x y : AV) : Option AV :=
  match x, y with
  | .int k a, .int k' b => if k = k' then some (.int k (if mx then (if b > a then b else a) else (if b < a then b else a))) else none
  | _, _ => none
end
end Am
end Go.Proofs.Ytkffgmpbhahioaa
