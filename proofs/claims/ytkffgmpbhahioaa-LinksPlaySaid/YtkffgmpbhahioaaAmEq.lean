/- THE ABSTRACT MACHINE, part 6: '==' on structs and arrays of plain cells. -/
import Derived.Test.YtkffgmpbhahioaaAmSlice
import Derived.ChangeKeysEq
namespace Go.Proofs.Ytkffgmpbhahioaa
namespace Am

inductive LK where
  | b
  | i (k : IntKind)
  | s
  deriving DecidableEq

def leavesF (rec : TypeId → Option (List LK)) (P : Program) : List Field → Nat → Option (List LK)
  | [], _ => some []
  | f :: fs, off => if f.name = "_" then none else
      (rec f.type).bind fun l => if f.offset = off ∧ (P.info? f.type).map (·.size) = some l.length then (leavesF rec P fs (off + l.length)).map (l ++ ·) else none
/-- The kinds of a type's cells, where all are plain. -/
def leaves (P : Program) : Nat → TypeId → Option (List LK)
  | 0, _ => none
  | d + 1, t =>
    match P.underlying t with
    | some .bool => some [.b]
    | some (.int k) => some [.i k]
    | some .string => some [.s]
    | some (.struct fs) => if P.stoodInHeld t then none else leavesF (leaves P d) P fs.toList 0
    | some (.array n e) => (leaves P d e).bind fun l => if P.cellsOf e = l.length then (if ((P.info? e).map (·.size)) = some l.length then some (List.replicate n l).flatten else none) else none
    | _ => none

def kindOf : AV → Option LK
  | .bool _ => some .b
  | .int k _ => some (.i k)
  | .str _ => some .s
  | _ => none
def eqCell : AV → AV → Bool
  | .bool a, .bool b => a == b
  | .int _ a, .int _ b => a == b
  | .str a, .str b => a == b
  | _, _ => false
def eqCells : List AV → List AV → Bool
  | [], [] => true
  | a :: as, b :: bs => eqCell a b && eqCells as bs
  | _, _ => false
theorem eqCells_append {as bs cs ds : List AV} (h : as.length = bs.length) : eqCells (as ++ cs) (bs ++ ds) = (eqCells as bs && eqCells cs ds) := by
  induction as generalizing bs with
  | nil => cases bs <;> simp_all [eqCells]
  | cons a as ih =>
    cases bs with
    | nil => simp at h
    | cons b bs => simp only [List.cons_append, eqCells, ih (by simpa using h), Bool.and_assoc]

def mkV (ag : Bool) (vs : List Value) : Value := if ag then .agg vs.toArray else vs.headD undef

section
variable {C : Ctx} {γ : Places} {w : World}

theorem part_mk {t : TypeId} {ag : Bool} {v1 A v2 : List Value} (hag : tyAgg C t = some ag) (hn : (C.P.info? t).map (·.size) = some v1.length) (h1 : ag = false → v1.length = 1) {cs : Array Value} {off : Nat}
    (hcs : cs.toList = A ++ v1 ++ v2) (hoff : A.length = off) : (part t cs off).run C.P w = .ok (mkV ag v1) w := by
  have hsz : tySize C t = some v1.length := hn
  obtain ⟨l⟩ := cs
  simp only at hcs
  subst hcs
  cases ag with
  | true =>
    simp only [part, Sem.run_bind, run_isAgg hag, Result.andThen_ok, if_true, run_sizeOf hsz, Sem.run_pure, mkV]
    congr 2
    apply Array.ext'
    rw [Array.toList_extract]
    simp only [List.extract_eq_take_drop]
    rw [← hoff, List.append_assoc, List.drop_left, show A.length + v1.length - A.length = v1.length by omega, List.take_left]
  | false =>
    have h1 := h1 rfl
    match v1, h1 with
    | [v], _ =>
      have : (A ++ [v] ++ v2)[off]? = some v := by
        rw [List.append_assoc, List.getElem?_append_right (by omega)]
        simp [hoff]
      have h2 : (Array.mk (A ++ [v] ++ v2))[off]? = some v := by rw [← this]; exact List.getElem?_toArray
      simp only [part, Sem.run_bind, run_isAgg hag, Result.andThen_ok, Bool.false_eq_true, if_false, h2, Sem.run_pure, mkV, List.headD_cons]

theorem eqFields_ok {D : Nat} {rec : TypeId → Option (List LK)}
    (ih : ∀ (t : TypeId) (l : List LK), rec t = some l → ∀ (xs ys : List AV) (vx vy : List Value), xs.map kindOf = l.map some → ys.map kindOf = l.map some → VRs γ w xs vx → VRs γ w ys vy →
      ∃ ag, tyAgg C t = some ag ∧ (ag = false → l.length = 1) ∧ (Op.equalIn D t (mkV ag vx) (mkV ag vy)).run C.P w = .ok (eqCells xs ys) w) :
    ∀ (fs : List Field) (off : Nat) (l : List LK), leavesF rec C.P fs off = some l → ∀ (xs ys : List AV) (vx vy A B : List Value) (cx cy : Array Value), xs.map kindOf = l.map some → ys.map kindOf = l.map some →
      VRs γ w xs vx → VRs γ w ys vy → cx.toList = A ++ vx → cy.toList = B ++ vy → A.length = off → B.length = off → (Op.eqFields D cx cy fs).run C.P w = .ok (eqCells xs ys) w
  | [], off, l, hl, xs, ys, vx, vy, A, B, cx, cy, hx, hy, hvx, hvy, hcx, hcy, hA, hB => by
    simp only [leavesF, Option.some.injEq] at hl
    subst hl
    simp only [List.map_nil, List.map_eq_nil_iff] at hx hy
    subst hx; subst hy
    simp [Op.eqFields, eqCells]
  | f :: fs, off, l, hl, xs, ys, vx, vy, A, B, cx, cy, hx, hy, hvx, hvy, hcx, hcy, hA, hB => by
    simp only [leavesF] at hl
    split at hl
    · cases hl
    · rename_i hname
      simp only [Option.bind_eq_some_iff] at hl
      obtain ⟨l1, hl1, hl⟩ := hl
      split at hl
      · rename_i hc
        simp only [Option.map_eq_some_iff] at hl
        obtain ⟨l2, hl2, rfl⟩ := hl
        have split_ : ∀ (zs : List AV) (vz : List Value), zs.map kindOf = (l1 ++ l2).map some → VRs γ w zs vz → ∃ z1 z2 u1 u2, zs = z1 ++ z2 ∧ vz = u1 ++ u2 ∧ z1.map kindOf = l1.map some ∧ z2.map kindOf = l2.map some ∧ VRs γ w z1 u1 ∧ VRs γ w z2 u2 ∧ z1.length = l1.length := by
          intro zs vz hz hv
          rw [List.map_append] at hz
          obtain ⟨z1, z2, rfl, h1, h2⟩ := List.map_eq_append_iff.1 hz
          obtain ⟨u1, u2, rfl, h3, h4⟩ := hv.append_inv
          refine ⟨z1, z2, u1, u2, rfl, rfl, h1, h2, h3, h4, ?_⟩
          have := congrArg List.length h1
          simpa using this
        obtain ⟨x1, x2, a1, a2, rfl, rfl, px1, px2, qx1, qx2, lx⟩ := split_ xs vx hx hvx
        obtain ⟨y1, y2, b1, b2, rfl, rfl, py1, py2, qy1, qy2, ly⟩ := split_ ys vy hy hvy
        obtain ⟨ag, hag, hone, heq⟩ := ih f.type l1 hl1 x1 y1 a1 b1 px1 py1 qx1 qy1
        have la := qx1.length; have lb := qy1.length
        have e1 := part_mk (C := C) (w := w) (t := f.type) (v1 := a1) (A := A) (v2 := a2) hag (by rw [hc.2, ← la, lx]) (fun h => by rw [← la, lx]; exact hone h) (cs := cx) (off := f.offset) (by rw [hcx, List.append_assoc]) (by rw [hc.1]; exact hA)
        have e2 := part_mk (C := C) (w := w) (t := f.type) (v1 := b1) (A := B) (v2 := b2) hag (by rw [hc.2, ← lb, ly]) (fun h => by rw [← lb, ly]; exact hone h) (cs := cy) (off := f.offset) (by rw [hcy, List.append_assoc]) (by rw [hc.1]; exact hB)
        have e3 := eqFields_ok ih fs (off + l1.length) l2 hl2 x2 y2 a2 b2 (A ++ a1) (B ++ b1) cx cy px2 py2 qx2 qy2 (by rw [hcx, List.append_assoc]) (by rw [hcy, List.append_assoc])
          (by rw [List.length_append, hA, ← la, lx]) (by rw [List.length_append, hB, ← lb, ly])
        have hne : (f.name ≠ "_") = True := by simp [hname]
        simp only [Op.eqFields, hne, if_true, Sem.run_bind, e1, e2, heq, Result.andThen_ok, Sem.run_ite, Sem.run_pure, e3]
        rw [eqCells_append (lx.trans ly.symm)]
        cases eqCells x1 y1 <;> simp
      · cases hl

theorem eqItems_ok {D : Nat} {e : TypeId} {l1 : List LK} {sz : Nat} (hsz : sz = l1.length) (hi : (C.P.info? e).map (·.size) = some l1.length)
    (ih : ∀ (xs ys : List AV) (vx vy : List Value), xs.map kindOf = l1.map some → ys.map kindOf = l1.map some → VRs γ w xs vx → VRs γ w ys vy →
      ∃ ag, tyAgg C e = some ag ∧ (ag = false → l1.length = 1) ∧ (Op.equalIn D e (mkV ag vx) (mkV ag vy)).run C.P w = .ok (eqCells xs ys) w) :
    ∀ (n k : Nat) (xs ys : List AV) (vx vy A B : List Value) (cx cy : Array Value), xs.map kindOf = (List.replicate n l1).flatten.map some → ys.map kindOf = (List.replicate n l1).flatten.map some →
      VRs γ w xs vx → VRs γ w ys vy → cx.toList = A ++ vx → cy.toList = B ++ vy → A.length = k * sz → B.length = k * sz → (Op.eqItems D e sz cx cy (List.range' k n)).run C.P w = .ok (eqCells xs ys) w
  | 0, k, xs, ys, vx, vy, A, B, cx, cy, hx, hy, hvx, hvy, hcx, hcy, hA, hB => by
    simp only [List.replicate_zero, List.flatten_nil, List.map_nil, List.map_eq_nil_iff] at hx hy
    subst hx; subst hy
    simp [Op.eqItems, eqCells]
  | n + 1, k, xs, ys, vx, vy, A, B, cx, cy, hx, hy, hvx, hvy, hcx, hcy, hA, hB => by
    have split_ : ∀ (zs : List AV) (vz : List Value), zs.map kindOf = (List.replicate (n + 1) l1).flatten.map some → VRs γ w zs vz → ∃ z1 z2 u1 u2, zs = z1 ++ z2 ∧ vz = u1 ++ u2 ∧ z1.map kindOf = l1.map some ∧
        z2.map kindOf = (List.replicate n l1).flatten.map some ∧ VRs γ w z1 u1 ∧ VRs γ w z2 u2 ∧ z1.length = l1.length := by
      intro zs vz hz hv
      rw [List.replicate_succ, List.flatten_cons, List.map_append] at hz
      obtain ⟨z1, z2, rfl, h1, h2⟩ := List.map_eq_append_iff.1 hz
      obtain ⟨u1, u2, rfl, h3, h4⟩ := hv.append_inv
      refine ⟨z1, z2, u1, u2, rfl, rfl, h1, h2, h3, h4, ?_⟩
      have := congrArg List.length h1
      simpa using this
    obtain ⟨x1, x2, a1, a2, rfl, rfl, px1, px2, qx1, qx2, lx⟩ := split_ xs vx hx hvx
    obtain ⟨y1, y2, b1, b2, rfl, rfl, py1, py2, qy1, qy2, ly⟩ := split_ ys vy hy hvy
    obtain ⟨ag, hag, hone, heq⟩ := ih x1 y1 a1 b1 px1 py1 qx1 qy1
    have la := qx1.length; have lb := qy1.length
    have e1 := part_mk (C := C) (w := w) (t := e) (v1 := a1) (A := A) (v2 := a2) hag (by rw [hi, ← la, lx]) (fun h => by rw [← la, lx]; exact hone h) (cs := cx) (off := k * sz) (by rw [hcx, List.append_assoc]) hA
    have e2 := part_mk (C := C) (w := w) (t := e) (v1 := b1) (A := B) (v2 := b2) hag (by rw [hi, ← lb, ly]) (fun h => by rw [← lb, ly]; exact hone h) (cs := cy) (off := k * sz) (by rw [hcy, List.append_assoc]) hB
    have e3 := eqItems_ok hsz hi ih n (k + 1) x2 y2 a2 b2 (A ++ a1) (B ++ b1) cx cy px2 py2 qx2 qy2 (by rw [hcx, List.append_assoc]) (by rw [hcy, List.append_assoc])
      (by rw [List.length_append, hA, ← la, lx, hsz, Nat.succ_mul]) (by rw [List.length_append, hB, ← lb, ly, hsz, Nat.succ_mul])
    simp only [List.range'_succ, Op.eqItems, Sem.run_bind, e1, e2, heq, Result.andThen_ok, Sem.run_ite, Sem.run_pure, e3]
    rw [eqCells_append (lx.trans ly.symm)]
    cases eqCells x1 y1 <;> simp

theorem eqLeaves_ok : ∀ (d D : Nat) (t : TypeId) (l : List LK), leaves C.P d t = some l → d ≤ D → ∀ (xs ys : List AV) (vx vy : List Value), xs.map kindOf = l.map some → ys.map kindOf = l.map some → VRs γ w xs vx → VRs γ w ys vy →
    ∃ ag, tyAgg C t = some ag ∧ (ag = false → l.length = 1) ∧ (Op.equalIn D t (mkV ag vx) (mkV ag vy)).run C.P w = .ok (eqCells xs ys) w
  | 0, D, t, l, hl, hd, xs, ys, vx, vy, hx, hy, hvx, hvy => by simp [leaves] at hl
  | d + 1, 0, t, l, hl, hd, xs, ys, vx, vy, hx, hy, hvx, hvy => by omega
  | d + 1, D + 1, t, l, hl, hd, xs, ys, vx, vy, hx, hy, hvx, hvy => by
    have one : ∀ (zs : List AV) (vz : List Value) (k : LK), zs.map kindOf = [k].map some → VRs γ w zs vz → ∃ z v, zs = [z] ∧ vz = [v] ∧ kindOf z = some k ∧ VR γ w z v := by
      intro zs vz k hz hv
      match zs, hz, hv with
      | [], hz, _ => simp at hz
      | _ :: _ :: _, hz, _ => simp at hz
      | [z], hz, hv =>
        simp only [VRs] at hv
        obtain ⟨v, vs', rfl, h2, h3⟩ := hv
        subst h3
        exact ⟨z, v, rfl, rfl, by simpa using hz, h2.1⟩
    simp only [leaves] at hl
    split at hl
    · rename_i hu
      simp only [Option.some.injEq] at hl; subst hl
      obtain ⟨x, v, rfl, rfl, kx, rx⟩ := one xs vx _ hx hvx
      obtain ⟨y, u, rfl, rfl, ky, ry⟩ := one ys vy _ hy hvy
      cases x <;> simp [kindOf] at kx
      cases y <;> simp [kindOf] at ky
      simp only [VR] at rx ry; subst rx; subst ry
      exact ⟨false, by simp [tyAgg, hu], by simp, by simp [mkV, run_equalIn_bool' w D t _ _ hu, eqCells, eqCell]⟩
    · rename_i k hu
      simp only [Option.some.injEq] at hl; subst hl
      obtain ⟨x, v, rfl, rfl, kx, rx⟩ := one xs vx _ hx hvx
      obtain ⟨y, u, rfl, rfl, ky, ry⟩ := one ys vy _ hy hvy
      cases x <;> simp [kindOf] at kx
      cases y <;> simp [kindOf] at ky
      subst kx; subst ky
      simp only [VR] at rx ry; subst rx; subst ry
      exact ⟨false, by simp [tyAgg, hu], by simp, by simp [mkV, run_equalIn_int w D t _ _ _ _ hu, eqCells, eqCell]⟩
    · rename_i hu
      simp only [Option.some.injEq] at hl; subst hl
      obtain ⟨x, v, rfl, rfl, kx, rx⟩ := one xs vx _ hx hvx
      obtain ⟨y, u, rfl, rfl, ky, ry⟩ := one ys vy _ hy hvy
      cases x <;> simp [kindOf] at kx
      cases y <;> simp [kindOf] at ky
      simp only [VR] at rx ry; subst rx; subst ry
      exact ⟨false, by simp [tyAgg, hu], by simp, by simp [mkV, run_equalIn_string w D t _ _ hu, eqCells, eqCell, ByteArray.toList_eq]⟩
    · rename_i fs hu
      split at hl
      · cases hl
      · rename_i hs
        have hfo : C.P.fieldsOf t = fs := by simp [Program.fieldsOf, hu]
        refine ⟨true, by simp [tyAgg, hu], by simp, ?_⟩
        simp only [mkV, if_true]
        rw [run_equalIn_struct w D t _ _ (by rw [hfo]; exact hu) (by simpa using hs), hfo]
        exact eqFields_ok (fun t l h xs ys vx vy h1 h2 h3 h4 => eqLeaves_ok d D t l h (by omega) xs ys vx vy h1 h2 h3 h4) fs.toList 0 l hl xs ys vx vy [] [] _ _ hx hy hvx hvy (by simp) (by simp) rfl rfl
    · rename_i n e hu
      simp only [Option.bind_eq_some_iff] at hl
      obtain ⟨l1, hl1, hl⟩ := hl
      split at hl
      · rename_i hc
        split at hl
        · rename_i hi
          simp only [Option.some.injEq] at hl; subst hl
          refine ⟨true, by simp [tyAgg, hu], by simp, ?_⟩
          simp only [mkV, if_true]
          cases hii : C.P.info? e with
          | none => simp [hii] at hi
          | some i =>
            rw [run_equalIn_array w D _ _ hu hii, List.range_eq_range']
            exact eqItems_ok hc hi (fun xs ys vx vy h1 h2 h3 h4 => eqLeaves_ok d D e l1 hl1 (by omega) xs ys vx vy h1 h2 h3 h4) n 0 xs ys vx vy [] [] _ _ hx hy hvx hvy (by simp) (by simp) (by simp) (by simp)
        · cases hl
      · cases hl
    · cases hl
end
end Am
end Go.Proofs.Ytkffgmpbhahioaa
