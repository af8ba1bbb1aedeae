/- THE ABSTRACT MACHINE, part 12: one operation. -/
import Derived.Test.YtkffgmpbhahioaaAmCopy
namespace Go.Proofs.Ytkffgmpbhahioaa
namespace Am

/-- A call returns just v, and the store becomes σ'. (A Go function that is entered, or one that the model answers outright.) -/
def ACallsTo (C : Ctx) (f : FuncId) (args : List AV) (σ : Store) (v : AV) (σ' : Store) : Prop :=
  ∀ (γ : Places) (w : World) (cargs : List Value), Rel C γ σ w → VRt γ w args cargs →
    ((callFunc f cargs.toArray).run C.P w = .ok (.enter f cargs.toArray) w ∧
      Calls C.P f cargs.toArray w fun e w' => ∃ cv γ', e = .returned cv ∧ Step γ w γ' w' ∧ Rel C γ' σ' w' ∧ VR γ' w' v cv) ∨
    ∃ cv γ' w', (callFunc f cargs.toArray).run C.P w = .ok (.value cv) w' ∧ Step γ w γ' w' ∧ Rel C γ' σ' w' ∧ VR γ' w' v cv

/-- A call returns some v, and the store becomes some σ', of which P holds. -/
def ACallsP (C : Ctx) (f : FuncId) (args : List AV) (σ : Store) (P : AV → Store → Prop) : Prop :=
  ∀ (γ : Places) (w : World) (cargs : List Value), Rel C γ σ w → VRt γ w args cargs →
    ((callFunc f cargs.toArray).run C.P w = .ok (.enter f cargs.toArray) w ∧
      Calls C.P f cargs.toArray w fun e w' => ∃ cv v γ' σ', e = .returned cv ∧ P v σ' ∧ Step γ w γ' w' ∧ Rel C γ' σ' w' ∧ VR γ' w' v cv) ∨
    ∃ cv v γ' σ' w', (callFunc f cargs.toArray).run C.P w = .ok (.value cv) w' ∧ P v σ' ∧ Step γ w γ' w' ∧ Rel C γ' σ' w' ∧ VR γ' w' v cv
theorem ACallsTo.toP {C : Ctx} {f : FuncId} {args : List AV} {σ σ' : Store} {v : AV} {P : AV → Store → Prop} (h : ACallsTo C f args σ v σ') (hp : P v σ') : ACallsP C f args σ P := by
  intro γ w cargs hR ha
  rcases h γ w cargs hR ha with ⟨h1, h2⟩ | ⟨cv, γ', w', h1, h2, h3, h4⟩
  · refine .inl ⟨h1, h2.mono ?_⟩
    rintro e w' ⟨cv, γ', rfl, k1, k2, k3⟩
    exact ⟨cv, v, γ', σ', rfl, hp, k1, k2, k3⟩
  · exact .inr ⟨cv, v, γ', σ', w', h1, hp, h2, h3, h4⟩

def aBuiltin (C : Ctx) (σ : Store) (b : Builtin) (ats : List TypeId) (args : List AV) : Option (AV × Store) :=
  match b, ats, args with
  | .len, [t], [x] => (aLen C t x).map fun v => (v, σ)
  | .append, [t, t'], [s, x] => aAppend C σ t t' s x
  | .copy, [t, _], [d, s] => aCopy C σ t d s
  | .clear, [t], [x] => aClear C σ t x
  | .min, _, [x, y] => (aMin false x y).map fun v => (v, σ)
  | .max, _, [x, y] => (aMin true x y).map fun v => (v, σ)
  | _, _, _ => none

def evalOp (C : Ctx) (e : Operand → AV) (σ : Store) : Op → Option (AV × Store)
  | .move x => some (e x, σ)
  | .assign x => some (e x, σ)
  | .pick c a b => match e c with | .bool t => some (if t then e a else e b, σ) | _ => none
  | .alloc t => aAlloc C σ t
  | .box _ x => aBox σ (e x)
  | .build t ps => (aBuild C t (ps.toList.map fun p => (p.1, e p.2))).map fun v => (v, σ)
  | .buildSlice t n ps => (aBuildSl C t n (ps.toList.map fun p => (p.1, e p.2))).map fun v => (v, σ)
  | .load t x => (aLoad C σ t (e x)).map fun v => (v, σ)
  | .store t a x => (aStore C σ t (e a) (e x)).map fun σ' => (.undef, σ')
  | .nilCheck x => match e x with
    | .ptr r i off => some (.ptr r i off, σ)
    | .vp cs => some (.vp cs, σ)
    | .fn f caps => some (.fn f caps, σ)
    | _ => none
  | .binOp op t x y _ => (aBin C op t (e x) (e y)).map fun v => (v, σ)
  | .unOp op _ x => (aUn op (e x)).map fun v => (v, σ)
  | .convert s d x => aConv C σ s d (e x)
  | .makeFunc (.func f) first captured => if first.size = 0 then some (.fn f (captured.toList.map e), σ) else none
  | .makeSlice t l c => aMake C σ t (e l) (e c)
  | .slice t x lo hi mx => (aSlice C σ t (e x) (lo.map e) (hi.map e) (mx.map e)).map fun v => (v, σ)
  | .fieldAddr s x f => (aFieldAddr C s f (e x)).map fun v => (v, σ)
  | .field s x f => (aField C s f (e x)).map fun v => (v, σ)
  | .indexAddr t x i => (aIndexAddr C t (e x) (e i)).map fun v => (v, σ)
  | .index t x i => (aIndex C t (e x) (e i)).map fun v => (v, σ)
  | .extract x i => match e x with | .tup vs => (vs[i]?).map fun v => (v, σ) | _ => none
  | .call c => match c.callee with | .builtin b => aBuiltin C σ b c.argTypes.toList (c.args.toList.map e) | _ => none
  | _ => none

/-- The call of a Go function value: what is called, with what. -/
def callOf : Op → Option (Operand × Array Operand)
  | .call c => match c.callee with | .value f => some (f, c.args) | _ => none
  | _ => none

/-- A call of a Go function whose outcome is told by a property. -/
def OpP (C : Ctx) (e : Operand → AV) (σ : Store) (op : Op) (P : AV → Store → Prop) : Prop :=
  ∃ fa, callOf op = some fa ∧ ∃ fid caps, e fa.1 = .fn fid caps ∧ ACallsP C fid (fa.2.toList.map e ++ caps) σ P
def OpTo (C : Ctx) (e : Operand → AV) (σ : Store) (op : Op) (v : AV) (σ' : Store) : Prop :=
  match callOf op with
  | some fa => ∃ fid caps, e fa.1 = .fn fid caps ∧ ACallsTo C fid (fa.2.toList.map e ++ caps) σ v σ'
  | none => evalOp C e σ op = some (v, σ')

section
variable {C : Ctx} {γ : Places} {σ σ' : Store} {w : World}

theorem VRt_map {ρ : Operand → AV} {a : Operand → Value} (h : ∀ x, VR γ w (ρ x) (a x)) : ∀ l : List Operand, VRt γ w (l.map ρ) (l.map a)
  | [] => VRt.nil
  | x :: l => VRt.cons (h x) (VRt_map h l)
theorem VPs_map {ρ : Operand → AV} {a : Operand → Value} (h : ∀ x, VR γ w (ρ x) (a x)) : ∀ l : List (Nat × Operand), VPs γ w (l.map fun p => (p.1, ρ p.2)) (l.map fun p => (p.1, a p.2))
  | [] => by simp [VPs]
  | p :: l => by simp only [List.map_cons, VPs]; exact ⟨_, _, rfl, rfl, h p.2, VPs_map h l⟩
theorem OV_map {ρ : Operand → AV} {a : Operand → Value} (h : ∀ x, VR γ w (ρ x) (a x)) (x : Option Operand) : OV γ w (x.map ρ) (x.map a) := by
  cases x <;> simp [OV, h]

theorem min_ok {mx : Bool} {x y v : AV} {vx vy : Value} (hx : VR γ w x vx) (hy : VR γ w y vy) (h : aMin mx x y = some v) :
    ∃ cv, (if mx then Builtin.max_ #[] 0 #[vx, vy] else Builtin.min_ #[] 0 #[vx, vy]).run C.P w = .ok cv w ∧ VR γ w v cv := by
  unfold aMin at h
  split at h
  · split at h
    · simp only [Option.some.injEq] at h; subst h
      simp only [VR] at hx hy; subst hx; subst hy
      cases mx
      · exact ⟨_, by simp only [Bool.false_eq_true, if_false]; rfl, VR.int⟩
      · exact ⟨_, by simp only [if_true]; rfl, VR.int⟩
    · cases h
  · cases h

theorem builtin_ok (hR : Rel C γ σ w) {b : Builtin} {ats : Array TypeId} {ty : TypeId} {cs : Array Bool} {args : List AV} {cargs : List Value} {v : AV} (ha : VRt γ w args cargs) (h : aBuiltin C σ b ats.toList args = some (v, σ')) :
    ∃ cv γ' w', (builtin b ats ty cs cargs.toArray).run C.P w = .ok (.value cv) w' ∧ Step γ w γ' w' ∧ Rel C γ' σ' w' ∧ VR γ' w' v cv := by
  obtain ⟨ats⟩ := ats
  simp only at h
  have lift : ∀ {s : Sem Value} {v : AV} {σ' : Store}, Out C γ w (s.run C.P w) v σ' → ∃ cv γ' w', ((do pure (.value (← s)) : Sem Next)).run C.P w = .ok (.value cv) w' ∧ Step γ w γ' w' ∧ Rel C γ' σ' w' ∧ VR γ' w' v cv := by
    rintro s v σ' ⟨cv, γ', w', h1, h2, h3, h4⟩
    exact ⟨cv, γ', w', by simp only [Sem.run_bind, h1, Result.andThen_ok, Sem.run_pure], h2, h3, h4⟩
  have two : ∀ {x y : AV}, args = [x, y] → ∃ vx vy, cargs = [vx, vy] ∧ VR γ w x vx ∧ VR γ w y vy := by
    rintro x y rfl
    simp only [VRt] at ha
    obtain ⟨vx, _, rfl, h1, vy, _, rfl, h2, rfl⟩ := ha
    exact ⟨vx, vy, rfl, h1, h2⟩
  have one : ∀ {x : AV}, args = [x] → ∃ vx, cargs = [vx] ∧ VR γ w x vx := by
    rintro x rfl
    simp only [VRt] at ha
    obtain ⟨vx, _, rfl, h1, rfl⟩ := ha
    exact ⟨vx, rfl, h1⟩
  unfold aBuiltin at h
  split at h
  · simp only [Option.map_eq_some_iff, Prod.mk.injEq] at h
    obtain ⟨v', h1, rfl, rfl⟩ := h
    obtain ⟨vx, rfl, hx⟩ := one rfl
    obtain ⟨cv, h2, h3⟩ := len_ok (C := C) (ty := ty) hx h1
    exact lift (Out.same hR h2 h3)
  · obtain ⟨vx, vy, rfl, hx, hy⟩ := two rfl
    exact lift (append_ok hR (ty := ty) hx hy h)
  · obtain ⟨vx, vy, rfl, hx, hy⟩ := two rfl
    exact lift (copy_ok hR (ty := ty) hx hy h)
  · obtain ⟨vx, rfl, hx⟩ := one rfl
    exact lift (clear_ok hR (ty := ty) hx h)
  · simp only [Option.map_eq_some_iff, Prod.mk.injEq] at h
    obtain ⟨v', h1, rfl, rfl⟩ := h
    obtain ⟨vx, vy, rfl, hx, hy⟩ := two rfl
    obtain ⟨cv, h2, h3⟩ := min_ok (C := C) hx hy h1
    exact lift (Out.same hR h2 h3)
  · simp only [Option.map_eq_some_iff, Prod.mk.injEq] at h
    obtain ⟨v', h1, rfl, rfl⟩ := h
    obtain ⟨vx, vy, rfl, hx, hy⟩ := two rfl
    obtain ⟨cv, h2, h3⟩ := min_ok (C := C) hx hy h1
    exact lift (Out.same hR h2 h3)
  · cases h

/-- An operation, as the model runs it. -/
theorem op_ok (hR : Rel C γ σ w) {ρ : Env} {a : Act} (hE : EnvR γ w ρ a.tmps) {o : Oper} {v : AV} (h : OpTo C (ev C ρ) σ o.op v σ') {K : Act → World → Prop} {Q : Exit → Act → World → Prop}
    (hK : ∀ cv γ' w', Step γ w γ' w' → Rel C γ' σ' w' → VR γ' w' v cv → K (a.put o.dst cv) w') : o.wp C.P a w K Q := by
  have hv := fun x => ev_ok hR hE x
  obtain ⟨dst, op, ty, pos, after, guard⟩ := o
  simp only at h hK
  -- an operation that yields a value
  have val : ∀ {s : Sem Value}, execOp a.eval ⟨dst, op, ty, pos, after, guard⟩ = (do pure (.value (← s)) : Sem Next) → Out C γ w (s.run C.P w) v σ' → Oper.wp C.P ⟨dst, op, ty, pos, after, guard⟩ a w K Q := by
    rintro s he ⟨cv, γ', w', h1, h2, h3, h4⟩
    unfold Oper.wp
    rw [he]
    simp only [Sem.run_bind, h1, Result.andThen_ok, Sem.run_pure, Oper.upon_value]
    exact hK cv γ' w' h2 h3 h4
  have valS : ∀ {s : Sem Value} {r : Option AV}, execOp a.eval ⟨dst, op, ty, pos, after, guard⟩ = (do pure (.value (← s)) : Sem Next) → r.map (fun v => (v, σ)) = some (v, σ') → (r = some v → ∃ cv, s.run C.P w = .ok cv w ∧ VR γ w v cv) →
      Oper.wp C.P ⟨dst, op, ty, pos, after, guard⟩ a w K Q := by
    intro s r he hr hs
    simp only [Option.map_eq_some_iff, Prod.mk.injEq] at hr
    obtain ⟨v', h1, rfl, rfl⟩ := hr
    obtain ⟨cv, h2, h3⟩ := hs h1
    exact val he (Out.same hR h2 h3)
  unfold OpTo at h
  split at h
  · -- the call of a function
    rename_i fa hfa
    obtain ⟨f, args⟩ := fa
    cases op <;> simp only [callOf, reduceCtorEq] at hfa
    rename_i c
    obtain ⟨callee, cargs, ats⟩ := c
    cases callee <;> simp only [reduceCtorEq, Option.some.injEq, Prod.mk.injEq] at hfa
    obtain ⟨rfl, rfl⟩ := hfa
    obtain ⟨fid, caps, hf, hcall⟩ := h
    rename_i fop
    have hfv := hv fop
    simp only at hf
    rw [hf] at hfv
    simp only [VR] at hfv
    obtain ⟨cvs, hfe, hcv⟩ := hfv
    have hargs : VRt γ w (cargs.toList.map (ev C ρ) ++ caps) ((cargs.map a.eval).toList ++ cvs) := by
      rw [Array.toList_map]
      exact (VRt_map hv cargs.toList).append hcv
    have hex : execOp a.eval ⟨dst, .call ⟨.value fop, cargs, ats⟩, ty, pos, after, guard⟩ = callFunc fid (((cargs.map a.eval).toList ++ cvs).toArray) := by
      simp only [execOp, resolve, hfe, Deferred.ofValue, pure_bind, invoke]
      congr 1
      apply Array.ext'
      simp
    unfold Oper.wp
    rw [hex]
    rcases hcall γ w _ hR hargs with ⟨h1, h2⟩ | ⟨cv, γ', w', h1, h2, h3, h4⟩
    · rw [h1, Oper.upon_enter]
      refine h2.mono fun e w' he => ?_
      obtain ⟨cv, γ', rfl, k1, k2, k3⟩ := he
      exact hK cv γ' w' k1 k2 k3
    · rw [h1, Oper.upon_value]
      exact hK cv γ' w' h2 h3 h4
  · rename_i hno
    clear hno
    cases op <;> simp only [evalOp, reduceCtorEq] at h
    case move x =>
      simp only [Option.some.injEq, Prod.mk.injEq] at h
      obtain ⟨rfl, rfl⟩ := h
      exact val (s := pure (a.eval x)) rfl (Out.same hR rfl (hv x))
    case assign x =>
      simp only [Option.some.injEq, Prod.mk.injEq] at h
      obtain ⟨rfl, rfl⟩ := h
      exact val (s := pure (a.eval x)) rfl (Out.same hR rfl (hv x))
    case pick c x y =>
      split at h
      · rename_i t ht
        simp only [Option.some.injEq, Prod.mk.injEq] at h
        obtain ⟨rfl, rfl⟩ := h
        have hc := hv c
        rw [ht] at hc
        simp only [VR] at hc
        refine val (s := pure (if t then a.eval x else a.eval y)) (by simp only [execOp, hc, asBool, pure_bind]) (Out.same hR rfl ?_)
        cases t
        · exact hv y
        · exact hv x
      · cases h
    case alloc t => exact val rfl (alloc_ok hR h)
    case box t x => exact val rfl (box_ok hR (hv x) h)
    case build t ps => exact valS rfl h fun h1 => build_ok (C := C) (by rw [Array.toList_map]; exact VPs_map hv ps.toList) h1
    case buildSlice t n ps =>
      simp only [Option.map_eq_some_iff, Prod.mk.injEq] at h
      obtain ⟨v', h1, rfl, rfl⟩ := h
      exact val rfl (buildSl_ok hR (by rw [Array.toList_map]; exact VPs_map hv ps.toList) h1)
    case load t x => exact valS rfl h fun h1 => load_ok hR (hv x) h1
    case store t p x =>
      simp only [Option.map_eq_some_iff, Prod.mk.injEq] at h
      obtain ⟨σ1, h1, rfl, rfl⟩ := h
      obtain ⟨w', h2, h3, h4⟩ := store_ok hR (hv p) (hv x) h1
      unfold Oper.wp
      have : (execOp a.eval ⟨dst, .store t p x, ty, pos, after, guard⟩).run C.P w = .ok .skip w' := by
        simp only [execOp, Sem.run_bind, h2, Result.andThen_ok, Sem.run_pure]
      rw [this, Oper.upon_skip]
      exact hK undef γ w' h3 h4 (by simp only [VR])
    case nilCheck x =>
      have hx := hv x
      split at h
      · rename_i r i off hq
        simp only [Option.some.injEq, Prod.mk.injEq] at h
        obtain ⟨rfl, rfl⟩ := h
        rw [hq] at hx
        have hx' := hx
        simp only [VR] at hx
        obtain ⟨fl, pl, hpl, he⟩ := hx
        rw [he] at hx'
        exact val (s := pure (.pointer (some ⟨pl.b, pl.base + i * pl.esz + off, none⟩))) (by simp only [execOp, he]; rfl) (Out.same hR rfl hx')
      · rename_i cs hq
        simp only [Option.some.injEq, Prod.mk.injEq] at h
        obtain ⟨rfl, rfl⟩ := h
        rw [hq] at hx
        have hx' := hx
        simp only [VR] at hx
        obtain ⟨b, p, vals, he, _⟩ := hx
        rw [he] at hx'
        exact val (s := pure (.pointer (some ⟨b, p, none⟩))) (by simp only [execOp, he]; rfl) (Out.same hR rfl hx')
      · rename_i f caps hq
        simp only [Option.some.injEq, Prod.mk.injEq] at h
        obtain ⟨rfl, rfl⟩ := h
        rw [hq] at hx
        have hx' := hx
        simp only [VR] at hx
        obtain ⟨vs, he, _⟩ := hx
        rw [he] at hx'
        exact val (s := pure (.func (.func f) #[] (List.toArray vs))) (by simp only [execOp, he]; rfl) (Out.same hR rfl hx')
      · cases h
    case binOp bop t x y yt => exact valS rfl h fun h1 => bin_ok (hv x) (hv y) h1
    case unOp uop t x => exact valS rfl h fun h1 => un_ok (hv x) h1
    case convert s d x => exact val rfl (conv_ok hR (hv x) h)
    case makeFunc fn first captured =>
      cases fn <;> simp only [reduceCtorEq] at h
      split at h
      · rename_i hz
        simp only [Option.some.injEq, Prod.mk.injEq] at h
        obtain ⟨rfl, rfl⟩ := h
        have hf0 : first = #[] := Array.eq_empty_of_size_eq_zero hz
        subst hf0
        refine val (s := pure _) rfl (Out.same hR rfl ?_)
        simp only [VR]
        have e1 : (captured.toList.map a.eval).toArray = captured.map a.eval := by
          apply Array.ext'
          simp
        exact ⟨captured.toList.map a.eval, by rw [e1, Array.map_empty], VRt_map hv _⟩
      · cases h
    case makeSlice t l c => exact val rfl (make_ok hR (hv l) (hv c) h)
    case slice t x lo hi mx => exact valS rfl h fun h1 => slice_ok hR (hv x) (OV_map hv lo) (OV_map hv hi) (OV_map hv mx) h1
    case fieldAddr s x f => exact valS rfl h fun h1 => fieldAddr_ok (hv x) h1
    case field s x f => exact valS rfl h fun h1 => field_ok (hv x) h1
    case indexAddr t x i => exact valS rfl h fun h1 => indexAddr_ok (hv x) (hv i) h1
    case index t x i => exact valS rfl h fun h1 => index_ok (hv x) (hv i) h1
    case extract x i =>
      split at h
      · rename_i vs hq
        simp only [Option.map_eq_some_iff, Prod.mk.injEq] at h
        obtain ⟨v', h1, rfl, rfl⟩ := h
        have hx := hv x
        rw [hq] at hx
        simp only [VR] at hx
        obtain ⟨us, he, hu⟩ := hx
        obtain ⟨u, h2, h3⟩ := hu.get h1
        refine val (s := pure u) ?_ (Out.same hR rfl h3)
        have h4 : us.toArray[i]? = some u := by simpa using h2
        simp only [execOp, he, Instr.extract, h4]
      · cases h
    case call c =>
      obtain ⟨callee, cargs, ats⟩ := c
      cases callee <;> simp only [reduceCtorEq] at h
      rename_i b
      obtain ⟨cv, γ', w', h1, h2, h3, h4⟩ := builtin_ok hR (ty := ty) (cs := cargs.map fun | .const _ => true | _ => false) (VRt_map hv cargs.toList) h
      have hex : execOp a.eval ⟨dst, .call ⟨.builtin b, cargs, ats⟩, ty, pos, after, guard⟩ = builtin b ats ty (cargs.map fun | .const _ => true | _ => false) (cargs.toList.map a.eval).toArray := by
        have : (cargs.toList.map a.eval).toArray = cargs.map a.eval := by apply Array.ext'; simp
        rw [this]; rfl
      unfold Oper.wp
      rw [hex, h1, Oper.upon_value]
      exact hK cv γ' w' h2 h3 h4

theorem opP_ok (hR : Rel C γ σ w) {ρ : Env} {a : Act} (hE : EnvR γ w ρ a.tmps) {o : Oper} {P : AV → Store → Prop} (h : OpP C (ev C ρ) σ o.op P) {K : Act → World → Prop} {Q : Exit → Act → World → Prop}
    (hK : ∀ v σ' cv γ' w', P v σ' → Step γ w γ' w' → Rel C γ' σ' w' → VR γ' w' v cv → K (a.put o.dst cv) w') : o.wp C.P a w K Q := by
  have hv := fun x => ev_ok hR hE x
  obtain ⟨dst, op, ty, pos, after, guard⟩ := o
  simp only at h hK
  obtain ⟨⟨f, args⟩, hfa, fid, caps, hf, hcall⟩ := h
  cases op <;> simp only [callOf, reduceCtorEq] at hfa
  rename_i c
  obtain ⟨callee, cargs, ats⟩ := c
  cases callee <;> simp only [reduceCtorEq, Option.some.injEq, Prod.mk.injEq] at hfa
  obtain ⟨rfl, rfl⟩ := hfa
  rename_i fop
  have hfv := hv fop
  simp only at hf
  rw [hf] at hfv
  simp only [VR] at hfv
  obtain ⟨cvs, hfe, hcv⟩ := hfv
  have hargs : VRt γ w (cargs.toList.map (ev C ρ) ++ caps) ((cargs.map a.eval).toList ++ cvs) := by
    rw [Array.toList_map]
    exact (VRt_map hv cargs.toList).append hcv
  have hex : execOp a.eval ⟨dst, .call ⟨.value fop, cargs, ats⟩, ty, pos, after, guard⟩ = callFunc fid (((cargs.map a.eval).toList ++ cvs).toArray) := by
    simp only [execOp, resolve, hfe, Deferred.ofValue, pure_bind, invoke]
    congr 1
    apply Array.ext'
    simp
  unfold Oper.wp
  rw [hex]
  rcases hcall γ w _ hR hargs with ⟨h1, h2⟩ | ⟨cv, v, γ', σ', w', h1, hp, h2, h3, h4⟩
  · rw [h1, Oper.upon_enter]
    refine h2.mono fun e w' he => ?_
    obtain ⟨cv, v, γ', σ', rfl, hp, k1, k2, k3⟩ := he
    exact hK v σ' cv γ' w' hp k1 k2 k3
  · rw [h1, Oper.upon_value]
    exact hK v σ' cv γ' w' hp h2 h3 h4
end
end Am
end Go.Proofs.Ytkffgmpbhahioaa
