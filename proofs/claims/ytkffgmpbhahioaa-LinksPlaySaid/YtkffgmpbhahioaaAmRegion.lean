/- THE ABSTRACT MACHINE, part 13: regions, in whatever order. -/
import Derived.Test.YtkffgmpbhahioaaAmOp
set_option linter.unusedSimpArgs false
namespace Go.Proofs.Ytkffgmpbhahioaa
namespace Am

/-! What an operation leans on. -/
theorem evalOp_congr (C : Ctx) {e e' : Operand → AV} (σ : Store) (op : Op) (h : ∀ x ∈ op.operands, e x = e' x) : evalOp C e σ op = evalOp C e' σ op := by
  have pairs : ∀ ps : Array (Nat × Operand), (∀ x ∈ ps.map (·.2), e x = e' x) → (ps.toList.map fun p => (p.1, e p.2)) = (ps.toList.map fun p => (p.1, e' p.2)) := fun ps hp =>
    List.map_congr_left fun p hm => by
      rw [hp p.2 (Array.mem_map.2 ⟨p, by simpa using hm, rfl⟩)]
  cases op <;> simp only [Op.operands] at h <;> simp only [evalOp]
  case build t ps => rw [pairs ps fun x hx => h x (by simpa using hx)]
  case buildSlice t n ps => rw [pairs ps fun x hx => h x (by simpa using hx)]
  case makeFunc fn first captured =>
    cases fn <;> simp only [reduceCtorEq]
    rw [List.map_congr_left (l := captured.toList) fun x hx => h x (by simp at hx; simp [hx])]
  case call c =>
    obtain ⟨callee, args, ats⟩ := c
    cases callee <;> simp only []
    rw [List.map_congr_left (l := args.toList) fun x hx => h x (by simp at hx; simp [Call.operands, hx])]
  case slice t x lo hi mx => cases lo <;> cases hi <;> cases mx <;> simp_all
  all_goals (first | rfl | (simp_all; done))

theorem callOf_operands {op : Op} {f : Operand} {args : Array Operand} (h : callOf op = some (f, args)) : f ∈ op.operands ∧ ∀ x ∈ args, x ∈ op.operands := by
  cases op <;> simp only [callOf, reduceCtorEq] at h
  rename_i c
  obtain ⟨callee, cargs, ats⟩ := c
  cases callee <;> simp only [reduceCtorEq, Option.some.injEq, Prod.mk.injEq] at h
  obtain ⟨rfl, rfl⟩ := h
  simp [Op.operands, Call.operands]
  intro x hx
  exact .inr hx

theorem OpTo_congr {C : Ctx} {e e' : Operand → AV} {σ σ' : Store} {op : Op} {v : AV} (h : ∀ x ∈ op.operands, e x = e' x) (ho : OpTo C e σ op v σ') : OpTo C e' σ op v σ' := by
  unfold OpTo at ho ⊢
  cases hc : callOf op with
  | none =>
    rw [hc] at ho
    simp only at ho ⊢
    rw [← evalOp_congr C σ op h]; exact ho
  | some fa =>
    obtain ⟨f, args⟩ := fa
    rw [hc] at ho
    simp only at ho ⊢
    obtain ⟨h1, h2⟩ := callOf_operands hc
    obtain ⟨fid, caps, h3, h4⟩ := ho
    refine ⟨fid, caps, by rw [← h f h1]; exact h3, ?_⟩
    rw [← List.map_congr_left (l := args.toList) fun x hx => h x (h2 x (by simpa using hx))]
    exact h4

theorem OpP_congr {C : Ctx} {e e' : Operand → AV} {σ : Store} {op : Op} {P : AV → Store → Prop} (h : ∀ x ∈ op.operands, e x = e' x) (ho : OpP C e σ op P) : OpP C e' σ op P := by
  obtain ⟨⟨f, args⟩, hc, fid, caps, h3, h4⟩ := ho
  obtain ⟨h1, h2⟩ := callOf_operands hc
  refine ⟨(f, args), hc, fid, caps, by rw [← h f h1]; exact h3, ?_⟩
  rw [← List.map_congr_left (l := args.toList) fun x hx => h x (h2 x (by simpa using hx))]
  exact h4

/-- Operations that neither look at the store nor turn it. -/
def opN (C : Ctx) : Op → Bool
  | .move _ | .assign _ | .pick _ _ _ | .build _ _ | .buildSlice _ _ _ | .nilCheck _ | .binOp _ _ _ _ _ | .unOp _ _ _ | .makeFunc _ _ _ | .fieldAddr _ _ _ | .field _ _ _ | .indexAddr _ _ _ | .index _ _ _ | .extract _ _ => true
  | .call c => match c.callee with | .builtin .len => true | .builtin .min => true | .builtin .max => true | _ => false
  | .convert s d _ => (tyInt C s).isSome && (tyInt C d).isSome
  | _ => false
theorem opN_spec {C : Ctx} {e : Operand → AV} {σ σ' : Store} {op : Op} {v : AV} (hn : opN C op = true) (h : OpTo C e σ op v σ') : σ' = σ ∧ ∀ σ2, OpTo C e σ2 op v σ2 := by
  have key : callOf op = none := by
    cases op <;> simp only [opN, Bool.false_eq_true] at hn <;> simp only [callOf]
    rename_i c
    obtain ⟨callee, cargs, ats⟩ := c
    cases callee <;> simp_all
  unfold OpTo at h ⊢
  rw [key] at h ⊢
  simp only at h ⊢
  have mp : ∀ {r : Option AV} {σ σ' : Store} {v : AV}, r.map (fun v => (v, σ)) = some (v, σ') → σ' = σ ∧ ∀ σ2 : Store, r.map (fun v => (v, σ2)) = some (v, σ2) := by
    intro r σ σ' v h
    simp only [Option.map_eq_some_iff, Prod.mk.injEq] at h
    obtain ⟨v', rfl, rfl, rfl⟩ := h
    exact ⟨rfl, fun _ => rfl⟩
  cases op <;> simp only [opN, Bool.false_eq_true] at hn <;> simp only [evalOp] at h ⊢
  case move x => simp only [Option.some.injEq, Prod.mk.injEq] at h ⊢; exact ⟨h.2.symm, fun _ => ⟨h.1, trivial⟩⟩
  case assign x => simp only [Option.some.injEq, Prod.mk.injEq] at h ⊢; exact ⟨h.2.symm, fun _ => ⟨h.1, trivial⟩⟩
  case pick c x y => split at h
                     · simp only [Option.some.injEq, Prod.mk.injEq] at h ⊢; exact ⟨h.2.symm, fun _ => ⟨h.1, trivial⟩⟩
                     · cases h
  case nilCheck x => split at h
                     · simp only [Option.some.injEq, Prod.mk.injEq] at h ⊢; exact ⟨h.2.symm, fun _ => ⟨h.1, trivial⟩⟩
                     · simp only [Option.some.injEq, Prod.mk.injEq] at h ⊢; exact ⟨h.2.symm, fun _ => ⟨h.1, trivial⟩⟩
                     · simp only [Option.some.injEq, Prod.mk.injEq] at h ⊢; exact ⟨h.2.symm, fun _ => ⟨h.1, trivial⟩⟩
                     · cases h
  case makeFunc fn first captured =>
    cases fn <;> simp only [reduceCtorEq] at h ⊢
    split at h
    · rename_i hz
      simp only [hz, if_true, Option.some.injEq, Prod.mk.injEq] at h ⊢; exact ⟨h.2.symm, fun _ => ⟨h.1, trivial⟩⟩
    · cases h
  case extract x i => split at h
                      · exact mp h
                      · cases h
  case call c =>
    obtain ⟨callee, cargs, ats⟩ := c
    cases callee <;> simp only [Bool.false_eq_true, reduceCtorEq] at hn h ⊢
    rename_i b
    unfold aBuiltin at h ⊢
    split at h <;> simp only [Bool.false_eq_true, reduceCtorEq] at hn h ⊢
    · exact mp h
    · exact mp h
    · exact mp h
  case convert s d x =>
    simp only [Bool.and_eq_true] at hn
    obtain ⟨ks, hks⟩ := Option.isSome_iff_exists.1 hn.1
    obtain ⟨kd, hkd⟩ := Option.isSome_iff_exists.1 hn.2
    unfold aConv at h ⊢
    simp only [hks, hkd] at h ⊢
    have nostr : ¬ tyStr C d = true := by
      intro hh
      have := tyStr_u hh
      rw [tyInt_u hkd] at this; cases this
    have nou8 : ¬ tyU8Sl C d = true := by
      intro hh
      obtain ⟨_, this, _⟩ := tyU8Sl_u hh
      rw [tyInt_u hkd] at this; cases this
    split at h
    · simp only [Option.bind_some, Option.map_some, Option.some.injEq, Prod.mk.injEq] at h ⊢; exact ⟨h.2.symm, fun _ => ⟨h.1, trivial⟩⟩
    · simp [nostr, nou8] at h
    · simp [nostr] at h
  all_goals exact mp h

/-! Guards. -/
def wantedA (ops : Array Oper) (ρ : Env) (o : Oper) : Option Bool :=
  match o.guard with
  | none => some true
  | some g => match (ops[g.1]?).bind (·.dst) with
    | some d => (match ρ d with | .bool b => some (b == g.2) | .undef => some false | _ => none)
    | none => some false
theorem wanted_ok {γ : Places} {w : World} {ρ : Env} {a : Act} {ops : Array Oper} {o : Oper} {b : Bool} (hE : EnvR γ w ρ a.tmps) (h : wantedA ops ρ o = some b) : Region.wanted o (yielded ops a.tmps) = b := by
  unfold wantedA at h
  unfold Region.wanted
  cases hg : o.guard with
  | none => rw [hg] at h; simp only [Option.some.injEq] at h; simpa using h
  | some g =>
    obtain ⟨j, want⟩ := g
    rw [hg] at h
    simp only at h ⊢
    unfold yielded
    cases hd : (ops[j]?).bind (·.dst) with
    | none => rw [hd] at h; simp only [Option.some.injEq] at h; subst h; simp
    | some d =>
      rw [hd] at h
      simp only at h
      have hr := hE d
      simp only [Option.bind_some]
      split at h
      · rename_i b' hb
        rw [hb] at hr
        simp only [VR] at hr
        simp only [Option.some.injEq] at h; subst h
        have : a.tmps[d]? = some (.bool b') := by
          rw [Array.getD_eq_getD_getElem?] at hr
          cases hq : a.tmps[d]? with
          | none => rw [hq] at hr; simp [undef] at hr
          | some v => rw [hq] at hr; simp at hr; rw [hr]
        rw [this]
        cases b' <;> cases want <;> rfl
      · rename_i hb
        rw [hb] at hr
        simp only [VR] at hr
        simp only [Option.some.injEq] at h; subst h
        rw [Array.getD_eq_getD_getElem?] at hr
        cases hq : a.tmps[d]? with
        | none => simp
        | some v => rw [hq] at hr; simp at hr; subst hr; simp [undef]
      · cases h

/-- Operations that read the store and leave it. -/
def opR : Op → Bool
  | .load _ _ | .slice _ _ _ _ _ => true
  | _ => false
theorem opR_none {op : Op} (hn : opR op = true) : callOf op = none := by
  cases op <;> simp only [opR, Bool.false_eq_true] at hn <;> rfl
theorem opR_spec {C : Ctx} {e : Operand → AV} {σ σ' : Store} {op : Op} {v : AV} (hn : opR op = true) (h : OpTo C e σ op v σ') : σ' = σ := by
  have hc := opR_none hn
  unfold OpTo at h
  rw [hc] at h
  simp only at h
  cases op <;> simp only [opR, Bool.false_eq_true] at hn <;> simp only [evalOp, Option.map_eq_some_iff, Prod.mk.injEq] at h <;> obtain ⟨_, _, _, rfl⟩ := h <;> rfl
theorem opR_fun {C : Ctx} {e : Operand → AV} {σ s1 s2 : Store} {op : Op} {v1 v2 : AV} (hn : opR op = true) (h1 : OpTo C e σ op v1 s1) (h2 : OpTo C e σ op v2 s2) : v1 = v2 := by
  have hc := opR_none hn
  unfold OpTo at h1 h2
  rw [hc] at h1 h2
  simp only at h1 h2
  rw [h1] at h2
  simp only [Option.some.injEq, Prod.mk.injEq] at h2
  exact h2.1
theorem opN_call {C : Ctx} {e : Operand → AV} {σ : Store} {op : Op} {P : AV → Store → Prop} (hn : opN C op = true) (h : OpP C e σ op P) : False := by
  obtain ⟨⟨f, args⟩, hc, _⟩ := h
  cases op <;> simp only [opN, Bool.false_eq_true] at hn <;> simp only [callOf, reduceCtorEq] at hc
  rename_i c
  obtain ⟨callee, cargs, ats⟩ := c
  cases callee <;> simp_all
theorem opR_call {C : Ctx} {e : Operand → AV} {σ : Store} {op : Op} {P : AV → Store → Prop} (hn : opR op = true) (h : OpP C e σ op P) : False := by
  obtain ⟨⟨f, args⟩, hc, _⟩ := h
  cases op <;> simp only [opR, Bool.false_eq_true] at hn <;> simp only [callOf, reduceCtorEq] at hc
theorem opN_fun {C : Ctx} {e : Operand → AV} {σ1 σ2 s1 s2 : Store} {op : Op} {v1 v2 : AV} (hn : opN C op = true) (h1 : OpTo C e σ1 op v1 s1) (h2 : OpTo C e σ2 op v2 s2) : v1 = v2 := by
  obtain ⟨rfl, k1⟩ := opN_spec hn h1
  obtain ⟨rfl, k2⟩ := opN_spec hn h2
  have key : callOf op = none := by
    cases op <;> simp only [opN, Bool.false_eq_true] at hn <;> simp only [callOf]
    rename_i c
    obtain ⟨callee, cargs, ats⟩ := c
    cases callee <;> simp_all
  have q1 := k1 []
  have q2 := k2 []
  unfold OpTo at q1 q2
  rw [key] at q1 q2
  simp only at q1 q2
  rw [q1] at q2
  simp only [Option.some.injEq, Prod.mk.injEq] at q2
  exact q2.1

/-! One operation with its guard. -/
/-- What a region has seen: the stores ahead of its effects; what its reads ask of a store. -/
structure Hist where
  pre : Store → Prop
  rds : Store → Prop
def Hist.none : Hist := ⟨fun _ => False, fun _ => True⟩
/-- What an operation owes those that stand in no order with it: nothing; to leave the store; a reader: to read the same ahead of each effect; an effect: to let each read read the same. -/
inductive Nd where
  | no
  | same
  | rd
  | ef
  deriving DecidableEq, Inhabited
def Nd.ok (n : Nd) (C : Ctx) (e : Operand → AV) (op : Op) (v : AV) (H : Hist) (σ σ' : Store) : Prop := match n with
  | .no => True
  | .same => σ' = σ
  | .rd => σ' = σ ∧ ∀ h, H.pre h → OpTo C e h op v h
  | .ef => H.rds σ'
def Nd.next (n : Nd) (C : Ctx) (e : Operand → AV) (op : Op) (v : AV) (H : Hist) (σ : Store) : Hist := match n with
  | .no => H
  | .same => H
  | .rd => ⟨H.pre, fun s => H.rds s ∧ OpTo C e s op v s⟩
  | .ef => ⟨fun s => H.pre s ∨ s = σ, H.rds⟩
/-- A call told by a property. -/
def callK (C : Ctx) (need : Nd) (o : Oper) (K : Hist → Env → Store → Prop) (H : Hist) (ρ : Env) (σ : Store) : Prop :=
  ∃ P : AV → Store → Prop, OpP C (ev C ρ) σ o.op P ∧ (∃ v σ', P v σ') ∧ ∀ v σ', P v σ' → need.ok C (ev C ρ) o.op v H σ σ' ∧ K (need.next C (ev C ρ) o.op v H σ) (putE ρ o.dst v) σ'
def stepK (C : Ctx) (ops : Array Oper) (need : Nd) (o : Oper) (K : Hist → Env → Store → Prop) (H : Hist) (ρ : Env) (σ : Store) : Prop :=
  match wantedA ops ρ o with
  | some true => (∃ v σ', OpTo C (ev C ρ) σ o.op v σ' ∧ need.ok C (ev C ρ) o.op v H σ σ' ∧ K (need.next C (ev C ρ) o.op v H σ) (putE ρ o.dst v) σ') ∨ ((need = .no ∨ need = .ef) ∧ callK C need o K H ρ σ)
  | some false => K H (putE ρ o.dst .undef) σ
  | none => False

theorem step_ok {C : Ctx} {γ : Places} {σ : Store} {w : World} {ops : Array Oper} {i : Nat} {o : Oper} {need : Nd} {H : Hist} {ρ : Env} {a : Act} {K : Hist → Env → Store → Prop} {KK : Act → World → Prop} {Q : Exit → Act → World → Prop} (hi : ops[i]? = some o)
    (hd : ∀ x, o.dst = some x → x < a.tmps.size) (hR : Rel C γ σ w) (hE : EnvR γ w ρ a.tmps) (h : stepK C ops need o K H ρ σ)
    (hK : ∀ H' ρ' σ' γ' a' w', K H' ρ' σ' → Step γ w γ' w' → Rel C γ' σ' w' → EnvR γ' w' ρ' a'.tmps → a'.defers = a.defers → a'.tmps.size = a.tmps.size → KK a' w') : wpOp C.P ops Q i KK a w := by
  unfold stepK at h
  unfold wpOp
  rw [hi]
  simp only
  have put_size : ∀ (d : Option Nat) (v : Value), (a.put d v).tmps.size = a.tmps.size := by intro d v; cases d <;> simp [Act.put]
  have put_def : ∀ (d : Option Nat) (v : Value), (a.put d v).defers = a.defers := by intro d v; cases d <;> rfl
  split at h
  · rename_i hw
    rw [wanted_ok hE hw, if_pos rfl]
    left
    rcases h with ⟨v, σ', h1, _, h2⟩ | ⟨_, P, h1, _, h2⟩
    · refine op_ok hR hE h1 fun cv γ' w' k1 k2 k3 => ?_
      exact hK _ _ _ γ' _ w' h2 k1 k2 ((hE.mono k1).put hd k3) (put_def _ _) (put_size _ _)
    · refine opP_ok hR hE h1 fun v σ' cv γ' w' hp k1 k2 k3 => ?_
      exact hK _ _ _ γ' _ w' (h2 v σ' hp).2 k1 k2 ((hE.mono k1).put hd k3) (put_def _ _) (put_size _ _)
  · rename_i hw
    rw [wanted_ok hE hw, if_neg (by simp)]
    exact hK _ _ _ γ _ w h (Step.refl _ _) hR (hE.put hd (by simp only [VR])) (put_def _ _) (put_size _ _)
  · exact h.elim

/-! Two operations change places. -/
theorem ev_putE {C : Ctx} {ρ : Env} {d : Option Nat} {v : AV} {x : Operand} (h : ∀ t, d = some t → x ≠ .tmp t) : ev C (putE ρ d v) x = ev C ρ x := by
  cases d with
  | none => rfl
  | some d =>
    cases x with
    | tmp t =>
      have hne : t ≠ d := fun e => h d rfl (by rw [e])
      simp [ev, putE, upd, hne]
    | _ => rfl
theorem operands_looks {ops : Array Oper} {o : Oper} {t : Nat} (h : (Operand.tmp t) ∈ o.op.operands) : t ∈ o.looksAt ops := by
  unfold Oper.looksAt
  exact List.mem_append_left _ (List.mem_filterMap.2 ⟨.tmp t, by simpa using h, rfl⟩)
theorem OpTo_put {C : Ctx} {ρ : Env} {σ σ' : Store} {ops : Array Oper} {o : Oper} {d : Option Nat} {u v : AV} (h : ∀ t, d = some t → t ∉ o.looksAt ops) :
    OpTo C (ev C (putE ρ d u)) σ o.op v σ' ↔ OpTo C (ev C ρ) σ o.op v σ' := by
  have e : ∀ x ∈ o.op.operands, ev C (putE ρ d u) x = ev C ρ x := fun x hx => ev_putE fun t ht hxt => h t ht (operands_looks (by rw [← hxt]; exact hx))
  exact ⟨OpTo_congr e, OpTo_congr fun x hx => (e x hx).symm⟩
theorem OpP_put {C : Ctx} {ρ : Env} {σ : Store} {P : AV → Store → Prop} {ops : Array Oper} {o : Oper} {d : Option Nat} {u : AV} (h : ∀ t, d = some t → t ∉ o.looksAt ops) :
    OpP C (ev C (putE ρ d u)) σ o.op P ↔ OpP C (ev C ρ) σ o.op P := by
  have e : ∀ x ∈ o.op.operands, ev C (putE ρ d u) x = ev C ρ x := fun x hx => ev_putE fun t ht hxt => h t ht (operands_looks (by rw [← hxt]; exact hx))
  exact ⟨OpP_congr e, OpP_congr fun x hx => (e x hx).symm⟩
theorem wantedA_put {ρ : Env} {ops : Array Oper} {o : Oper} {d : Option Nat} {u : AV} (h : ∀ t, d = some t → t ∉ o.looksAt ops) : wantedA ops (putE ρ d u) o = wantedA ops ρ o := by
  cases d with
  | none => rfl
  | some t =>
    unfold wantedA
    cases hg : o.guard with
    | none => rfl
    | some g =>
      simp only
      cases hd : (ops[g.1]?).bind (·.dst) with
      | none => rfl
      | some d' =>
        simp only
        have hne : d' ≠ t := fun e => h t rfl (by
          unfold Oper.looksAt
          refine List.mem_append_right _ ?_
          rw [hg]
          simp only
          rw [hd, e]; simp)
        simp [putE, upd, hne]
theorem putE_comm {ρ : Env} {x y : Option Nat} {u v : AV} (h : ∀ d, x = some d → y ≠ some d) : putE (putE ρ x u) y v = putE (putE ρ y v) x u := by
  cases x with
  | none => rfl
  | some d =>
    cases y with
    | none => rfl
    | some e =>
      have hne : d ≠ e := fun e' => h d rfl (by rw [e'])
      funext t
      simp only [putE, upd]
      by_cases h1 : t = e
      · subst h1
        have : ¬ t = d := fun e' => hne e'.symm
        simp [this]
      · simp [h1]

theorem ok_put {C : Ctx} {ρ : Env} {σ σ' : Store} {ops : Array Oper} {o : Oper} {d : Option Nat} {u v : AV} {n : Nd} {H : Hist} (h : ∀ t, d = some t → t ∉ o.looksAt ops) :
    n.ok C (ev C (putE ρ d u)) o.op v H σ σ' ↔ n.ok C (ev C ρ) o.op v H σ σ' := by
  cases n <;> simp only [Nd.ok]
  exact ⟨fun k => ⟨k.1, fun s hs => (OpTo_put h).1 (k.2 s hs)⟩, fun k => ⟨k.1, fun s hs => (OpTo_put h).2 (k.2 s hs)⟩⟩
theorem next_put {C : Ctx} {ρ : Env} {σ : Store} {ops : Array Oper} {o : Oper} {d : Option Nat} {u v : AV} {n : Nd} {H : Hist} (h : ∀ t, d = some t → t ∉ o.looksAt ops) :
    n.next C (ev C (putE ρ d u)) o.op v H σ = n.next C (ev C ρ) o.op v H σ := by
  cases n <;> simp only [Nd.next]
  congr 1
  funext s
  exact propext ⟨fun k => ⟨k.1, (OpTo_put h).1 k.2⟩, fun k => ⟨k.1, (OpTo_put h).2 k.2⟩⟩
/-- May two change places, by what they do and owe? -/
def mates (C : Ctx) (nx ni : Nd) (x i : Op) : Bool :=
  (opN C x && nx == .no) || (opN C i && ni == .no) || (nx == .same && ni == .same) || (opR x && nx == .rd && ni == .ef) || (opR i && ni == .rd && nx == .ef) || (opR x && opR i && nx == .rd && ni == .rd) || (opR x && nx == .rd && ni == .same) || (opR i && ni == .rd && nx == .same)

theorem stepK_swap {C : Ctx} {ops : Array Oper} {nx ni : Nd} {x i : Oper} {K : Hist → Env → Store → Prop} {H : Hist} {ρ : Env} {σ : Store} (hap : x.apart ops i = true) (hh : mates C nx ni x.op i.op = true)
    (h : stepK C ops nx x (stepK C ops ni i K) H ρ σ) : stepK C ops ni i (stepK C ops nx x K) H ρ σ := by
  obtain ⟨a1, a2, a3⟩ := Oper.apart_spec hap
  have wi : ∀ u, wantedA ops (putE ρ x.dst u) i = wantedA ops ρ i := fun u => wantedA_put a1
  have wx : ∀ u, wantedA ops (putE ρ i.dst u) x = wantedA ops ρ x := fun u => wantedA_put a3
  have pc : ∀ u v, putE (putE ρ x.dst u) i.dst v = putE (putE ρ i.dst v) x.dst u := fun u v => putE_comm a2
  -- the second one behind the first, by cases of its guard
  have inner : ∀ (n : Nd) (o : Oper) (K' : Hist → Env → Store → Prop) (H' : Hist) (ρ' : Env) (σ' : Store), stepK C ops n o K' H' ρ' σ' =
    (match wantedA ops ρ' o with
      | some true => (∃ v s, OpTo C (ev C ρ') σ' o.op v s ∧ n.ok C (ev C ρ') o.op v H' σ' s ∧ K' (n.next C (ev C ρ') o.op v H' σ') (putE ρ' o.dst v) s) ∨ ((n = .no ∨ n = .ef) ∧ callK C n o K' H' ρ' σ')
      | some false => K' H' (putE ρ' o.dst .undef) σ'
      | none => False) := fun _ _ _ _ _ _ => rfl
  cases hwx : wantedA ops ρ x with
  | none => rw [inner, hwx] at h; exact h.elim
  | some bx =>
    cases hwi : wantedA ops ρ i with
    | none =>
      exfalso
      rw [inner, hwx] at h
      cases bx with
      | false => simp only at h; rw [inner, wi, hwi] at h; exact h
      | true =>
        rcases h with ⟨v, s, _, _, h3⟩ | ⟨_, P, _, ⟨v, s, hp⟩, h3⟩
        · rw [inner, wi, hwi] at h3; exact h3
        · have h4 := (h3 v s hp).2
          rw [inner, wi, hwi] at h4; exact h4
    | some bi =>
      cases bx with
      | false =>
        rw [inner, hwx] at h
        simp only at h
        rw [inner, wi, hwi] at h
        rw [inner, hwi]
        cases bi with
        | false => simp only at h ⊢; rw [inner, wx, hwx]; simp only; rw [← pc]; exact h
        | true =>
          simp only at h ⊢
          rcases h with ⟨v, s, h1, h2, h3⟩ | ⟨h0, P, h1, hne, h2⟩
          · refine .inl ⟨v, s, (OpTo_put a1).1 h1, (ok_put a1).1 h2, ?_⟩
            rw [inner, wx, hwx]; simp only; rw [← pc]
            rw [next_put a1] at h3; exact h3
          · refine .inr ⟨h0, P, (OpP_put a1).1 h1, hne, fun v s hp => ⟨(ok_put a1).1 (h2 v s hp).1, ?_⟩⟩
            rw [inner, wx, hwx]; simp only; rw [← pc]
            have h4 := (h2 v s hp).2
            rw [next_put a1] at h4; exact h4
      | true =>
        rw [inner, hwx] at h
        simp only at h
        rw [inner, hwi]
        cases bi with
        | false =>
          simp only
          rw [inner, wx, hwx]; simp only
          rcases h with ⟨v, s, h1, h2, h3⟩ | ⟨h0, P, h1, hne, h3⟩
          · rw [inner, wi, hwi] at h3
            exact .inl ⟨v, s, (OpTo_put a3).2 h1, (ok_put a3).2 h2, by rw [next_put a3, ← pc]; exact h3⟩
          · refine .inr ⟨h0, P, (OpP_put a3).2 h1, hne, fun v s hp => ⟨(ok_put a3).2 (h3 v s hp).1, ?_⟩⟩
            have h4 := (h3 v s hp).2
            rw [inner, wi, hwi] at h4
            rw [next_put a3, ← pc]; exact h4
        | true =>
          simp only
          -- what x gives; what i gives behind it
          have second : ∀ {v : AV} {H' : Hist} {s : Store}, stepK C ops ni i K H' (putE ρ x.dst v) s →
              (∃ v2 s2, OpTo C (ev C ρ) s i.op v2 s2 ∧ ni.ok C (ev C ρ) i.op v2 H' s s2 ∧ K (ni.next C (ev C ρ) i.op v2 H' s) (putE (putE ρ i.dst v2) x.dst v) s2) ∨
              ((ni = .no ∨ ni = .ef) ∧ ∃ P, OpP C (ev C ρ) s i.op P ∧ (∃ v s, P v s) ∧ ∀ v2 s2, P v2 s2 → ni.ok C (ev C ρ) i.op v2 H' s s2 ∧ K (ni.next C (ev C ρ) i.op v2 H' s) (putE (putE ρ i.dst v2) x.dst v) s2) := by
            intro v H' s h4
            rw [inner, wi, hwi] at h4
            rcases h4 with ⟨v2, s2, k1, k2, k3⟩ | ⟨h0, P, k1, k2, k3⟩
            · rw [next_put a1, pc] at k3
              exact .inl ⟨v2, s2, (OpTo_put a1).1 k1, (ok_put a1).1 k2, k3⟩
            · refine .inr ⟨h0, P, (OpP_put a1).1 k1, k2, fun v2 s2 hp => ?_⟩
              have k4 := (k3 v2 s2 hp).2
              rw [next_put a1, pc] at k4
              exact ⟨(ok_put a1).1 (k3 v2 s2 hp).1, k4⟩
          have first : ∀ {v2 : AV} {H' : Hist} {s : Store}, ((∃ v s2, OpTo C (ev C ρ) s x.op v s2 ∧ nx.ok C (ev C ρ) x.op v H' s s2 ∧ K (nx.next C (ev C ρ) x.op v H' s) (putE (putE ρ i.dst v2) x.dst v) s2) ∨
              ((nx = .no ∨ nx = .ef) ∧ ∃ P, OpP C (ev C ρ) s x.op P ∧ (∃ v s, P v s) ∧ ∀ v s2, P v s2 → nx.ok C (ev C ρ) x.op v H' s s2 ∧ K (nx.next C (ev C ρ) x.op v H' s) (putE (putE ρ i.dst v2) x.dst v) s2)) →
              stepK C ops nx x K H' (putE ρ i.dst v2) s := by
            intro v2 H' s h4
            rw [inner, wx, hwx]
            rcases h4 with ⟨v, s2, k1, k2, k3⟩ | ⟨h0, P, k1, k2, k3⟩
            · exact .inl ⟨v, s2, (OpTo_put a3).2 k1, (ok_put a3).2 k2, by rw [next_put a3]; exact k3⟩
            · exact .inr ⟨h0, P, (OpP_put a3).2 k1, k2, fun v s2 hp => ⟨(ok_put a3).2 (k3 v s2 hp).1, by rw [next_put a3]; exact (k3 v s2 hp).2⟩⟩
          simp only [mates, Bool.or_eq_true, Bool.and_eq_true, beq_iff_eq] at hh
          rcases hh with ((((((⟨hn, rfl⟩ | ⟨hn, rfl⟩) | ⟨rfl, rfl⟩) | ⟨⟨hr, rfl⟩, rfl⟩) | ⟨⟨hr, rfl⟩, rfl⟩) | ⟨⟨⟨hrx, hri⟩, rfl⟩, rfl⟩) | ⟨⟨hr, rfl⟩, rfl⟩) | ⟨⟨hr, rfl⟩, rfl⟩
          · -- x neither reads nor writes
            rcases h with ⟨v, s, h1, _, h3⟩ | ⟨_, P, h1, _⟩
            · obtain ⟨rfl, k1⟩ := opN_spec hn h1
              rcases second h3 with ⟨v2, s2, q1, q2, q3⟩ | ⟨h0, P, q1, q2, q3⟩
              · exact .inl ⟨v2, s2, q1, q2, first (.inl ⟨v, s2, k1 s2, trivial, q3⟩)⟩
              · exact .inr ⟨h0, P, q1, q2, fun v2 s2 hp => ⟨(q3 v2 s2 hp).1, first (.inl ⟨v, s2, k1 s2, trivial, (q3 v2 s2 hp).2⟩)⟩⟩
            · exact (opN_call hn h1).elim
          · -- i neither reads nor writes
            rcases h with ⟨v, s, h1, h2, h3⟩ | ⟨h0, P, h1, ⟨v0, s0, hp0⟩, h3⟩
            · rcases second h3 with ⟨v2, s2, q1, _, q3⟩ | ⟨_, P, q1, _⟩
              · obtain ⟨rfl, k2⟩ := opN_spec hn q1
                exact .inl ⟨v2, σ, k2 σ, trivial, first (.inl ⟨v, s2, h1, h2, q3⟩)⟩
              · exact (opN_call hn q1).elim
            · have get : ∀ v s, P v s → ∃ v2, OpTo C (ev C ρ) s i.op v2 s ∧ K (nx.next C (ev C ρ) x.op v H σ) (putE (putE ρ i.dst v2) x.dst v) s := by
                intro v s hp
                rcases second (h3 v s hp).2 with ⟨v2, s2, q1, _, q3⟩ | ⟨_, P, q1, _⟩
                · obtain ⟨rfl, _⟩ := opN_spec hn q1
                  exact ⟨v2, q1, q3⟩
                · exact (opN_call hn q1).elim
              obtain ⟨v2, q1, _⟩ := get v0 s0 hp0
              obtain ⟨_, k2⟩ := opN_spec hn q1
              refine .inl ⟨v2, σ, k2 σ, trivial, first (.inr ⟨h0, P, h1, ⟨v0, s0, hp0⟩, fun v s hp => ⟨(h3 v s hp).1, ?_⟩⟩)⟩
              obtain ⟨v2', q2, q3⟩ := get v s hp
              have := opN_fun hn q1 q2
              subst this
              exact q3
          · -- both leave the store
            rcases h with ⟨v, s, h1, h2, h3⟩ | ⟨h0, _⟩
            · rcases second h3 with ⟨v2, s2, q1, q2, q3⟩ | ⟨h0, _⟩
              · simp only [Nd.ok] at h2 q2
                subst h2; subst q2
                exact .inl ⟨v2, s2, q1, rfl, first (.inl ⟨v, s2, h1, rfl, q3⟩)⟩
              · rcases h0 with h0 | h0 <;> cases h0
            · rcases h0 with h0 | h0 <;> cases h0
          · -- a read, an effect
            rcases h with ⟨v, s, h1, h2, h3⟩ | ⟨h0, _⟩
            · have := opR_spec hr h1
              subst this
              simp only [Nd.ok] at h2
              rcases second h3 with ⟨v2, s2, q1, q2, q3⟩ | ⟨h0, P, q1, q2, q3⟩
              · simp only [Nd.ok, Nd.next] at q2 q3
                refine .inl ⟨v2, s2, q1, q2.1, first (.inl ⟨v, s2, q2.2, ⟨rfl, fun g hg => ?_⟩, q3⟩)⟩
                rcases hg with hg | rfl
                · exact h2.2 g hg
                · exact h1
              · refine .inr ⟨h0, P, q1, q2, fun v2 s2 hp => ?_⟩
                have q4 := q3 v2 s2 hp
                simp only [Nd.ok, Nd.next] at q4
                refine ⟨q4.1.1, first (.inl ⟨v, s2, q4.1.2, ⟨rfl, fun g hg => ?_⟩, q4.2⟩)⟩
                rcases hg with hg | rfl
                · exact h2.2 g hg
                · exact h1
            · rcases h0 with h0 | h0 <;> cases h0
          · -- an effect, a read
            rcases h with ⟨v, s, h1, h2, h3⟩ | ⟨h0, P, h1, ⟨v0, s0, hp0⟩, h3⟩
            · rcases second h3 with ⟨v2, s2, q1, q2, q3⟩ | ⟨h0, _⟩
              · have := opR_spec hr q1
                subst this
                simp only [Nd.ok, Nd.next] at q2 q3 h2
                exact .inl ⟨v2, σ, q2.2 σ (.inr rfl), ⟨rfl, fun g hg => q2.2 g (.inl hg)⟩, first (.inl ⟨v, s2, h1, ⟨h2, q1⟩, q3⟩)⟩
              · rcases h0 with h0 | h0 <;> cases h0
            · have get : ∀ v s, P v s → ∃ v2, OpTo C (ev C ρ) s i.op v2 s ∧ OpTo C (ev C ρ) σ i.op v2 σ ∧ (∀ g, H.pre g → OpTo C (ev C ρ) g i.op v2 g) ∧
                  K ⟨fun s => H.pre s ∨ s = σ, fun s => H.rds s ∧ OpTo C (ev C ρ) s i.op v2 s⟩ (putE (putE ρ i.dst v2) x.dst v) s := by
                intro v s hp
                rcases second (h3 v s hp).2 with ⟨v2, s2, q1, q2, q3⟩ | ⟨h0, _⟩
                · have := opR_spec hr q1
                  subst this
                  simp only [Nd.ok, Nd.next] at q2 q3
                  exact ⟨v2, q1, q2.2 σ (.inr rfl), fun g hg => q2.2 g (.inl hg), q3⟩
                · rcases h0 with h0 | h0 <;> cases h0
              obtain ⟨v2, _, q2, q3, _⟩ := get v0 s0 hp0
              refine .inl ⟨v2, σ, q2, ⟨rfl, q3⟩, first (.inr ⟨h0, P, h1, ⟨v0, s0, hp0⟩, fun v s hp => ?_⟩)⟩
              obtain ⟨v2', k1, k2, _, k4⟩ := get v s hp
              have := opR_fun hr q2 k2
              subst this
              have h4 := (h3 v s hp).1
              simp only [Nd.ok] at h4
              exact ⟨⟨h4, k1⟩, k4⟩
          · -- two reads
            rcases h with ⟨v, s, h1, h2, h3⟩ | ⟨h0, _⟩
            · have := opR_spec hrx h1
              subst this
              rcases second h3 with ⟨v2, s2, q1, q2, q3⟩ | ⟨h0, _⟩
              · have := opR_spec hri q1
                subst this
                simp only [Nd.ok, Nd.next] at q2 q3 h2
                refine .inl ⟨v2, s2, q1, ⟨rfl, q2.2⟩, first (.inl ⟨v, s2, h1, ⟨rfl, h2.2⟩, ?_⟩)⟩
                simp only [Nd.next]
                have e : (fun s => (H.rds s ∧ OpTo C (ev C ρ) s i.op v2 s) ∧ OpTo C (ev C ρ) s x.op v s) = (fun s => (H.rds s ∧ OpTo C (ev C ρ) s x.op v s) ∧ OpTo C (ev C ρ) s i.op v2 s) := by
                  funext s
                  exact propext ⟨fun k => ⟨⟨k.1.1, k.2⟩, k.1.2⟩, fun k => ⟨⟨k.1.1, k.2⟩, k.1.2⟩⟩
                rw [e]; exact q3
              · rcases h0 with h0 | h0 <;> cases h0
            · rcases h0 with h0 | h0 <;> cases h0
          · -- a read, what leaves the store
            rcases h with ⟨v, s, h1, h2, h3⟩ | ⟨h0, _⟩
            · have := opR_spec hr h1
              subst this
              rcases second h3 with ⟨v2, s2, q1, q2, q3⟩ | ⟨h0, _⟩
              · simp only [Nd.ok] at q2
                subst q2
                exact .inl ⟨v2, s2, q1, rfl, first (.inl ⟨v, s2, h1, h2, q3⟩)⟩
              · rcases h0 with h0 | h0 <;> cases h0
            · rcases h0 with h0 | h0 <;> cases h0
          · -- what leaves the store, a read
            rcases h with ⟨v, s, h1, h2, h3⟩ | ⟨h0, _⟩
            · simp only [Nd.ok] at h2
              subst h2
              rcases second h3 with ⟨v2, s2, q1, q2, q3⟩ | ⟨h0, _⟩
              · have := opR_spec hr q1
                subst this
                exact .inl ⟨v2, s2, q1, q2, first (.inl ⟨v, s2, h1, rfl, q3⟩)⟩
              · rcases h0 with h0 | h0 <;> cases h0
            · rcases h0 with h0 | h0 <;> cases h0

/-! A list of operations, by their numbers. -/
def runOps (C : Ctx) (ops : Array Oper) (need : Nat → Nd) (K : Env → Store → Prop) : List Nat → Hist → Env → Store → Prop
  | [], _, ρ, σ => K ρ σ
  | i :: rest, H, ρ, σ => match ops[i]? with
    | none => False
    | some o => stepK C ops (need i) o (runOps C ops need K rest) H ρ σ

theorem stepK_mono {C : Ctx} {ops : Array Oper} {n : Nd} {o : Oper} {K K' : Hist → Env → Store → Prop} {H : Hist} {ρ : Env} {σ : Store} (hk : ∀ H ρ σ, K H ρ σ → K' H ρ σ) (h : stepK C ops n o K H ρ σ) : stepK C ops n o K' H ρ σ := by
  unfold stepK at *
  split at h
  · rcases h with ⟨v, σ', h1, h2, h3⟩ | ⟨h0, P, h1, hne, h3⟩
    · exact .inl ⟨v, σ', h1, h2, hk _ _ _ h3⟩
    · exact .inr ⟨h0, P, h1, hne, fun v σ' hp => ⟨(h3 v σ' hp).1, hk _ _ _ (h3 v σ' hp).2⟩⟩
  · exact hk _ _ _ h
  · exact h.elim

/-- May x and i change places? -/
def free2 (C : Ctx) (ops : Array Oper) (need : Nat → Nd) (x i : Nat) : Bool :=
  match ops[x]?, ops[i]? with
  | some ox, some oi => ox.apart ops oi && mates C (need x) (need i) ox.op oi.op
  | _, _ => false

theorem bubble {C : Ctx} {ops : Array Oper} {need : Nat → Nd} {K : Env → Store → Prop} {i : Nat} {post : List Nat} : ∀ (pre : List Nat), (∀ x ∈ pre, free2 C ops need x i = true) → ∀ H ρ σ, runOps C ops need K (pre ++ i :: post) H ρ σ →
    runOps C ops need K (i :: (pre ++ post)) H ρ σ
  | [], _, H, ρ, σ, h => h
  | x :: pre, hf, H, ρ, σ, h => by
    have hx := hf x (by simp)
    have ih := bubble (C := C) (K := K) (post := post) pre (fun y hy => hf y (by simp [hy]))
    unfold free2 at hx
    cases hox : ops[x]? with
    | none => simp [hox] at hx
    | some ox =>
      cases hoi : ops[i]? with
      | none => simp [hox, hoi] at hx
      | some oi =>
        simp only [hox, hoi, Bool.and_eq_true] at hx
        simp only [List.cons_append, runOps, hox, hoi] at h ⊢
        have h' := stepK_mono (fun H ρ σ hh => ih H ρ σ hh) h
        have h'' : stepK C ops (need x) ox (stepK C ops (need i) oi (runOps C ops need K (pre ++ post))) H ρ σ := stepK_mono (fun H ρ σ hh => by simpa only [runOps, hoi] using hh) h'
        exact stepK_swap hx.1 hx.2 h''

/-! Which operation stands ahead of which. -/
def closB (acc : List Nat) : List Oper → List Nat
  | [] => acc
  | o :: os => closB (acc ++ [o.after.toList.foldl (fun s e => if Region.binds .any e then s ||| 2 ^ e.on ||| acc.getD e.on 0 else s) 0]) os
def ahead_ (cl : List Nat) (x i : Nat) : Bool := (cl.getD i 0).testBit x

def DownC (ops : Array Oper) (L : Nat → Bool) : Prop := ∀ (i : Nat) (o : Oper), ops[i]? = some o → L i = true → ∀ e ∈ o.after, Region.binds .any e = true → L e.on = true

theorem foldl_bits (acc : List Nat) (x : Nat) : ∀ (l : List Edge) (s : Nat), (l.foldl (fun s e => if Region.binds .any e then s ||| 2 ^ e.on ||| acc.getD e.on 0 else s) s).testBit x = true →
    s.testBit x = true ∨ ∃ e ∈ l, Region.binds .any e = true ∧ (e.on = x ∨ (acc.getD e.on 0).testBit x = true)
  | [], s, h => .inl h
  | e :: l, s, h => by
    simp only [List.foldl_cons] at h
    rcases foldl_bits acc x l _ h with h1 | ⟨e', he', h1⟩
    · split at h1
      · rename_i hb
        simp only [Nat.testBit_or, Bool.or_eq_true, Nat.testBit_two_pow, decide_eq_true_eq] at h1
        rcases h1 with (h1 | h1) | h1
        · exact .inl h1
        · exact .inr ⟨e, by simp, hb, .inl h1⟩
        · exact .inr ⟨e, by simp, hb, .inr h1⟩
      · exact .inl h1
    · exact .inr ⟨e', by simp [he'], h1⟩

theorem closB_spec {ops : Array Oper} {L : Nat → Bool} (hL : DownC ops L) : ∀ (os : List Oper) (acc : List Nat), (∀ j, os[j]? = ops[acc.length + j]?) →
    (∀ (i x : Nat), i < acc.length → (∀ (o : Oper), ops[i]? = some o → ∀ e ∈ o.after, Region.binds .any e = true → L e.on = true) → (acc.getD i 0).testBit x = true → L x = true) →
    ∀ (i x : Nat), (∀ (o : Oper), ops[i]? = some o → ∀ e ∈ o.after, Region.binds .any e = true → L e.on = true) → ((closB acc os).getD i 0).testBit x = true → L x = true
  | [], acc, hs, hacc, i, x, hi, h => by
    simp only [closB] at h
    rcases Nat.lt_or_ge i acc.length with hl | hl
    · exact hacc i x hl hi h
    · rw [List.getD_eq_getElem?_getD, List.getElem?_eq_none hl] at h; simp at h
  | o :: os, acc, hs, hacc, i, x, hi, h => by
    simp only [closB] at h
    have h0 : ops[acc.length]? = some o := by have := hs 0; simpa using this.symm
    refine closB_spec hL os _ (fun j => ?_) (fun k y hk hk2 hb => ?_) i x hi h
    · have := hs (j + 1)
      simp only [List.getElem?_cons_succ] at this
      rw [this, List.length_append, List.length_singleton]
      congr 1; omega
    · rcases Nat.lt_or_ge k acc.length with hl | hl
      · rw [List.getD_eq_getElem?_getD, List.getElem?_append_left hl, ← List.getD_eq_getElem?_getD] at hb
        exact hacc k y hl hk2 hb
      · have hke : k = acc.length := by simp at hk; omega
        subst hke
        rw [List.getD_eq_getElem?_getD, List.getElem?_concat_length] at hb
        simp only [Option.getD_some] at hb
        rcases foldl_bits acc y _ 0 hb with h1 | ⟨e, he, hbd, h1⟩
        · simp at h1
        · have hLe : L e.on = true := hk2 o h0 e (by simpa using he) hbd
          rcases h1 with rfl | h1
          · exact hLe
          · rcases Nat.lt_or_ge e.on acc.length with hl2 | hl2
            · exact hacc e.on y hl2 (fun o' ho' e' he' hb' => hL e.on o' ho' hLe e' he' hb') h1
            · rw [List.getD_eq_getElem?_getD, List.getElem?_eq_none hl2] at h1; simp at h1

/-- A region whose order is drawn may be gone through in the text's order. -/
def okDraw (C : Ctx) (ops : Array Oper) (need : Nat → Nd) : Bool :=
  let cl := closB [] ops.toList
  (List.range ops.size).all fun i => (List.range i).all fun x => ahead_ cl x i || free2 C ops need x i
def edgesBack (ops : Array Oper) : Bool := (List.range ops.size).all fun i => match ops[i]? with | some o => o.after.toList.all fun e => !Region.binds .any e || decide (e.on < i) | none => true

theorem draw_ok {C : Ctx} {ops : Array Oper} {need : Nat → Nd} {K : Env → Store → Prop} {Q : Exit → Act → World → Prop} (hok : okDraw C ops need = true) (hback : edgesBack ops = true) {n : Nat} (hdst : ∀ o ∈ ops, ∀ d, o.dst = some d → d < n) :
    ∀ (fuel : Nat) (listed : Array Bool) (L : List Nat), listed.size = ops.size → (∀ i, i ∈ L ↔ i < ops.size ∧ listed.getD i true = false) → L.Pairwise (· < ·) → DownC ops (fun i => listed.getD i false) → L.length ≤ fuel →
      ∀ (H : Hist) (ρ : Env) (σ : Store) (γ : Places) (a : Act) (w : World), runOps C ops need K L H ρ σ → Rel C γ σ w → EnvR γ w ρ a.tmps → a.tmps.size = n →
        (∀ ρ' σ' γ' a' w', K ρ' σ' → Step γ w γ' w' → Rel C γ' σ' w' → EnvR γ' w' ρ' a'.tmps → a'.defers = a.defers → a'.tmps.size = n → Q .normal a' w') →
        wpAny C.P .any ops Q fuel listed a w := by
  intro fuel
  induction fuel with
  | zero =>
    intro listed L hls hL hpw hdown hlen H ρ σ γ a w h hR hE hn hQ
    have : L = [] := List.eq_nil_of_length_eq_zero (by omega)
    subst this
    simp only [wpAny]
    refine ⟨?_, hQ ρ σ γ a w h (Step.refl _ _) hR hE rfl hn⟩
    apply List.eq_nil_iff_forall_not_mem.2
    intro i hi
    unfold Region.ready at hi
    simp only [List.mem_filter, List.mem_range, Bool.and_eq_true, Bool.not_eq_true'] at hi
    exact absurd ((hL i).2 ⟨hi.1, hi.2.1⟩) (by simp)
  | succ fuel ih =>
    intro listed L hls hL hpw hdown hlen H ρ σ γ a w h hR hE hn hQ
    simp only [wpAny]
    refine ⟨fun hready => ?_, fun i hi => ?_⟩
    · -- nothing is ready: nothing is left
      cases L with
      | nil => exact hQ ρ σ γ a w h (Step.refl _ _) hR hE rfl hn
      | cons i L =>
        exfalso
        have hi := (hL i).1 (by simp)
        have hmem : i ∈ Region.ready .any ops listed := by
          unfold Region.ready
          simp only [List.mem_filter, List.mem_range, Bool.and_eq_true, Bool.not_eq_true']
          refine ⟨hi.1, hi.2, ?_⟩
          have ho : ops[i]? = some ops[i] := Array.getElem?_eq_getElem hi.1
          rw [ho]
          simp only [Option.map_some, Option.getD_some]
          rw [Array.all_eq_true_iff_forall_mem]
          intro e he
          by_cases hb : Region.binds .any e = true
          · have hb2 := List.all_eq_true.1 hback i (by simpa using hi.1)
            rw [ho] at hb2
            simp only at hb2
            have hb3 := List.all_eq_true.1 hb2 e (by simpa using he)
            simp only [hb, Bool.not_true, Bool.false_or, decide_eq_true_eq] at hb3
            -- what stands ahead of the least one that is left is listed
            have : listed.getD e.on false = true := by
              rcases hl : listed.getD e.on false with _ | _
              · have hsz : e.on < listed.size := by omega
                have hf : listed.getD e.on true = false := by
                  simp only [Array.getD_eq_getD_getElem?, Array.getElem?_eq_getElem hsz, Option.getD_some] at hl ⊢
                  exact hl
                have hin := (hL e.on).2 ⟨by omega, hf⟩
                rcases List.mem_cons.1 hin with h1 | h1
                · omega
                · have := (List.pairwise_cons.1 hpw).1 e.on h1
                  omega
              · rfl
            simp [this]
          · simp [hb]
        rw [hready] at hmem
        simp at hmem
    · -- one that is ready goes ahead of all that are left
      unfold Region.ready at hi
      simp only [List.mem_filter, List.mem_range, Bool.and_eq_true, Bool.not_eq_true'] at hi
      obtain ⟨hi1, hi2, hi3⟩ := hi
      have hin := (hL i).2 ⟨hi1, hi2⟩
      obtain ⟨pre, post, rfl⟩ := List.append_of_mem hin
      have ho : ops[i]? = some ops[i] := Array.getElem?_eq_getElem hi1
      rw [ho] at hi3
      simp only [Option.map_some, Option.getD_some, Array.all_eq_true_iff_forall_mem] at hi3
      have hdeps : ∀ (o : Oper), ops[i]? = some o → ∀ e ∈ o.after, Region.binds .any e = true → listed.getD e.on false = true := by
        intro o ho' e he hb
        rw [ho] at ho'; cases ho'
        have := hi3 e he
        simpa [hb] using this
      have hfree : ∀ x ∈ pre, free2 C ops need x i = true := by
        intro x hx
        have hxi : x < i := by
          have := List.pairwise_append.1 hpw
          exact this.2.2 x hx i (by simp)
        have hok1 := List.all_eq_true.1 hok i (by simpa using hi1)
        have hok2 := List.all_eq_true.1 hok1 x (by simpa using hxi)
        simp only [Bool.or_eq_true] at hok2
        rcases hok2 with h1 | h1
        · exfalso
          have := closB_spec (L := fun i => listed.getD i false) hdown ops.toList [] (fun j => by simp) (by simp) i x hdeps h1
          have hx2 := ((hL x).1 (by simp [hx]))
          have hsz : x < listed.size := by omega
          simp only [Array.getD_eq_getD_getElem?, Array.getElem?_eq_getElem hsz, Option.getD_some] at this hx2
          rw [this] at hx2
          simp at hx2
        · exact h1
      have hb := bubble (C := C) (K := K) (post := post) pre hfree H ρ σ h
      simp only [runOps, ho] at hb
      have hsizei : i < listed.size := by omega
      refine step_ok ho (fun x hx => by rw [hn]; exact hdst _ (Array.getElem_mem hi1) x hx) hR hE hb fun H' ρ' σ' γ' a' w' hK hst hR' hE' hdf hsz => ?_
      refine ih (listed.setIfInBounds i true) (pre ++ post) (by simpa using hls) (fun j => ?_) ?_ ?_ (by simp at hlen ⊢; omega) H' ρ' σ' γ' a' w' hK hR' hE' (hsz.trans hn) ?_
      · have hj := hL j
        simp only [List.mem_append, List.mem_cons, Array.getD_eq_getD_getElem?, Array.getElem?_setIfInBounds] at hj ⊢
        by_cases hji : i = j
        · subst hji
          simp only [if_true, hsizei, Option.getD_some]
          constructor
          · intro hm
            exfalso
            have hp := List.pairwise_append.1 hpw
            rcases hm with hm | hm
            · have := hp.2.2 i hm i (by simp); omega
            · have := (List.pairwise_cons.1 hp.2.1).1 i hm; omega
          · rintro ⟨_, hf⟩; simp at hf
        · rw [if_neg hji]
          constructor
          · intro hm
            exact hj.1 (by rcases hm with hm | hm; exact .inl hm; exact .inr (.inr hm))
          · intro hm
            rcases hj.2 hm with h1 | h1 | h1
            · exact .inl h1
            · exact absurd h1.symm hji
            · exact .inr h1
      · have hp := List.pairwise_append.1 hpw
        exact List.pairwise_append.2 ⟨hp.1, (List.pairwise_cons.1 hp.2.1).2, fun x hx y hy => hp.2.2 x hx y (by simp [hy])⟩
      · intro j o hj hlj e he hbd
        simp only [Array.getD_eq_getD_getElem?, Array.getElem?_setIfInBounds] at hlj ⊢
        by_cases hji : i = j
        · subst hji
          have := hdeps o hj e he hbd
          simp only [Array.getD_eq_getD_getElem?] at this
          by_cases hie : i = e.on
          · simp [← hie, hsizei]
          · rw [if_neg hie]; exact this
        · rw [if_neg hji] at hlj
          have := hdown j o hj (by simpa [Array.getD_eq_getD_getElem?] using hlj) e he hbd
          simp only [Array.getD_eq_getD_getElem?] at this
          by_cases hie : i = e.on
          · simp [← hie, hsizei]
          · rw [if_neg hie]; exact this
      · intro ρ'' σ'' γ'' a'' w'' k1 k2 k3 k4 k5 k6
        exact hQ ρ'' σ'' γ'' a'' w'' k1 (hst.trans k2) k3 k4 (k5.trans hdf) k6
end Am
end Go.Proofs.Ytkffgmpbhahioaa
