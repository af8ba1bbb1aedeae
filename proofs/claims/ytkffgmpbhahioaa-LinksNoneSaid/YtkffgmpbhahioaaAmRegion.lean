/- THE ABSTRACT MACHINE, part 13: regions, in whatever order. -/
import Derived.Test.YtkffgmpbhahioaaAmOp
set_option linter.unusedSimpArgs false
namespace Go.Proofs.Ytkffgmpbhahioaa
namespace Am

/-! What an operation leans on. -/
theorem evalOp_congr (C : Ctx) {e e' : Operand → AV} (σ : Store) (op : Op) (h : ∀ x ∈ op.operands, e x = e' x) : evalOp C e σ op = evalOp C e' σ op := by
  have pairs : ∀ ps : Array (Nat × Operand), (∀ x ∈ ps.map (·.2), e x = e' x) → (ps.toList.map fun p => (p.1, e p.2)) = (ps.toList.map fun p => (p.1, e' p.2)) := fun ps hp =>
    List.map_congr_left fun p hm => by
      rw [hp p.2 (Array.mem_map.2 ⟨p, by simpa using hm, rfl⟩)]
  cases op <;> simp only [Op.operands] at h <;> simp only [evalOp]
  case build t ps => rw [pairs ps fun x hx => h x (by simpa using hx)]
  case buildSlice t n ps => rw [pairs ps fun x hx => h x (by simpa using hx)]
  case makeFunc fn first captured =>
    cases fn <;> simp only [reduceCtorEq]
    rw [List.map_congr_left (l := captured.toList) fun x hx => h x (by simp at hx; simp [hx])]
  case call c =>
    obtain ⟨callee, args, ats⟩ := c
    cases callee <;> simp only []
    rw [List.map_congr_left (l := args.toList) fun x hx => h x (by simp at hx; simp [Call.operands, hx])]
  case slice t x lo hi mx => cases lo <;> cases hi <;> cases mx <;> simp_all
  all_goals (first | rfl | (simp_all; done))

theorem callOf_operands {op : Op} {f : Operand} {args : Array Operand} (h : callOf op = some (f, args)) : f ∈ op.operands ∧ ∀ x ∈ args, x ∈ op.operands := by
  cases op <;> simp only [callOf, reduceCtorEq] at h
  rename_i c
  obtain ⟨callee, cargs, ats⟩ := c
  cases callee <;> simp only [reduceCtorEq, Option.some.injEq, Prod.mk.injEq] at h
  obtain ⟨rfl, rfl⟩ := h
  simp [Op.operands, Call.operands]
  intro x hx
  exact .inr hx

theorem OpTo_congr {C : Ctx} {e e' : Operand → AV} {σ σ' : Store} {op : Op} {v : AV} (h : ∀ x ∈ op.operands, e x = e' x) (ho : OpTo C e σ op v σ') : OpTo C e' σ op v σ' := by
  unfold OpTo at ho ⊢
  cases hc : callOf op with
  | none =>
    rw [hc] at ho
    simp only at ho ⊢
    rw [← evalOp_congr C σ op h]; exact ho
  | some fa =>
    obtain ⟨f, args⟩ := fa
    rw [hc] at ho
    simp only at ho ⊢
    obtain ⟨h1, h2⟩ := callOf_operands hc
    obtain ⟨fid, caps, h3, h4⟩ := ho
    refine ⟨fid, caps, by rw [← h f h1]; exact h3, ?_⟩
    rw [← List.map_congr_left (l := args.toList) fun x hx => h x (h2 x (by simpa using hx))]
    exact h4

/-- Operations that neither look at the store nor turn it. -/
def opN : Op → Bool
  | .move _ | .assign _ | .pick _ _ _ | .build _ _ | .buildSlice _ _ _ | .nilCheck _ | .binOp _ _ _ _ _ | .unOp _ _ _ | .makeFunc _ _ _ | .fieldAddr _ _ _ | .field _ _ _ | .indexAddr _ _ _ | .index _ _ _ | .extract _ _ => true
  | .call c => match c.callee with | .builtin .len => true | .builtin .min => true | .builtin .max => true | _ => false
  | _ => false
theorem opN_spec {C : Ctx} {e : Operand → AV} {σ σ' : Store} {op : Op} {v : AV} (hn : opN op = true) (h : OpTo C e σ op v σ') : σ' = σ ∧ ∀ σ2, OpTo C e σ2 op v σ2 := by
  have key : callOf op = none := by
    cases op <;> simp only [opN, Bool.false_eq_true] at hn <;> simp only [callOf]
    rename_i c
    obtain ⟨callee, cargs, ats⟩ := c
    cases callee <;> simp_all
  unfold OpTo at h ⊢
  rw [key] at h ⊢
  simp only at h ⊢
  have mp : ∀ {r : Option AV} {σ σ' : Store} {v : AV}, r.map (fun v => (v, σ)) = some (v, σ') → σ' = σ ∧ ∀ σ2 : Store, r.map (fun v => (v, σ2)) = some (v, σ2) := by
    intro r σ σ' v h
    simp only [Option.map_eq_some_iff, Prod.mk.injEq] at h
    obtain ⟨v', rfl, rfl, rfl⟩ := h
    exact ⟨rfl, fun _ => rfl⟩
  cases op <;> simp only [opN, Bool.false_eq_true] at hn <;> simp only [evalOp] at h ⊢
  case move x => simp only [Option.some.injEq, Prod.mk.injEq] at h ⊢; exact ⟨h.2.symm, fun _ => ⟨h.1, trivial⟩⟩
  case assign x => simp only [Option.some.injEq, Prod.mk.injEq] at h ⊢; exact ⟨h.2.symm, fun _ => ⟨h.1, trivial⟩⟩
  case pick c x y => split at h
                     · simp only [Option.some.injEq, Prod.mk.injEq] at h ⊢; exact ⟨h.2.symm, fun _ => ⟨h.1, trivial⟩⟩
                     · cases h
  case nilCheck x => split at h
                     · simp only [Option.some.injEq, Prod.mk.injEq] at h ⊢; exact ⟨h.2.symm, fun _ => ⟨h.1, trivial⟩⟩
                     · simp only [Option.some.injEq, Prod.mk.injEq] at h ⊢; exact ⟨h.2.symm, fun _ => ⟨h.1, trivial⟩⟩
                     · simp only [Option.some.injEq, Prod.mk.injEq] at h ⊢; exact ⟨h.2.symm, fun _ => ⟨h.1, trivial⟩⟩
                     · cases h
  case makeFunc fn first captured =>
    cases fn <;> simp only [reduceCtorEq] at h ⊢
    split at h
    · rename_i hz
      simp only [hz, if_true, Option.some.injEq, Prod.mk.injEq] at h ⊢; exact ⟨h.2.symm, fun _ => ⟨h.1, trivial⟩⟩
    · cases h
  case extract x i => split at h
                      · exact mp h
                      · cases h
  case call c =>
    obtain ⟨callee, cargs, ats⟩ := c
    cases callee <;> simp only [Bool.false_eq_true, reduceCtorEq] at hn h ⊢
    rename_i b
    unfold aBuiltin at h ⊢
    split at h <;> simp only [Bool.false_eq_true, reduceCtorEq] at hn h ⊢
    · exact mp h
    · exact mp h
    · exact mp h
  all_goals exact mp h

/-! Guards. -/
def wantedA (ops : Array Oper) (ρ : Env) (o : Oper) : Option Bool :=
  match o.guard with
  | none => some true
  | some g => match (ops[g.1]?).bind (·.dst) with
    | some d => (match ρ d with | .bool b => some (b == g.2) | .undef => some false | _ => none)
    | none => some false
theorem wanted_ok {γ : Places} {w : World} {ρ : Env} {a : Act} {ops : Array Oper} {o : Oper} {b : Bool} (hE : EnvR γ w ρ a.tmps) (h : wantedA ops ρ o = some b) : Region.wanted o (yielded ops a.tmps) = b := by
  unfold wantedA at h
  unfold Region.wanted
  cases hg : o.guard with
  | none => rw [hg] at h; simp only [Option.some.injEq] at h; simpa using h
  | some g =>
    obtain ⟨j, want⟩ := g
    rw [hg] at h
    simp only at h ⊢
    unfold yielded
    cases hd : (ops[j]?).bind (·.dst) with
    | none => rw [hd] at h; simp only [Option.some.injEq] at h; subst h; simp
    | some d =>
      rw [hd] at h
      simp only at h
      have hr := hE d
      simp only [Option.bind_some]
      split at h
      · rename_i b' hb
        rw [hb] at hr
        simp only [VR] at hr
        simp only [Option.some.injEq] at h; subst h
        have : a.tmps[d]? = some (.bool b') := by
          rw [Array.getD_eq_getD_getElem?] at hr
          cases hq : a.tmps[d]? with
          | none => rw [hq] at hr; simp [undef] at hr
          | some v => rw [hq] at hr; simp at hr; rw [hr]
        rw [this]
        cases b' <;> cases want <;> rfl
      · rename_i hb
        rw [hb] at hr
        simp only [VR] at hr
        simp only [Option.some.injEq] at h; subst h
        rw [Array.getD_eq_getD_getElem?] at hr
        cases hq : a.tmps[d]? with
        | none => simp
        | some v => rw [hq] at hr; simp at hr; subst hr; simp [undef]
      · cases h

/-! One operation with its guard. -/
def stepK (C : Ctx) (ops : Array Oper) (need : Bool) (o : Oper) (K : Env → Store → Prop) (ρ : Env) (σ : Store) : Prop :=
  match wantedA ops ρ o with
  | some true => ∃ v σ', OpTo C (ev C ρ) σ o.op v σ' ∧ (need = true → σ' = σ) ∧ K (putE ρ o.dst v) σ'
  | some false => K (putE ρ o.dst .undef) σ
  | none => False

theorem step_ok {C : Ctx} {γ : Places} {σ : Store} {w : World} {ops : Array Oper} {i : Nat} {o : Oper} {need : Bool} {ρ : Env} {a : Act} {K : Env → Store → Prop} {KK : Act → World → Prop} {Q : Exit → Act → World → Prop} (hi : ops[i]? = some o)
    (hd : ∀ x, o.dst = some x → x < a.tmps.size) (hR : Rel C γ σ w) (hE : EnvR γ w ρ a.tmps) (h : stepK C ops need o K ρ σ)
    (hK : ∀ ρ' σ' γ' a' w', K ρ' σ' → Step γ w γ' w' → Rel C γ' σ' w' → EnvR γ' w' ρ' a'.tmps → a'.defers = a.defers → a'.tmps.size = a.tmps.size → KK a' w') : wpOp C.P ops Q i KK a w := by
  unfold stepK at h
  unfold wpOp
  rw [hi]
  simp only
  have put_size : ∀ (d : Option Nat) (v : Value), (a.put d v).tmps.size = a.tmps.size := by intro d v; cases d <;> simp [Act.put]
  have put_def : ∀ (d : Option Nat) (v : Value), (a.put d v).defers = a.defers := by intro d v; cases d <;> rfl
  split at h
  · rename_i hw
    rw [wanted_ok hE hw, if_pos rfl]
    left
    obtain ⟨v, σ', h1, _, h2⟩ := h
    refine op_ok hR hE h1 fun cv γ' w' k1 k2 k3 => ?_
    exact hK _ _ γ' _ w' h2 k1 k2 ((hE.mono k1).put hd k3) (put_def _ _) (put_size _ _)
  · rename_i hw
    rw [wanted_ok hE hw, if_neg (by simp)]
    exact hK _ _ γ _ w h (Step.refl _ _) hR (hE.put hd (by simp only [VR])) (put_def _ _) (put_size _ _)
  · exact h.elim

/-! Two operations change places. -/
theorem ev_putE {C : Ctx} {ρ : Env} {d : Option Nat} {v : AV} {x : Operand} (h : ∀ t, d = some t → x ≠ .tmp t) : ev C (putE ρ d v) x = ev C ρ x := by
  cases d with
  | none => rfl
  | some d =>
    cases x with
    | tmp t =>
      have hne : t ≠ d := fun e => h d rfl (by rw [e])
      simp [ev, putE, upd, hne]
    | _ => rfl
theorem operands_looks {ops : Array Oper} {o : Oper} {t : Nat} (h : (Operand.tmp t) ∈ o.op.operands) : t ∈ o.looksAt ops := by
  unfold Oper.looksAt
  exact List.mem_append_left _ (List.mem_filterMap.2 ⟨.tmp t, by simpa using h, rfl⟩)
theorem OpTo_put {C : Ctx} {ρ : Env} {σ σ' : Store} {ops : Array Oper} {o : Oper} {d : Option Nat} {u v : AV} (h : ∀ t, d = some t → t ∉ o.looksAt ops) :
    OpTo C (ev C (putE ρ d u)) σ o.op v σ' ↔ OpTo C (ev C ρ) σ o.op v σ' := by
  have e : ∀ x ∈ o.op.operands, ev C (putE ρ d u) x = ev C ρ x := fun x hx => ev_putE fun t ht hxt => h t ht (operands_looks (by rw [← hxt]; exact hx))
  exact ⟨OpTo_congr e, OpTo_congr fun x hx => (e x hx).symm⟩
theorem wantedA_put {ρ : Env} {ops : Array Oper} {o : Oper} {d : Option Nat} {u : AV} (h : ∀ t, d = some t → t ∉ o.looksAt ops) : wantedA ops (putE ρ d u) o = wantedA ops ρ o := by
  cases d with
  | none => rfl
  | some t =>
    unfold wantedA
    cases hg : o.guard with
    | none => rfl
    | some g =>
      simp only
      cases hd : (ops[g.1]?).bind (·.dst) with
      | none => rfl
      | some d' =>
        simp only
        have hne : d' ≠ t := fun e => h t rfl (by
          unfold Oper.looksAt
          refine List.mem_append_right _ ?_
          rw [hg]
          simp only
          rw [hd, e]; simp)
        simp [putE, upd, hne]
theorem putE_comm {ρ : Env} {x y : Option Nat} {u v : AV} (h : ∀ d, x = some d → y ≠ some d) : putE (putE ρ x u) y v = putE (putE ρ y v) x u := by
  cases x with
  | none => rfl
  | some d =>
    cases y with
    | none => rfl
    | some e =>
      have hne : d ≠ e := fun e' => h d rfl (by rw [e'])
      funext t
      simp only [putE, upd]
      by_cases h1 : t = e
      · subst h1
        have : ¬ t = d := fun e' => hne e'.symm
        simp [this]
      · simp [h1]

theorem stepK_swap {C : Ctx} {ops : Array Oper} {nx ni : Bool} {x i : Oper} {K : Env → Store → Prop} {ρ : Env} {σ : Store} (hap : x.apart ops i = true) (hh : (opN x.op || opN i.op || (nx && ni)) = true)
    (h : stepK C ops nx x (stepK C ops ni i K) ρ σ) : stepK C ops ni i (stepK C ops nx x K) ρ σ := by
  obtain ⟨a1, a2, a3⟩ := Oper.apart_spec hap
  unfold stepK at h ⊢
  have wi : ∀ u, wantedA ops (putE ρ x.dst u) i = wantedA ops ρ i := fun u => wantedA_put a1
  have wx : ∀ u, wantedA ops (putE ρ i.dst u) x = wantedA ops ρ x := fun u => wantedA_put a3
  cases hwx : wantedA ops ρ x with
  | none => rw [hwx] at h; exact h.elim
  | some bx =>
    rw [hwx] at h
    cases bx with
    | false =>
      simp only at h
      rw [wi] at h
      cases hwi : wantedA ops ρ i with
      | none => rw [hwi] at h; exact h.elim
      | some bi =>
        rw [hwi] at h
        cases bi with
        | false => simp only at h ⊢; rw [wx, hwx]; simp only; rw [← putE_comm a2]; exact h
        | true =>
          simp only at h ⊢
          obtain ⟨v, σ', h1, h2, h3⟩ := h
          refine ⟨v, σ', (OpTo_put a1).1 h1, h2, ?_⟩
          rw [wx, hwx]; simp only; rw [← putE_comm a2]; exact h3
    | true =>
      simp only at h
      obtain ⟨v, σ1, h1, h2, h3⟩ := h
      rw [wi] at h3
      cases hwi : wantedA ops ρ i with
      | none => rw [hwi] at h3; exact h3.elim
      | some bi =>
        rw [hwi] at h3
        cases bi with
        | false =>
          simp only at h3 ⊢
          rw [wx, hwx]; simp only
          exact ⟨v, σ1, (OpTo_put a3).2 h1, h2, by rw [← putE_comm a2]; exact h3⟩
        | true =>
          simp only at h3 ⊢
          obtain ⟨v2, σ2, h4, h5, h6⟩ := h3
          have h4' := (OpTo_put a1).1 h4
          rcases hnx : opN x.op with _ | _
          · rcases hni : opN i.op with _ | _
            · simp only [hnx, hni, Bool.false_or, Bool.and_eq_true] at hh
              have e1 := h2 hh.1
              have e2 := h5 hh.2
              subst e1; subst e2
              refine ⟨v2, σ2, h4', fun _ => rfl, ?_⟩
              rw [wx, hwx]; simp only
              exact ⟨v, σ2, (OpTo_put a3).2 h1, fun _ => rfl, by rw [← putE_comm a2]; exact h6⟩
            · obtain ⟨e2, k2⟩ := opN_spec hni h4'
              subst e2
              refine ⟨v2, σ, k2 σ, fun _ => rfl, ?_⟩
              rw [wx, hwx]; simp only
              exact ⟨v, σ2, (OpTo_put a3).2 h1, h2, by rw [← putE_comm a2]; exact h6⟩
          · obtain ⟨e1, k1⟩ := opN_spec hnx h1
            subst e1
            refine ⟨v2, σ2, h4', h5, ?_⟩
            rw [wx, hwx]; simp only
            exact ⟨v, σ2, (OpTo_put a3).2 (k1 σ2), fun _ => rfl, by rw [← putE_comm a2]; exact h6⟩

/-! A list of operations, by their numbers. -/
def runOps (C : Ctx) (ops : Array Oper) (need : Nat → Bool) (K : Env → Store → Prop) : List Nat → Env → Store → Prop
  | [], ρ, σ => K ρ σ
  | i :: rest, ρ, σ => match ops[i]? with
    | none => False
    | some o => stepK C ops (need i) o (runOps C ops need K rest) ρ σ

theorem stepK_mono {C : Ctx} {ops : Array Oper} {n : Bool} {o : Oper} {K K' : Env → Store → Prop} {ρ : Env} {σ : Store} (hk : ∀ ρ σ, K ρ σ → K' ρ σ) (h : stepK C ops n o K ρ σ) : stepK C ops n o K' ρ σ := by
  unfold stepK at *
  split at h
  · obtain ⟨v, σ', h1, h2, h3⟩ := h; exact ⟨v, σ', h1, h2, hk _ _ h3⟩
  · exact hk _ _ h
  · exact h.elim

/-- May x and i change places? -/
def free2 (ops : Array Oper) (need : Nat → Bool) (x i : Nat) : Bool :=
  match ops[x]?, ops[i]? with
  | some ox, some oi => ox.apart ops oi && (opN ox.op || opN oi.op || (need x && need i))
  | _, _ => false

theorem bubble {C : Ctx} {ops : Array Oper} {need : Nat → Bool} {K : Env → Store → Prop} {i : Nat} {post : List Nat} : ∀ (pre : List Nat), (∀ x ∈ pre, free2 ops need x i = true) → ∀ ρ σ, runOps C ops need K (pre ++ i :: post) ρ σ →
    runOps C ops need K (i :: (pre ++ post)) ρ σ
  | [], _, ρ, σ, h => h
  | x :: pre, hf, ρ, σ, h => by
    have hx := hf x (by simp)
    have ih := bubble (C := C) (K := K) (post := post) pre (fun y hy => hf y (by simp [hy]))
    unfold free2 at hx
    cases hox : ops[x]? with
    | none => simp [hox] at hx
    | some ox =>
      cases hoi : ops[i]? with
      | none => simp [hox, hoi] at hx
      | some oi =>
        simp only [hox, hoi, Bool.and_eq_true] at hx
        simp only [List.cons_append, runOps, hox, hoi] at h ⊢
        have h' := stepK_mono (fun ρ σ hh => ih ρ σ hh) h
        have h'' : stepK C ops (need x) ox (stepK C ops (need i) oi (runOps C ops need K (pre ++ post))) ρ σ := stepK_mono (fun ρ σ hh => by simpa only [runOps, hoi] using hh) h'
        exact stepK_swap hx.1 hx.2 h''

/-! Which operation stands ahead of which. -/
def closB (acc : List Nat) : List Oper → List Nat
  | [] => acc
  | o :: os => closB (acc ++ [o.after.toList.foldl (fun s e => if Region.binds .any e then s ||| 2 ^ e.on ||| acc.getD e.on 0 else s) 0]) os
def ahead_ (cl : List Nat) (x i : Nat) : Bool := (cl.getD i 0).testBit x

def DownC (ops : Array Oper) (L : Nat → Bool) : Prop := ∀ (i : Nat) (o : Oper), ops[i]? = some o → L i = true → ∀ e ∈ o.after, Region.binds .any e = true → L e.on = true

theorem foldl_bits (acc : List Nat) (x : Nat) : ∀ (l : List Edge) (s : Nat), (l.foldl (fun s e => if Region.binds .any e then s ||| 2 ^ e.on ||| acc.getD e.on 0 else s) s).testBit x = true →
    s.testBit x = true ∨ ∃ e ∈ l, Region.binds .any e = true ∧ (e.on = x ∨ (acc.getD e.on 0).testBit x = true)
  | [], s, h => .inl h
  | e :: l, s, h => by
    simp only [List.foldl_cons] at h
    rcases foldl_bits acc x l _ h with h1 | ⟨e', he', h1⟩
    · split at h1
      · rename_i hb
        simp only [Nat.testBit_or, Bool.or_eq_true, Nat.testBit_two_pow, decide_eq_true_eq] at h1
        rcases h1 with (h1 | h1) | h1
        · exact .inl h1
        · exact .inr ⟨e, by simp, hb, .inl h1⟩
        · exact .inr ⟨e, by simp, hb, .inr h1⟩
      · exact .inl h1
    · exact .inr ⟨e', by simp [he'], h1⟩

theorem closB_spec {ops : Array Oper} {L : Nat → Bool} (hL : DownC ops L) : ∀ (os : List Oper) (acc : List Nat), (∀ j, os[j]? = ops[acc.length + j]?) →
    (∀ (i x : Nat), i < acc.length → (∀ (o : Oper), ops[i]? = some o → ∀ e ∈ o.after, Region.binds .any e = true → L e.on = true) → (acc.getD i 0).testBit x = true → L x = true) →
    ∀ (i x : Nat), (∀ (o : Oper), ops[i]? = some o → ∀ e ∈ o.after, Region.binds .any e = true → L e.on = true) → ((closB acc os).getD i 0).testBit x = true → L x = true
  | [], acc, hs, hacc, i, x, hi, h => by
    simp only [closB] at h
    rcases Nat.lt_or_ge i acc.length with hl | hl
    · exact hacc i x hl hi h
    · rw [List.getD_eq_getElem?_getD, List.getElem?_eq_none hl] at h; simp at h
  | o :: os, acc, hs, hacc, i, x, hi, h => by
    simp only [closB] at h
    have h0 : ops[acc.length]? = some o := by have := hs 0; simpa using this.symm
    refine closB_spec hL os _ (fun j => ?_) (fun k y hk hk2 hb => ?_) i x hi h
    · have := hs (j + 1)
      simp only [List.getElem?_cons_succ] at this
      rw [this, List.length_append, List.length_singleton]
      congr 1; omega
    · rcases Nat.lt_or_ge k acc.length with hl | hl
      · rw [List.getD_eq_getElem?_getD, List.getElem?_append_left hl, ← List.getD_eq_getElem?_getD] at hb
        exact hacc k y hl hk2 hb
      · have hke : k = acc.length := by simp at hk; omega
        subst hke
        rw [List.getD_eq_getElem?_getD, List.getElem?_concat_length] at hb
        simp only [Option.getD_some] at hb
        rcases foldl_bits acc y _ 0 hb with h1 | ⟨e, he, hbd, h1⟩
        · simp at h1
        · have hLe : L e.on = true := hk2 o h0 e (by simpa using he) hbd
          rcases h1 with rfl | h1
          · exact hLe
          · rcases Nat.lt_or_ge e.on acc.length with hl2 | hl2
            · exact hacc e.on y hl2 (fun o' ho' e' he' hb' => hL e.on o' ho' hLe e' he' hb') h1
            · rw [List.getD_eq_getElem?_getD, List.getElem?_eq_none hl2] at h1; simp at h1

/-- A region whose order is drawn may be gone through in the text's order. -/
def okDraw (ops : Array Oper) (need : Nat → Bool) : Bool :=
  let cl := closB [] ops.toList
  (List.range ops.size).all fun i => (List.range i).all fun x => ahead_ cl x i || free2 ops need x i
def edgesBack (ops : Array Oper) : Bool := (List.range ops.size).all fun i => match ops[i]? with | some o => o.after.toList.all fun e => !Region.binds .any e || decide (e.on < i) | none => true

theorem draw_ok {C : Ctx} {ops : Array Oper} {need : Nat → Bool} {K : Env → Store → Prop} {Q : Exit → Act → World → Prop} (hok : okDraw ops need = true) (hback : edgesBack ops = true) {n : Nat} (hdst : ∀ o ∈ ops, ∀ d, o.dst = some d → d < n) :
    ∀ (fuel : Nat) (listed : Array Bool) (L : List Nat), listed.size = ops.size → (∀ i, i ∈ L ↔ i < ops.size ∧ listed.getD i true = false) → L.Pairwise (· < ·) → DownC ops (fun i => listed.getD i false) → L.length ≤ fuel →
      ∀ (ρ : Env) (σ : Store) (γ : Places) (a : Act) (w : World), runOps C ops need K L ρ σ → Rel C γ σ w → EnvR γ w ρ a.tmps → a.tmps.size = n →
        (∀ ρ' σ' γ' a' w', K ρ' σ' → Step γ w γ' w' → Rel C γ' σ' w' → EnvR γ' w' ρ' a'.tmps → a'.defers = a.defers → a'.tmps.size = n → Q .normal a' w') →
        wpAny C.P .any ops Q fuel listed a w := by
  intro fuel
  induction fuel with
  | zero =>
    intro listed L hls hL hpw hdown hlen ρ σ γ a w h hR hE hn hQ
    have : L = [] := List.eq_nil_of_length_eq_zero (by omega)
    subst this
    simp only [wpAny]
    refine ⟨?_, hQ ρ σ γ a w h (Step.refl _ _) hR hE rfl hn⟩
    apply List.eq_nil_iff_forall_not_mem.2
    intro i hi
    unfold Region.ready at hi
    simp only [List.mem_filter, List.mem_range, Bool.and_eq_true, Bool.not_eq_true'] at hi
    exact absurd ((hL i).2 ⟨hi.1, hi.2.1⟩) (by simp)
  | succ fuel ih =>
    intro listed L hls hL hpw hdown hlen ρ σ γ a w h hR hE hn hQ
    simp only [wpAny]
    refine ⟨fun hready => ?_, fun i hi => ?_⟩
    · -- nothing is ready: nothing is left
      cases L with
      | nil => exact hQ ρ σ γ a w h (Step.refl _ _) hR hE rfl hn
      | cons i L =>
        exfalso
        have hi := (hL i).1 (by simp)
        have hmem : i ∈ Region.ready .any ops listed := by
          unfold Region.ready
          simp only [List.mem_filter, List.mem_range, Bool.and_eq_true, Bool.not_eq_true']
          refine ⟨hi.1, hi.2, ?_⟩
          have ho : ops[i]? = some ops[i] := Array.getElem?_eq_getElem hi.1
          rw [ho]
          simp only [Option.map_some, Option.getD_some]
          rw [Array.all_eq_true_iff_forall_mem]
          intro e he
          by_cases hb : Region.binds .any e = true
          · have hb2 := List.all_eq_true.1 hback i (by simpa using hi.1)
            rw [ho] at hb2
            simp only at hb2
            have hb3 := List.all_eq_true.1 hb2 e (by simpa using he)
            simp only [hb, Bool.not_true, Bool.false_or, decide_eq_true_eq] at hb3
            -- what stands ahead of the least one that is left is listed
            have : listed.getD e.on false = true := by
              rcases hl : listed.getD e.on false with _ | _
              · have hsz : e.on < listed.size := by omega
                have hf : listed.getD e.on true = false := by
                  simp only [Array.getD_eq_getD_getElem?, Array.getElem?_eq_getElem hsz, Option.getD_some] at hl ⊢
                  exact hl
                have hin := (hL e.on).2 ⟨by omega, hf⟩
                rcases List.mem_cons.1 hin with h1 | h1
                · omega
                · have := (List.pairwise_cons.1 hpw).1 e.on h1
                  omega
              · rfl
            simp [this]
          · simp [hb]
        rw [hready] at hmem
        simp at hmem
    · -- one that is ready goes ahead of all that are left
      unfold Region.ready at hi
      simp only [List.mem_filter, List.mem_range, Bool.and_eq_true, Bool.not_eq_true'] at hi
      obtain ⟨hi1, hi2, hi3⟩ := hi
      have hin := (hL i).2 ⟨hi1, hi2⟩
      obtain ⟨pre, post, rfl⟩ := List.append_of_mem hin
      have ho : ops[i]? = some ops[i] := Array.getElem?_eq_getElem hi1
      rw [ho] at hi3
      simp only [Option.map_some, Option.getD_some, Array.all_eq_true_iff_forall_mem] at hi3
      have hdeps : ∀ (o : Oper), ops[i]? = some o → ∀ e ∈ o.after, Region.binds .any e = true → listed.getD e.on false = true := by
        intro o ho' e he hb
        rw [ho] at ho'; cases ho'
        have := hi3 e he
        simpa [hb] using this
      have hfree : ∀ x ∈ pre, free2 ops need x i = true := by
        intro x hx
        have hxi : x < i := by
          have := List.pairwise_append.1 hpw
          exact this.2.2 x hx i (by simp)
        have hok1 := List.all_eq_true.1 hok i (by simpa using hi1)
        have hok2 := List.all_eq_true.1 hok1 x (by simpa using hxi)
        simp only [Bool.or_eq_true] at hok2
        rcases hok2 with h1 | h1
        · exfalso
          have := closB_spec (L := fun i => listed.getD i false) hdown ops.toList [] (fun j => by simp) (by simp) i x hdeps h1
          have hx2 := ((hL x).1 (by simp [hx]))
          have hsz : x < listed.size := by omega
          simp only [Array.getD_eq_getD_getElem?, Array.getElem?_eq_getElem hsz, Option.getD_some] at this hx2
          rw [this] at hx2
          simp at hx2
        · exact h1
      have hb := bubble (C := C) (K := K) (post := post) pre hfree ρ σ h
      simp only [runOps, ho] at hb
      have hsizei : i < listed.size := by omega
      refine step_ok ho (fun x hx => by rw [hn]; exact hdst _ (Array.getElem_mem hi1) x hx) hR hE hb fun ρ' σ' γ' a' w' hK hst hR' hE' hdf hsz => ?_
      refine ih (listed.setIfInBounds i true) (pre ++ post) (by simpa using hls) (fun j => ?_) ?_ ?_ (by simp at hlen ⊢; omega) ρ' σ' γ' a' w' hK hR' hE' (hsz.trans hn) ?_
      · have hj := hL j
        simp only [List.mem_append, List.mem_cons, Array.getD_eq_getD_getElem?, Array.getElem?_setIfInBounds] at hj ⊢
        by_cases hji : i = j
        · subst hji
          simp only [if_true, hsizei, Option.getD_some]
          constructor
          · intro hm
            exfalso
            have hp := List.pairwise_append.1 hpw
            rcases hm with hm | hm
            · have := hp.2.2 i hm i (by simp); omega
            · have := (List.pairwise_cons.1 hp.2.1).1 i hm; omega
          · rintro ⟨_, hf⟩; simp at hf
        · rw [if_neg hji]
          constructor
          · intro hm
            exact hj.1 (by rcases hm with hm | hm; exact .inl hm; exact .inr (.inr hm))
          · intro hm
            rcases hj.2 hm with h1 | h1 | h1
            · exact .inl h1
            · exact absurd h1.symm hji
            · exact .inr h1
      · have hp := List.pairwise_append.1 hpw
        exact List.pairwise_append.2 ⟨hp.1, (List.pairwise_cons.1 hp.2.1).2, fun x hx y hy => hp.2.2 x hx y (by simp [hy])⟩
      · intro j o hj hlj e he hbd
        simp only [Array.getD_eq_getD_getElem?, Array.getElem?_setIfInBounds] at hlj ⊢
        by_cases hji : i = j
        · subst hji
          have := hdeps o hj e he hbd
          simp only [Array.getD_eq_getD_getElem?] at this
          by_cases hie : i = e.on
          · simp [← hie, hsizei]
          · rw [if_neg hie]; exact this
        · rw [if_neg hji] at hlj
          have := hdown j o hj (by simpa [Array.getD_eq_getD_getElem?] using hlj) e he hbd
          simp only [Array.getD_eq_getD_getElem?] at this
          by_cases hie : i = e.on
          · simp [← hie, hsizei]
          · rw [if_neg hie]; exact this
      · intro ρ'' σ'' γ'' a'' w'' k1 k2 k3 k4 k5 k6
        exact hQ ρ'' σ'' γ'' a'' w'' k1 (hst.trans k2) k3 k4 (k5.trans hdf) k6
end Am
end Go.Proofs.Ytkffgmpbhahioaa
