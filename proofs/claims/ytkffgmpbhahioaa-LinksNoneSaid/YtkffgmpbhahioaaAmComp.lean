/- THE ABSTRACT MACHINE, part 16: regions and code: what the abstract machine's code says holds of the model's run. -/
import Derived.Test.YtkffgmpbhahioaaAmSound
import Derived.Deep.LoopGhost
namespace Go.Proofs.Ytkffgmpbhahioaa
namespace Am

/-! A list of operations: what must hold ahead of it. -/
def AOp.isCall : AOp → Bool
  | .call _ _ => true
  | _ => false
def needOk (n : Nd) (H : Hist) (σ σ' : Store) : Prop := match n with
  | .no => True
  | .same => σ' = σ
  | .rd => False
  | .ef => H.rds σ'
def needNext (n : Nd) (H : Hist) (σ : Store) : Hist := match n with
  | .ef => ⟨fun s => H.pre s ∨ s = σ, H.rds⟩
  | _ => H
def callW (C : Ctx) (K : Hist → Env → Store → Prop) (H : Hist) (ρ : Env) (d : Option Nat) (need : Nd) (σ : Store) (f : AV) (xs : List AV) : Prop :=
  match f with
  | .fn fid caps => (∃ v σ', ACallsTo C fid (xs ++ caps) σ v σ' ∧ needOk need H σ σ' ∧ K (needNext need H σ) (putE ρ d v) σ') ∨
      ((need = .no ∨ need = .ef) ∧ ∃ P : AV → Store → Prop, ACallsP C fid (xs ++ caps) σ P ∧ (∃ v σ', P v σ') ∧ ∀ v σ', P v σ' → needOk need H σ σ' ∧ K (needNext need H σ) (putE ρ d v) σ')
  | _ => False
def contW (K : Env → Store → Prop) (σ : Store) : Bool → Option (Env × Store) → Prop
  | false, some r => K r.1 r.2
  | true, some r => r.2 = σ ∧ K r.1 r.2
  | _, none => False
def insRun (i : AIns) (ρ : Env) (σ : Store) : Option (Env × Store) :=
  match guardV ρ i.guard with
  | some true => (i.op.run ρ σ).map fun r => (putE ρ i.dst r.1, r.2)
  | some false => some (putE ρ i.dst .undef, σ)
  | none => none
def rdC (K : Hist → Env → Store → Prop) (H : Hist) (d : Option Nat) (op : AOp) (ρ : Env) (σ : Store) : Option (AV × Store) → Prop
  | some r => r.2 = σ ∧ (∀ h, H.pre h → op.run ρ h = some (r.1, h)) ∧ K ⟨H.pre, fun s => H.rds s ∧ op.run ρ s = some (r.1, s)⟩ (putE ρ d r.1) σ
  | none => False
def rdW (K : Hist → Env → Store → Prop) (H : Hist) (d : Option Nat) (op : AOp) (ρ : Env) (σ : Store) : Option Bool → Prop
  | some true => rdC K H d op ρ σ (op.run ρ σ)
  | some false => K H (putE ρ d .undef) σ
  | none => False
def efC (K : Hist → Env → Store → Prop) (H : Hist) (d : Option Nat) (ρ : Env) (σ : Store) : Option (AV × Store) → Prop
  | some r => H.rds r.2 ∧ K ⟨fun s => H.pre s ∨ s = σ, H.rds⟩ (putE ρ d r.1) r.2
  | none => False
def efW (K : Hist → Env → Store → Prop) (H : Hist) (d : Option Nat) (op : AOp) (ρ : Env) (σ : Store) : Option Bool → Prop
  | some true => efC K H d ρ σ (op.run ρ σ)
  | some false => K H (putE ρ d .undef) σ
  | none => False
def stepW (K : Hist → Env → Store → Prop) (H : Hist) (i : AIns) (ρ : Env) (σ : Store) : Prop :=
  match i.need with
  | .no => contW (K H) σ false (insRun i ρ σ)
  | .same => contW (K H) σ true (insRun i ρ σ)
  | .rd => rdW K H i.dst i.op ρ σ (guardV ρ i.guard)
  | .ef => efW K H i.dst i.op ρ σ (guardV ρ i.guard)
def callG (C : Ctx) (K : Hist → Env → Store → Prop) (H : Hist) (ρ : Env) (σ : Store) (d : Option Nat) (need : Nd) (f : AX) (xs : List AX) : Option Bool → Prop
  | some true => callW C K H ρ d need σ (f.ev ρ) (xs.map (AX.ev ρ))
  | some false => K H (putE ρ d .undef) σ
  | none => False
def opsWp (C : Ctx) (K : Env → Store → Prop) : List AIns → Hist → Env → Store → Prop
  | [], _, ρ, σ => K ρ σ
  | i :: l, H, ρ, σ => match i.op with
    | .call f xs => callG C (opsWp C K l) H ρ σ i.dst i.need f xs (guardV ρ i.guard)
    | _ => stepW (opsWp C K l) H i ρ σ
theorem opsWp_nil {C : Ctx} {K : Env → Store → Prop} {H : Hist} {ρ : Env} {σ : Store} : opsWp C K [] H ρ σ = K ρ σ := rfl
theorem opsWp_run {C : Ctx} {K : Env → Store → Prop} {H : Hist} {ρ : Env} {σ : Store} {d : Option Nat} {g : Option (Nat × Bool)} {n : Nd} {op : AOp} {l : List AIns} (h : op.isCall = false) :
    opsWp C K (⟨d, g, n, op⟩ :: l) H ρ σ = stepW (opsWp C K l) H ⟨d, g, n, op⟩ ρ σ := by
  cases op <;> first | rfl | simp [AOp.isCall] at h
theorem opsWp_call {C : Ctx} {K : Env → Store → Prop} {H : Hist} {ρ : Env} {σ : Store} {d : Option Nat} {g : Option (Nat × Bool)} {n : Nd} {f : AX} {xs : List AX} {l : List AIns} :
    opsWp C K (⟨d, g, n, .call f xs⟩ :: l) H ρ σ = callG C (opsWp C K l) H ρ σ d n f xs (guardV ρ g) := rfl
section
variable {C : Ctx} {K : Hist → Env → Store → Prop} {H : Hist} {ρ : Env} {d : Option Nat} {σ σ' : Store} {fid : FuncId} {caps xs : List AV} {v : AV}
theorem callW.mk (h : ACallsTo C fid (xs ++ caps) σ v σ') (hk : K H (putE ρ d v) σ') : callW C K H ρ d .no σ (.fn fid caps) xs := .inl ⟨v, σ', h, trivial, hk⟩
theorem callW.mk_pure (h : ACallsTo C fid (xs ++ caps) σ v σ) (hk : K H (putE ρ d v) σ) : callW C K H ρ d .no σ (.fn fid caps) xs := .inl ⟨v, σ, h, trivial, hk⟩
theorem callW.mk_same (h : ACallsTo C fid (xs ++ caps) σ v σ) (hk : K H (putE ρ d v) σ) : callW C K H ρ d .same σ (.fn fid caps) xs := .inl ⟨v, σ, h, rfl, hk⟩
theorem callW.mk_ef (h : ACallsTo C fid (xs ++ caps) σ v σ') (hr : H.rds σ') (hk : K ⟨fun s => H.pre s ∨ s = σ, H.rds⟩ (putE ρ d v) σ') : callW C K H ρ d .ef σ (.fn fid caps) xs := .inl ⟨v, σ', h, hr, hk⟩
theorem callW.mkP {P : AV → Store → Prop} (h : ACallsP C fid (xs ++ caps) σ P) (hne : ∃ v σ', P v σ') (hk : ∀ v σ', P v σ' → K H (putE ρ d v) σ') : callW C K H ρ d .no σ (.fn fid caps) xs :=
  .inr ⟨.inl rfl, P, h, hne, fun v σ' hp => ⟨trivial, hk v σ' hp⟩⟩
theorem callW.mkP_ef {P : AV → Store → Prop} (h : ACallsP C fid (xs ++ caps) σ P) (hne : ∃ v σ', P v σ') (hk : ∀ v σ', P v σ' → H.rds σ' ∧ K ⟨fun s => H.pre s ∨ s = σ, H.rds⟩ (putE ρ d v) σ') :
    callW C K H ρ d .ef σ (.fn fid caps) xs := .inr ⟨.inr rfl, P, h, hne, hk⟩
end

/-- A call of a Go function value, and what is no such call. -/
theorem cOp_call {C : Ctx} {op : Op} {f : AX} {xs : List AX} (h : cOp C op = some (.call f xs)) : ∃ fo args, callOf op = some (fo, args) ∧ cX C fo = some f ∧ cXs C args.toList = some xs := by
  cases op
  case call c =>
    obtain ⟨callee, cargs, ats⟩ := c
    cases callee
    case value => 
      simp only [cOp, Option.bind_eq_some_iff, Option.map_eq_some_iff, AOp.call.injEq] at h
      obtain ⟨f', hf, xs', hxs, rfl, rfl⟩ := h
      exact ⟨_, _, rfl, hf, hxs⟩
    case invoke => simp [cOp] at h
    case builtin b =>
      simp only [cOp, Option.bind_eq_some_iff] at h
      obtain ⟨ys, hys, h⟩ := h
      exfalso
      split at h
      · split at h <;> (try split at h) <;> simp at h
      · simp only [Option.bind_eq_some_iff] at h
        obtain ⟨e, he, sz, hsz, by_, hby, z, hz, zc, hzc, h⟩ := h
        split at h <;> simp at h
      · simp [Option.bind_eq_some_iff] at h
      · simp [Option.bind_eq_some_iff] at h
      · simp at h
      · simp at h
      · cases h
  case makeFunc fn first captured =>
    cases fn <;> simp only [cOp, reduceCtorEq] at h
    split at h <;> simp at h
  case build t ps =>
    simp only [cOp, Option.bind_eq_some_iff] at h
    obtain ⟨z, hz, zc, hzc, h⟩ := h
    exfalso
    split at h <;> simp [Option.bind_eq_some_iff] at h
  case buildSlice t n ps =>
    simp only [cOp, Option.bind_eq_some_iff] at h
    obtain ⟨e, he, sz, hsz, z, hz, h⟩ := h
    exfalso
    split at h <;> simp at h
  case convert s d x =>
    simp only [cOp, Option.bind_eq_some_iff] at h
    obtain ⟨a, ha, h⟩ := h
    exfalso
    split at h
    · simp at h
    · split at h
      · split at h
        · simp at h
        · split at h <;> simp at h
      · split at h <;> simp at h
  case makeSlice t l c =>
    simp only [cOp, Option.bind_eq_some_iff] at h
    obtain ⟨e, he, sz, hsz, by_, hby, z, hz, zc, hzc, l', hl, c', hc, h⟩ := h
    exfalso
    split at h <;> simp at h
  case slice t x lo hi mx =>
    simp only [cOp, Option.bind_eq_some_iff] at h
    obtain ⟨x', hx, lo', hlo, hi', hhi, mx', hmx, h⟩ := h
    exfalso
    split at h
    · simp at h
    · split at h <;> simp [Option.bind_eq_some_iff] at h
  case indexAddr t x i =>
    simp only [cOp, Option.bind_eq_some_iff] at h
    obtain ⟨x', hx, i', hi, h⟩ := h
    exfalso
    split at h <;> simp [Option.bind_eq_some_iff] at h
  case index t x i =>
    simp only [cOp, Option.bind_eq_some_iff] at h
    obtain ⟨x', hx, i', hi, h⟩ := h
    exfalso
    split at h <;> simp [Option.bind_eq_some_iff] at h
  all_goals simp [cOp, Option.bind_eq_some_iff, Option.map_eq_some_iff] at h

/-! Operations of a region. -/
def cGuard (ops : Array Oper) : Option (Nat × Bool) → Option (Option (Nat × Bool))
  | none => some none
  | some g => match (ops[g.1]?).bind (·.dst) with
    | some d => some (some (d, g.2))
    | none => none
theorem cGuard_ok {ops : Array Oper} {o : Oper} {g : Option (Nat × Bool)} (h : cGuard ops o.guard = some g) (ρ : Env) : wantedA ops ρ o = guardV ρ g := by
  unfold wantedA
  cases hg : o.guard with
  | none => rw [hg] at h; simp only [cGuard, Option.some.injEq] at h; subst h; rfl
  | some k =>
    rw [hg] at h
    simp only [cGuard] at h
    split at h
    · rename_i d hd
      simp only [Option.some.injEq] at h; subst h
      simp only [hd, guardV]
      rfl
    · cases h
def cIns (C : Ctx) (ops : Array Oper) (need : Nd) (o : Oper) : Option AIns :=
  (cGuard ops o.guard).bind fun g => (cOp C o.op).map fun a => ⟨o.dst, g, need, a⟩
/-- What the abstract machine has seen, against what the operations have. -/
def HR (H H' : Hist) : Prop := H'.pre = H.pre ∧ ∀ s, H.rds s → H'.rds s
theorem cIns_ok {C : Ctx} {ops : Array Oper} {need : Nd} {o : Oper} {i : AIns} (h : cIns C ops need o = some i) {l : List AIns} {K : Env → Store → Prop} {K' : Hist → Env → Store → Prop} (hK : ∀ H H' ρ σ, HR H H' → opsWp C K l H ρ σ → K' H' ρ σ)
    {H H' : Hist} (hH : HR H H') {ρ : Env} {σ : Store} (hw : opsWp C K (i :: l) H ρ σ) : stepK C ops need o K' H' ρ σ := by
  simp only [cIns, Option.bind_eq_some_iff, Option.map_eq_some_iff] at h
  obtain ⟨g, hg, a, ha, rfl⟩ := h
  unfold stepK
  rw [cGuard_ok hg]
  have nocall : a.isCall = false → (match guardV ρ g with | some true => (∃ v σ', OpTo C (ev C ρ) σ o.op v σ' ∧ need.ok C (ev C ρ) o.op v H' σ σ' ∧ K' (need.next C (ev C ρ) o.op v H' σ) (putE ρ o.dst v) σ') ∨ ((need = .no ∨ need = .ef) ∧ callK C need o K' H' ρ σ) | some false => K' H' (putE ρ o.dst .undef) σ | none => False) := by
    intro hc
    rw [opsWp_run hc] at hw
    have to : ∀ {s : Store} {r : AV × Store}, a.run ρ s = some r → OpTo C (ev C ρ) s o.op r.1 r.2 := by
      intro s r hr
      obtain ⟨h1, h2⟩ := cOp_run ha hr
      unfold OpTo; rw [h1]; exact h2
    cases need
    · -- nothing owed
      simp only [stepW, insRun] at hw
      cases hgv : guardV ρ g with
      | none => rw [hgv] at hw; exact hw.elim
      | some b =>
        rw [hgv] at hw
        cases b with
        | false => exact hK _ _ _ _ hH hw
        | true =>
          simp only at hw ⊢
          cases hr : a.run ρ σ with
          | none => rw [hr] at hw; exact hw.elim
          | some r => rw [hr] at hw; exact .inl ⟨r.1, r.2, to hr, trivial, hK _ _ _ _ hH hw⟩
    · simp only [stepW, insRun] at hw
      cases hgv : guardV ρ g with
      | none => rw [hgv] at hw; exact hw.elim
      | some b =>
        rw [hgv] at hw
        cases b with
        | false => exact hK _ _ _ _ hH hw.2
        | true =>
          simp only at hw ⊢
          cases hr : a.run ρ σ with
          | none => rw [hr] at hw; exact hw.elim
          | some r => rw [hr] at hw; exact .inl ⟨r.1, r.2, to hr, hw.1, hK _ _ _ _ hH hw.2⟩
    · simp only [stepW] at hw
      cases hgv : guardV ρ g with
      | none => rw [hgv] at hw; exact hw.elim
      | some b =>
        rw [hgv] at hw
        cases b with
        | false => exact hK _ _ _ _ hH hw
        | true =>
          simp only [rdW] at hw ⊢
          cases hr : a.run ρ σ with
          | none => rw [hr] at hw; exact hw.elim
          | some r =>
            rw [hr] at hw
            obtain ⟨k1, k2, k3⟩ := hw
            obtain ⟨v, s⟩ := r
            simp only at k1 k2 k3
            subst k1
            refine .inl ⟨v, s, to hr, ⟨rfl, fun h hh => to (k2 h (by rw [← hH.1]; exact hh))⟩, hK ⟨H.pre, fun t => H.rds t ∧ a.run ρ t = some (v, t)⟩ _ _ _ ⟨hH.1, fun t ht => ⟨hH.2 t ht.1, to ht.2⟩⟩ k3⟩
    · simp only [stepW] at hw
      cases hgv : guardV ρ g with
      | none => rw [hgv] at hw; exact hw.elim
      | some b =>
        rw [hgv] at hw
        cases b with
        | false => exact hK _ _ _ _ hH hw
        | true =>
          simp only [efW] at hw ⊢
          cases hr : a.run ρ σ with
          | none => rw [hr] at hw; exact hw.elim
          | some r =>
            rw [hr] at hw
            exact .inl ⟨r.1, r.2, to hr, hH.2 _ hw.1, hK ⟨fun s => H.pre s ∨ s = σ, H.rds⟩ _ _ _ ⟨by simp only [Nd.next]; rw [hH.1], hH.2⟩ hw.2⟩
  cases a
  case call f xs =>
    obtain ⟨fo, args, h1, h2, h3⟩ := cOp_call ha
    rw [opsWp_call] at hw
    cases hgv : guardV ρ g with
    | none => rw [hgv] at hw; exact hw.elim
    | some b =>
      rw [hgv] at hw
      cases b with
      | false => exact hK _ _ _ _ hH hw
      | true =>
        simp only [callG, callW, cX_ok h2] at hw ⊢
        split at hw
        · rename_i fid caps hf
          have okn : ∀ {v : AV} {σ' : Store}, needOk need H σ σ' → need.ok C (ev C ρ) o.op v H' σ σ' := by
            intro v σ' hn
            cases need <;> simp only [needOk, Nd.ok] at hn ⊢
            · exact hn
            · exact hH.2 _ hn
          have nxt : ∀ {v : AV}, need ≠ .rd → HR (needNext need H σ) (need.next C (ev C ρ) o.op v H' σ) := by
            intro v hn
            cases need <;> simp only [needNext, Nd.next]
            · exact hH
            · exact hH
            · exact absurd rfl hn
            · exact ⟨by rw [hH.1], hH.2⟩
          rcases hw with ⟨v, σ', h4, h5, h6⟩ | ⟨h0, P, h4, hne, h6⟩
          · have hn : need ≠ .rd := by rintro rfl; exact h5
            refine .inl ⟨v, σ', ?_, okn h5, hK _ _ _ _ (nxt hn) h6⟩
            unfold OpTo
            rw [h1]
            refine ⟨fid, caps, hf, ?_⟩
            rw [← cXs_ok h3]; exact h4
          · have hn : need ≠ .rd := by rintro rfl; rcases h0 with h0 | h0 <;> cases h0
            refine .inr ⟨h0, P, ⟨_, h1, fid, caps, hf, ?_⟩, hne, fun v σ' hp => ⟨okn (h6 v σ' hp).1, hK _ _ _ _ (nxt hn) (h6 v σ' hp).2⟩⟩
            rw [← cXs_ok h3]; exact h4
        · exact hw.elim
  all_goals exact nocall rfl
def cOps (C : Ctx) (ops : Array Oper) (need : Nat → Nd) : List Oper → Nat → Option (List AIns)
  | [], _ => some []
  | o :: l, i => (cIns C ops (need i) o).bind fun a => (cOps C ops need l (i + 1)).map (a :: ·)
theorem cOps_ok {C : Ctx} {ops : Array Oper} {need : Nat → Nd} {K : Env → Store → Prop} : ∀ (l : List Oper) (i : Nat) (as : List AIns), (∀ j, l[j]? = ops[i + j]?) → cOps C ops need l i = some as →
    ∀ H H' ρ σ, HR H H' → opsWp C K as H ρ σ → runOps C ops need K (List.range' i l.length) H' ρ σ
  | [], i, as, _, h, H, H', ρ, σ, hH, hw => by simp only [cOps, Option.some.injEq] at h; subst h; exact hw
  | o :: l, i, as, hl, h, H, H', ρ, σ, hH, hw => by
    simp only [cOps, Option.bind_eq_some_iff, Option.map_eq_some_iff] at h
    obtain ⟨a, ha, as', has, rfl⟩ := h
    have h0 : ops[i]? = some o := by have := hl 0; simpa using this.symm
    simp only [List.length_cons, List.range'_succ, runOps, h0]
    refine cIns_ok ha (l := as') (K := K) (fun H H' ρ σ hH hk => ?_) hH hw
    refine cOps_ok l (i + 1) as' (fun j => ?_) has H H' ρ σ hH hk
    have := hl (j + 1)
    simp only [List.getElem?_cons_succ] at this
    rw [this]; congr 1; omega

/-- In a region whose order is drawn: who has a partner in no order, where neither leaves the store alone by itself. -/
def needL (C : Ctx) (ops : Array Oper) : List Nd :=
  let cl := closB [] ops.toList
  let mate (i j : Nat) : Bool := match ops[j]? with
    | some p => !(j == i) && !opN C p.op && !ahead_ cl j i && !ahead_ cl i j
    | none => false
  let rdr (j : Nat) : Bool := match ops[j]? with | some p => opR p.op | none => false
  (List.range ops.size).map fun i => match ops[i]? with
    | some o => if opN C o.op then .no else
        let l := (List.range ops.size).filter (mate i)
        if l.isEmpty then .no else if opR o.op then .rd else if l.all rdr then .ef else .same
    | none => .no
def dstsLt (n : Nat) (ops : Array Oper) : Bool := ops.all fun o => match o.dst with | some d => decide (d < n) | none => true
theorem dstsLt_ok {n : Nat} {ops : Array Oper} (h : dstsLt n ops = true) : ∀ o ∈ ops, ∀ d, o.dst = some d → d < n := by
  intro o ho d hd
  unfold dstsLt at h
  rw [Array.all_eq_true_iff_forall_mem] at h
  have := h o ho
  rw [hd] at this
  simpa using this

theorem ops_ok {C : Ctx} {ops : Array Oper} {need : Nat → Nd} {K : Env → Store → Prop} {Q : Exit → Act → World → Prop} {n : Nat} (hdst : ∀ o ∈ ops, ∀ d, o.dst = some d → d < n) :
    ∀ (L : List Nat) (H : Hist) (ρ : Env) (σ : Store) (γ : Places) (a : Act) (w : World), runOps C ops need K L H ρ σ → Rel C γ σ w → EnvR γ w ρ a.tmps → a.tmps.size = n →
      (∀ ρ' σ' γ' a' w', K ρ' σ' → Step γ w γ' w' → Rel C γ' σ' w' → EnvR γ' w' ρ' a'.tmps → a'.defers = a.defers → a'.tmps.size = n → Q .normal a' w') → wpOps C.P ops Q L a w
  | [], _, ρ, σ, γ, a, w, h, hR, hE, hn, hQ => hQ ρ σ γ a w h (Step.refl _ _) hR hE rfl hn
  | i :: L, H, ρ, σ, γ, a, w, h, hR, hE, hn, hQ => by
    rw [wpOps_cons]
    simp only [runOps] at h
    cases ho : ops[i]? with
    | none => rw [ho] at h; exact h.elim
    | some o =>
      rw [ho] at h
      have hmem : o ∈ ops := by
        obtain ⟨hi, rfl⟩ := Array.getElem?_eq_some_iff.1 ho
        exact Array.getElem_mem hi
      refine step_ok ho (fun x hx => by rw [hn]; exact hdst o hmem x hx) hR hE h fun H' ρ' σ' γ' a' w' hK hst hR' hE' hdf hsz => ?_
      refine ops_ok hdst L H' ρ' σ' γ' a' w' hK hR' hE' (hsz.trans hn) fun ρ2 σ2 γ2 a2 w2 k1 k2 k3 k4 k5 k6 => ?_
      exact hQ ρ2 σ2 γ2 a2 w2 k1 (hst.trans k2) k3 k4 (k5.trans hdf) k6

/-! Code. -/
def cCode (C : Ctx) (n : Nat) : Code → Option ACode
  | .skip => some .skip
  | .region _ ops draw => if dstsLt n ops = true then
      (match draw with
       | true => let nd := needL C ops
         if C.P.follows .mixedOrders = true ∧ okDraw C ops (fun i => nd.getD i .no) = true ∧ edgesBack ops = true then (cOps C ops (fun i => nd.getD i .no) ops.toList 0).map .reg else none
       | false => (cOps C ops (fun _ => .no) ops.toList 0).map .reg) else none
  | .seq a b => (cCode C n a).bind fun a => (cCode C n b).map fun b => .seq a b
  | .cond c a b => (cX C c).bind fun c => (cCode C n a).bind fun a => (cCode C n b).map fun b => .cond c a b
  | .block id a => (cCode C n a).map fun a => .block id a
  | .loop a => (cCode C n a).map .loop
  | .exit id => some (.exit id)
  | .label _ => some .skip
  | .ret => some .ret
  | _ => none
def AExit.out : AExit → Exit
  | .normal => .normal
  | .exit id => .exit id
  | .ret => .ret

end Am
end Go.Proofs.Ytkffgmpbhahioaa
