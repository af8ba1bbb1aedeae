/- THE ABSTRACT MACHINE, part 19: a Go function's contract from its code. -/
import Derived.Test.YtkffgmpbhahioaaAmRules
namespace Go.Proofs.Ytkffgmpbhahioaa
namespace Am

/-- What is returned: a slot's value, or what lies where a slot points to. -/
inductive RV where
  | t (n : Nat)
  | c (a : Nat) (ag : Bool) (n : Nat)
def RV.val (ρ : Env) (σ : Store) : RV → AV
  | .t n => ρ n
  | .c a ag n => (rLoad ag n σ (ρ a)).getD .any
def RV.ok (ρ : Env) (σ : Store) : RV → Bool
  | .t _ => true
  | .c a ag n => (rLoad ag n σ (ρ a)).isSome
def oks (ρ : Env) (σ : Store) : List RV → Bool
  | [] => true
  | x :: l => x.ok ρ σ && oks ρ σ l
def resTs (C : Ctx) : List ResultVar → Option (List RV)
  | [] => some []
  | .tmp t :: l => (resTs C l).map (.t t :: ·)
  | .cell a t :: l => (tyAgg C t).bind fun ag => (tySize C t).bind fun n => (resTs C l).map (.c a ag n :: ·)
def retV (ts : List RV) (ρ : Env) (σ : Store) : AV := match ts with
  | [t] => t.val ρ σ
  | ts => .tup (ts.map (RV.val ρ σ))
def initE (args : List AV) : Env := fun t => args.getD t .undef
/-- A Go function, turned: how many slots, which are returned, its code. -/
def cFn (C : Ctx) (f : FuncId) : Option (Nat × List RV × ACode) :=
  (C.P.funcs[f]?).bind fun fn => if (fn.name == "runtime.NumGoroutine") = true then none else fn.body.bind fun c => (resTs C fn.results.toList).bind fun ts => (cCode C fn.ntmps c).map fun ac => (fn.ntmps, ts, ac)
def endQ (k : Nat) (ts : List RV) (v : AV) (σ' : Store) : AExit → Env → Store → Prop
  | .exit _ => fun _ _ => False
  | _ => fun ρ σ => oks ρ σ ts = true ∧ DownV k (retV ts ρ σ) σ v σ'

theorem run_mapM_res {C : Ctx} {γ : Places} {σ : Store} {w : World} {ρ : Env} {tmps : Array Value} (hR : Rel C γ σ w) (hE : EnvR γ w ρ tmps) (g : ResultVar → Sem Value) (hg : ∀ t, g (.tmp t) = pure (tmps.getD t undef))
    (hg2 : ∀ a t, g (.cell a t) = do loadVar t (← asAddr (tmps.getD a undef))) : ∀ (l : List ResultVar) (ts : List RV), resTs C l = some ts → oks ρ σ ts = true →
    ∃ vs, (l.mapM (m := Sem) g).run C.P w = .ok vs w ∧ VRt γ w (ts.map (RV.val ρ σ)) vs
  | [], ts, h, _ => by simp only [resTs, Option.some.injEq] at h; subst h; exact ⟨[], by simp, VRt.nil⟩
  | .tmp t :: l, ts, h, hk => by
    simp only [resTs, Option.map_eq_some_iff] at h
    obtain ⟨ts', h1, rfl⟩ := h
    simp only [oks, Bool.and_eq_true] at hk
    obtain ⟨vs, k1, k2⟩ := run_mapM_res hR hE g hg hg2 l ts' h1 hk.2
    exact ⟨tmps.getD t undef :: vs, by simp only [List.mapM_cons, Sem.run_bind, hg, Sem.run_pure, Result.andThen_ok, k1], VRt.cons (hE t) k2⟩
  | .cell a t :: l, ts, h, hk => by
    simp only [resTs, Option.bind_eq_some_iff, Option.map_eq_some_iff] at h
    obtain ⟨ag, hag, n, hn, ts', h1, rfl⟩ := h
    simp only [oks, Bool.and_eq_true, RV.ok] at hk
    obtain ⟨vs, k1, k2⟩ := run_mapM_res hR hE g hg hg2 l ts' h1 hk.2
    obtain ⟨x, hx⟩ := Option.isSome_iff_exists.1 hk.1
    have hp := hE a
    have hx' : aLoad C σ t (ρ a) = some x := by
      rw [← hx]
      generalize ρ a = p
      cases p <;> simp only [aLoad, rLoad, hag, hn, Option.bind_some]
      rfl
    obtain ⟨v, q1, q2⟩ := load_ok hR hp hx'
    have hc : (do loadVar t (← asAddr (tmps.getD a undef)) : Sem Value).run C.P w = .ok v w := by
      rw [← q1]
      generalize ρ a = p at *
      generalize tmps.getD a undef = cp at *
      cases p <;> simp only [rLoad, reduceCtorEq] at hx
      · simp only [VR] at hp
        obtain ⟨_, pl, _, rfl⟩ := hp
        simp [Instr.loadAt, Instr.sureAddr, asAddr]
      · simp only [VR] at hp
        obtain ⟨b, o, vals, rfl, _⟩ := hp
        simp [Instr.loadAt, Instr.sureAddr, asAddr]
    refine ⟨v :: vs, ?_, VRt.cons ?_ k2⟩
    · simp only [List.mapM_cons, Sem.run_bind, hg2]
      simp only [Sem.run_bind] at hc
      rw [hc]
      simp only [Sem.run_pure, Result.andThen_ok, k1]
    · simp only [RV.val, hx, Option.getD_some]; exact q2
theorem run_results_ok {C : Ctx} {γ : Places} {σ : Store} {w : World} {ρ : Env} {fn : Func} {tmps : Array Value} {ts : List RV} (hR : Rel C γ σ w) (hE : EnvR γ w ρ tmps) (h : resTs C fn.results.toList = some ts) (hk : oks ρ σ ts = true) :
    ∃ cv, (results fn tmps).run C.P w = .ok cv w ∧ VR γ w (retV ts ρ σ) cv := by
  unfold results
  rw [Array.mapM_eq_mapM_toList]
  obtain ⟨vs, h1, h2⟩ := run_mapM_res hR hE (fun | .tmp t => pure (tmps.getD t undef) | .cell a t => do loadVar t (← asAddr (tmps.getD a undef))) (fun t => rfl) (fun a t => rfl) _ _ h hk
  simp only [Sem.run_bind, Sem.run_map]
  erw [h1]
  simp only [Result.andThen_ok, Sem.run_pure]
  unfold retV
  have hl := h2.length
  match ts with
  | [t] =>
    simp only [List.map_cons, List.map_nil, VRt] at h2
    obtain ⟨v, _, rfl, h3, rfl⟩ := h2
    exact ⟨v, by simp, h3⟩
  | [] =>
    simp only [List.map_nil, VRt] at h2
    subst h2
    exact ⟨.tuple #[], by simp, by simp only [VR]; exact ⟨[], rfl, by simp [VRt]⟩⟩
  | a :: b :: l =>
    have : ¬ (vs.toArray.size = 1) := by simp at hl ⊢; omega
    exact ⟨.tuple vs.toArray, by simp only [this, dif_neg, not_false_eq_true], by simp only [VR]; exact ⟨vs, rfl, h2⟩⟩

theorem initE_ok {γ : Places} {w : World} {args : List AV} {cargs : List Value} (h : VRt γ w args cargs) (n : Nat) : EnvR γ w (initE args) (cargs.toArray ++ Array.replicate (n - cargs.toArray.size) undef) := by
  intro t
  have hl := h.length
  simp only [initE, Array.getD_eq_getD_getElem?, List.getD_eq_getElem?_getD]
  by_cases ht : t < args.length
  · obtain ⟨v, h1, h2⟩ := h.get (List.getElem?_eq_getElem ht)
    rw [Array.getElem?_append_left (by simp; omega), List.getElem?_toArray, h1, List.getElem?_eq_getElem ht]
    exact h2
  · rw [List.getElem?_eq_none (by omega), Array.getElem?_append_right (by simp; omega)]
    simp only [Option.getD_none, VR, Array.getElem?_replicate]
    split <;> rfl

theorem ACallsTo.of_body {C : Ctx} {f : FuncId} {n : Nat} {ts : List RV} {ac : ACode} (hc : cFn C f = some (n, ts, ac)) {args : List AV} {σ σ' : Store} {v : AV} (hn : args.length ≤ n)
    (h : Wf σ.length σ → RLs σ.length args → SWp C n σ.length ac (endQ σ.length ts v σ') (initE args) σ) : ACallsTo C f args σ v σ' := by
  simp only [cFn, Option.bind_eq_some_iff] at hc
  obtain ⟨fn, hf, hc⟩ := hc
  split at hc
  · cases hc
  · rename_i hname
    simp only [Option.bind_eq_some_iff, Option.map_eq_some_iff, Prod.mk.injEq] at hc
    obtain ⟨c, hb, ts', hts, ac', hac, rfl, rfl, rfl⟩ := hc
    intro γ w cargs hR ha
    left
    constructor
    · have hname' : (fn.name == "runtime.NumGoroutine") = false := by simpa using hname
      have h1 : fn.name ≠ "runtime.NumGoroutine" := by simpa using hname'
      simp [callFunc, hf, h1, hb]
    · have hl := ha.length
      refine calls_of_wp hf hb ?_
      have hw := h hR.wf (by rw [← hR.len]; exact VRt.rl _ _ ha) c hac γ w hR.gl hR.len γ { tmps := cargs.toArray ++ Array.replicate (fn.ntmps - cargs.toArray.size) undef, defers := [] } w (Step.refl _ _) hR
        (initE_ok ha _) (by simp; omega)
      refine wp_mono hw ?_
      rintro e a' w' ⟨ae, ρ', σ2, γ', rfl, hq, q1, q2, q3, q4, q5⟩
      have fin : (oks ρ' σ2 ts' = true ∧ DownV σ.length (retV ts' ρ' σ2) σ2 v σ') → a'.defers = [] ∧ ∃ v_1, (results fn a'.tmps).run C.P w' = .ok v_1 w' ∧ ∃ cv γ', Ending.returned v_1 = .returned cv ∧ Step γ w γ' w' ∧ Rel C γ' σ' w' ∧ VR γ' w' v cv := by
        rintro ⟨hk, hd⟩
        obtain ⟨rv, r1, r2⟩ := run_results_ok q2 q3 hts hk
        obtain ⟨γ2, k1, k2, k3⟩ := hd.sound q2 r2 q1 hR.gl (by rw [hR.len]; exact Nat.le_refl _)
        exact ⟨q4, _, r1, _, γ2, rfl, k1, k2, k3⟩
      cases ae with
      | normal => exact fin hq
      | exit id => exact hq.elim
      | ret => exact fin hq

/-- What holds at a function's end, behind what is let go. -/
def endP (k : Nat) (ts : List RV) (P : AV → Store → Prop) : AExit → Env → Store → Prop
  | .exit _ => fun _ _ => False
  | _ => fun ρ σ => oks ρ σ ts = true ∧ ∃ v σ', P v σ' ∧ DownV k (retV ts ρ σ) σ v σ'
theorem ACallsP.of_body {C : Ctx} {f : FuncId} {n : Nat} {ts : List RV} {ac : ACode} (hc : cFn C f = some (n, ts, ac)) {args : List AV} {σ : Store} {P : AV → Store → Prop} (hn : args.length ≤ n)
    (h : Wf σ.length σ → RLs σ.length args → SWp C n σ.length ac (endP σ.length ts P) (initE args) σ) : ACallsP C f args σ P := by
  simp only [cFn, Option.bind_eq_some_iff] at hc
  obtain ⟨fn, hf, hc⟩ := hc
  split at hc
  · cases hc
  · rename_i hname
    simp only [Option.bind_eq_some_iff, Option.map_eq_some_iff, Prod.mk.injEq] at hc
    obtain ⟨c, hb, ts', hts, ac', hac, rfl, rfl, rfl⟩ := hc
    intro γ w cargs hR ha
    left
    constructor
    · have hname' : (fn.name == "runtime.NumGoroutine") = false := by simpa using hname
      have h1 : fn.name ≠ "runtime.NumGoroutine" := by simpa using hname'
      simp [callFunc, hf, h1, hb]
    · have hl := ha.length
      refine calls_of_wp hf hb ?_
      have hw := h hR.wf (by rw [← hR.len]; exact VRt.rl _ _ ha) c hac γ w hR.gl hR.len γ { tmps := cargs.toArray ++ Array.replicate (fn.ntmps - cargs.toArray.size) undef, defers := [] } w (Step.refl _ _) hR
        (initE_ok ha _) (by simp; omega)
      refine wp_mono hw ?_
      rintro e a' w' ⟨ae, ρ', σ2, γ', rfl, hq, q1, q2, q3, q4, q5⟩
      have fin : (oks ρ' σ2 ts' = true ∧ ∃ v σ', P v σ' ∧ DownV σ.length (retV ts' ρ' σ2) σ2 v σ') → a'.defers = [] ∧ ∃ v_1, (results fn a'.tmps).run C.P w' = .ok v_1 w' ∧ ∃ cv v γ' σ', Ending.returned v_1 = .returned cv ∧ P v σ' ∧ Step γ w γ' w' ∧ Rel C γ' σ' w' ∧ VR γ' w' v cv := by
        rintro ⟨hk, v, σ', hp, hd⟩
        obtain ⟨rv, r1, r2⟩ := run_results_ok q2 q3 hts hk
        obtain ⟨γ2, k1, k2, k3⟩ := hd.sound q2 r2 q1 hR.gl (by rw [hR.len]; exact Nat.le_refl _)
        exact ⟨q4, _, r1, _, v, γ2, σ', rfl, hp, k1, k2, k3⟩
      cases ae with
      | normal => exact fin hq
      | exit id => exact hq.elim
      | ret => exact fin hq
theorem ACallsP.mono {C : Ctx} {f : FuncId} {args : List AV} {σ : Store} {P P' : AV → Store → Prop} (h : ACallsP C f args σ P) (hp : ∀ v σ', P v σ' → P' v σ') : ACallsP C f args σ P' := by
  intro γ w cargs hR ha
  rcases h γ w cargs hR ha with ⟨h1, h2⟩ | ⟨cv, v, γ', σ', w', h1, h2, h3⟩
  · refine .inl ⟨h1, h2.mono ?_⟩
    rintro e w' ⟨cv, v, γ', σ', rfl, k1, k2⟩
    exact ⟨cv, v, γ', σ', rfl, hp _ _ k1, k2⟩
  · exact .inr ⟨cv, v, γ', σ', w', h1, hp _ _ h2, h3⟩

def keepQ (ts : List RV) (v : AV) (σ' : Store) : AExit → Env → Store → Prop
  | .exit _ => fun _ _ => False
  | _ => fun ρ σ => oks ρ σ ts = true ∧ retV ts ρ σ = v ∧ σ = σ'
theorem ACallsTo.of_body_keep {C : Ctx} {f : FuncId} {n : Nat} {ts : List RV} {ac : ACode} (hc : cFn C f = some (n, ts, ac)) {args : List AV} {σ σ' : Store} {v : AV} (hn : args.length ≤ n)
    (h : SWp C n σ.length ac (keepQ ts v σ') (initE args) σ) : ACallsTo C f args σ v σ' := by
  simp only [cFn, Option.bind_eq_some_iff] at hc
  obtain ⟨fn, hf, hc⟩ := hc
  split at hc
  · cases hc
  · rename_i hname
    simp only [Option.bind_eq_some_iff, Option.map_eq_some_iff, Prod.mk.injEq] at hc
    obtain ⟨c, hb, ts', hts, ac', hac, rfl, rfl, rfl⟩ := hc
    intro γ w cargs hR ha
    left
    constructor
    · have hname' : (fn.name == "runtime.NumGoroutine") = false := by simpa using hname
      have h1 : fn.name ≠ "runtime.NumGoroutine" := by simpa using hname'
      simp [callFunc, hf, h1, hb]
    · have hl := ha.length
      refine calls_of_wp hf hb ?_
      have hw := h c hac γ w hR.gl hR.len γ { tmps := cargs.toArray ++ Array.replicate (fn.ntmps - cargs.toArray.size) undef, defers := [] } w (Step.refl _ _) hR
        (initE_ok ha _) (by simp; omega)
      refine wp_mono hw ?_
      rintro e a' w' ⟨ae, ρ', σ2, γ', rfl, hq, q1, q2, q3, q4, q5⟩
      have fin : oks ρ' σ2 ts' = true ∧ retV ts' ρ' σ2 = v ∧ σ2 = σ' → a'.defers = [] ∧ ∃ v_1, (results fn a'.tmps).run C.P w' = .ok v_1 w' ∧ ∃ cv γ', Ending.returned v_1 = .returned cv ∧ Step γ w γ' w' ∧ Rel C γ' σ' w' ∧ VR γ' w' v cv := by
        rintro ⟨hk, rfl, rfl⟩
        obtain ⟨rv, r1, r2⟩ := run_results_ok q2 q3 hts hk
        exact ⟨q4, _, r1, _, γ', rfl, q1, q2, r2⟩
      cases ae with
      | normal => exact fin hq
      | exit id => exact hq.elim
      | ret => exact fin hq

/-! Letting go at a function's end. -/
section
variable {τ news : Store}
def keepD (τ news kept : Store) (idx : Nat → Nat) (fzl : Nat → Bool) : DC :=
  ⟨τ ++ news, τ.length + kept.length, fun r => if r < τ.length then r else τ.length + idx (r - τ.length), fun r => decide (τ.length ≤ r) && fzl (r - τ.length)⟩
theorem keepD_base (kept : Store) (idx : Nat → Nat) (fzl : Nat → Bool) : ∀ r, r < τ.length → r < (keepD τ news kept idx fzl).n ∧ (keepD τ news kept idx fzl).pre r = r := fun r hr => by
  exact ⟨by show r < τ.length + kept.length; omega, by simp [keepD, hr]⟩
theorem keepD_ok {kept : Store} {idx : Nat → Nat} {fzl : Nat → Bool} (hτ : Wf τ.length τ) (h1 : ∀ j, j < kept.length → idx j < news.length) (h2 : ∀ i j, i < kept.length → j < kept.length → idx i = idx j → i = j)
    (h3 : ∀ (j : Nat) (o' : AObj), kept[j]? = some (some o') → ∃ o, news[idx j]? = some (some o) ∧ DRss (keepD τ news kept idx fzl) o' o) (h4 : ∀ j, j < kept.length → fzl (idx j) = true → kept[j]? = some none) :
    DownS τ.length (keepD τ news kept idx fzl) (τ ++ kept) := by
  refine ⟨by simp [keepD], fun r hr => ⟨by simp; omega, (keepD_base kept idx fzl r hr).2⟩, fun r hr => ?_, fun r r' hr hr' e => ?_, fun r o' hr => ?_, fun r hr r' hr' e => ?_⟩
  · simp only [keepD, List.length_append] at hr ⊢
    split
    · omega
    · have := h1 (r - τ.length) (by omega); omega
  · simp only [keepD, List.length_append] at hr hr' e
    split at e <;> split at e
    · exact e
    · omega
    · omega
    · have := h2 (r - τ.length) (r' - τ.length) (by omega) (by omega) (by omega); omega
  · by_cases hl : r < τ.length
    · rw [List.getElem?_append_left hl] at hr
      refine ⟨o', ?_, DRss.refl (keepD_base kept idx fzl) o' (hτ r o' hr)⟩
      simp only [keepD, hl, if_true]
      rw [List.getElem?_append_left hl]; exact hr
    · rw [List.getElem?_append_right (by omega)] at hr
      obtain ⟨o, q1, q2⟩ := h3 _ o' hr
      refine ⟨o, ?_, q2⟩
      simp only [keepD, hl, if_false]
      rw [List.getElem?_append_right (by omega), Nat.add_sub_cancel_left]; exact q1
  · simp only [keepD, Bool.and_eq_true, decide_eq_true_eq, List.length_append] at hr hr' e
    split at e
    · omega
    · subst e
      rw [List.getElem?_append_right (by omega)]
      rw [Nat.add_sub_cancel_left] at hr
      exact h4 _ (by omega) hr.2

/-- A result that leads into no new object. -/
theorem DownV.pure {v : AV} (hτ : Wf τ.length τ) (hv : RL τ.length v) : DownV τ.length v (τ ++ news) v τ := by
  refine ⟨keepD τ news [] id (fun _ => true), rfl, by simpa using keepD_ok (kept := []) (idx := id) (fzl := fun _ => true) (news := news) hτ (by simp) (by simp) (by simp) (by simp), DR.refl (keepD_base _ _ _) v hv⟩
theorem DownV.same {v : AV} (hτ : Wf τ.length τ) (hv : RL τ.length v) : DownV τ.length v τ v τ := by
  simpa using DownV.pure (news := []) hτ hv
/-- A new row, that nobody writes any more. -/
theorem DownV.froze {j off len esz : Nat} {lim : Option Nat} {o : AObj} (hτ : Wf τ.length τ) (ho : news[j]? = some (some o)) (hl : off + len ≤ o.length) (hr : RLss τ.length ((o.drop off).take len)) :
    DownV τ.length (.sl (τ.length + j) off len lim esz) (τ ++ news) (.vsl esz ((o.drop off).take len) false) τ := by
  refine ⟨keepD τ news [] id (fun _ => true), rfl, by simpa using keepD_ok (kept := []) (idx := id) (fzl := fun _ => true) (news := news) hτ (by simp) (by simp) (by simp) (by simp), ?_⟩
  have e : ((o.drop off).take len).length = len := by simp; omega
  simp only [DR, keepD]
  right
  refine ⟨τ.length + j, off, lim, o, by rw [e], by simp, ?_, by rw [e]; exact hl, by simp, ?_⟩
  · rw [List.getElem?_append_right (by omega), Nat.add_sub_cancel_left]; exact ho
  · rw [e]; exact DRss.refl (keepD_base [] id (fun _ => true)) _ hr
/-- A new row, handed on to its new owner. -/
theorem DownV.own {j off len esz : Nat} {lim : Option Nat} {o : AObj} (hτ : Wf τ.length τ) (ho : news[j]? = some (some o)) (hr : RLss τ.length o) :
    DownV τ.length (.sl (τ.length + j) off len lim esz) (τ ++ news) (.sl τ.length off len lim esz) (τ ++ [some o]) := by
  have hj : j < news.length := (List.getElem?_eq_some_iff.1 ho).1
  refine ⟨keepD τ news [some o] (fun _ => j) (fun i => !decide (i = j)), rfl, keepD_ok hτ (by simp [hj]) (fun a b h1 h2 _ => by simp at h1 h2; omega) (fun i o' hi => ?_) (fun i hi h => by simp at h), ?_⟩
  · cases i with
    | zero =>
      simp at hi; subst hi
      exact ⟨o, ho, DRss.refl (keepD_base _ _ _) _ hr⟩
    | succ i => simp at hi
  · simp only [DR, keepD]
    simp
end
end Am
end Go.Proofs.Ytkffgmpbhahioaa
