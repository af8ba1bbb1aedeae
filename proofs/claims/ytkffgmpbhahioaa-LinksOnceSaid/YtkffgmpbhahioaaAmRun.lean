/- THE ABSTRACT MACHINE, part 20: it runs: what is computed on given values holds of the model. -/
import Derived.Test.YtkffgmpbhahioaaAmFun
namespace Go.Proofs.Ytkffgmpbhahioaa
namespace Am

/-! A number of rounds. -/
def SRounds (C : Ctx) (n k : Nat) (x : ACode) (Q : AExit → Env → Store → Prop) : Nat → Env → Store → Prop
  | 0, _, _ => False
  | m + 1, ρ, σ => SWp C n k x (thenQ (SRounds C n k x Q m) Q) ρ σ
theorem thenQ_mono {K K' : Env → Store → Prop} {Q Q' : AExit → Env → Store → Prop} (hk : ∀ ρ σ, K ρ σ → K' ρ σ) (hq : ∀ e ρ σ, Q e ρ σ → Q' e ρ σ) (e : AExit) (ρ : Env) (σ : Store) (h : thenQ K Q e ρ σ) : thenQ K' Q' e ρ σ := by
  cases e with
  | normal => exact hk _ _ h
  | exit id => exact hq _ _ _ h
  | ret => exact hq _ _ _ h
theorem SWp.rounds {C : Ctx} {n k m : Nat} {x : ACode} {Q : AExit → Env → Store → Prop} {ρ : Env} {σ : Store} (h : SRounds C n k x Q m ρ σ) : SWp C n k (.loop x) Q ρ σ := by
  refine SWp.loop (fun m ρ σ => SRounds C n k x Q m ρ σ) m h ?_
  intro m ρ σ hm
  cases m with
  | zero => exact hm.elim
  | succ m => exact SWp.mono hm (thenQ_mono (fun ρ σ h => ⟨m, Nat.lt_succ_self m, h⟩) fun _ _ _ h => h)

/-! The machine. -/
def envL (l : List AV) : Env := fun t => l.getD t .undef
def AOp.calm : AOp → Bool
  | .alloc _ | .box _ | .store _ _ _ | .conv _ _ | .make _ _ _ _ | .app _ _ _ | .copy _ _ _ | .clear _ _ | .call _ _ => false
  | _ => true
theorem AOp.calm_ok {ρ : Env} {σ : Store} {op : AOp} {r : AV × Store} (hc : op.calm = true) (h : op.run ρ σ = some r) : r.2 = σ := by
  have mp : ∀ {o : Option AV} {r : AV × Store}, o.map (fun v => (v, σ)) = some r → r.2 = σ := by
    intro o r h
    simp only [Option.map_eq_some_iff] at h
    obtain ⟨v, _, rfl⟩ := h; rfl
  cases op <;> simp only [AOp.calm, Bool.false_eq_true] at hc <;> simp only [AOp.run] at h
  case mv x => simp only [Option.some.injEq] at h; subst h; rfl
  case build => simp only [Option.map_eq_some_iff] at h; obtain ⟨v, _, rfl⟩ := h; rfl
  case lit => simp only [Option.map_eq_some_iff] at h; obtain ⟨v, _, rfl⟩ := h; rfl
  case lenArr => simp only [Option.some.injEq] at h; subst h; rfl
  case mkfn => simp only [Option.some.injEq] at h; subst h; rfl
  case pick => split at h <;> simp at h; subst h; rfl
  case nilc => split at h <;> simp at h <;> (subst h; rfl)
  case ext => split at h
              · exact mp h
              · cases h
  case lenStr => split at h <;> simp at h; subst h; rfl
  all_goals exact mp h

abbrev Cal := FuncId → List AV → Store → Option (AV × Store)
def put? (l : List AV) (d : Option Nat) (v : AV) : List AV := match d with
  | none => l
  | some d => l.set d v
theorem envL_put {l : List AV} {d : Option Nat} {v : AV} (hd : ∀ x, d = some x → x < l.length) : putE (envL l) d v = envL (put? l d v) := by
  cases d with
  | none => rfl
  | some d =>
    have := hd d rfl
    funext t
    simp only [putE, upd, envL, put?, List.getD_eq_getElem?_getD, List.getElem?_set]
    by_cases h : t = d
    · subst h; simp [this]
    · rw [if_neg h, if_neg (fun e => h e.symm)]
def okD (l : List AV) : Option Nat → Bool
  | none => true
  | some d => decide (d < l.length)
def runIns (call : Cal) (i : AIns) (l : List AV) (σ : Store) : Option (List AV × Store) :=
  if okD l i.dst = true then
    match guardV (envL l) i.guard with
    | some true => (match i.op with
      | .call f xs => if i.need = .same ∨ i.need = .rd then none else (match f.ev (envL l) with
        | .fn fid caps => (call fid (xs.map (AX.ev (envL l)) ++ caps) σ).map fun r => (put? l i.dst r.1, r.2)
        | _ => none)
      | op => if (i.need = .same ∨ i.need = .rd) ∧ op.calm = false then none else (op.run (envL l) σ).map fun r => (put? l i.dst r.1, r.2))
    | some false => some (put? l i.dst .undef, σ)
    | none => none
  else none
/-- Effects and reads that stand in no order are not mixed here. -/
def okN (p r : Bool) : Nd → Bool
  | .rd => !p
  | .ef => !r
  | _ => true
def runIs (call : Cal) : List AIns → Bool → Bool → List AV → Store → Option (List AV × Store)
  | [], _, _, l, σ => some (l, σ)
  | i :: is, p, r, l, σ => if okN p r i.need = true then
      (match runIns call i l σ with
      | some q => runIs call is (p || i.need == .ef) (r || i.need == .rd) q.1 q.2
      | none => none)
    else none
def stepC (call : Cal) (ih : ACode → List AV → Store → Option (AExit × List AV × Store)) : ACode → List AV → Store → Option (AExit × List AV × Store)
  | .skip, l, σ => some (.normal, l, σ)
  | .reg ops, l, σ => match runIs call ops false false l σ with
    | some r => some (.normal, r.1, r.2)
    | none => none
  | .seq a b, l, σ => match ih a l σ with
    | some (.normal, l', σ') => ih b l' σ'
    | r => r
  | .cond c a b, l, σ => match c.ev (envL l) with
    | .bool true => ih a l σ
    | .bool false => ih b l σ
    | _ => none
  | .block id a, l, σ => match ih a l σ with
    | some (.exit i, l', σ') => if i = id then some (.normal, l', σ') else some (.exit i, l', σ')
    | r => r
  | .loop a, l, σ => match ih a l σ with
    | some (.normal, l', σ') => ih (.loop a) l' σ'
    | r => r
  | .exit id, l, σ => some (.exit id, l, σ)
  | .ret, l, σ => some (.ret, l, σ)
def runC (call : Cal) (fuel : Nat) : ACode → List AV → Store → Option (AExit × List AV × Store) :=
  Nat.rec (motive := fun _ => ACode → List AV → Store → Option (AExit × List AV × Store)) (fun _ _ _ => none) (fun _ ih => stepC call ih) fuel

mutual
def rlB (k : Nat) : AV → Bool
  | .ptr r _ _ => Nat.blt r k
  | .sl r _ _ _ _ => Nat.blt r k
  | .asl r _ _ _ _ _ => Nat.blt r k
  | .vp cs => rlsB k cs
  | .vsl _ es _ => rlssB k es
  | .fn _ caps => rlsB k caps
  | .agg cs => rlsB k cs
  | .tup vs => rlsB k vs
  | _ => true
def rlsB (k : Nat) : List AV → Bool
  | [] => true
  | a :: as => rlB k a && rlsB k as
def rlssB (k : Nat) : List (List AV) → Bool
  | [] => true
  | e :: es => rlsB k e && rlssB k es
end
mutual
theorem rlB_ok {k : Nat} : ∀ (a : AV), rlB k a = true → RL k a
  | .ptr r _ _, h => by simpa [rlB, RL] using h
  | .sl r _ _ _ _, h => by simpa [rlB, RL] using h
  | .asl r _ _ _ _ _, h => by simpa [rlB, RL] using h
  | .vp cs, h => by simp only [rlB] at h; simp only [RL]; exact rlsB_ok cs h
  | .vsl _ es _, h => by simp only [rlB] at h; simp only [RL]; exact rlssB_ok es h
  | .fn _ caps, h => by simp only [rlB] at h; simp only [RL]; exact rlsB_ok caps h
  | .agg cs, h => by simp only [rlB] at h; simp only [RL]; exact rlsB_ok cs h
  | .tup vs, h => by simp only [rlB] at h; simp only [RL]; exact rlsB_ok vs h
  | .any, _ => by simp only [RL]
  | .undef, _ => by simp only [RL]
  | .bool _, _ => by simp only [RL]
  | .int _ _, _ => by simp only [RL]
  | .str _, _ => by simp only [RL]
  | .nilp, _ => by simp only [RL]
  | .nilsl, _ => by simp only [RL]
  | .nilfn, _ => by simp only [RL]
theorem rlsB_ok {k : Nat} : ∀ (l : List AV), rlsB k l = true → RLs k l
  | [], _ => by simp only [RLs]
  | a :: l, h => by simp only [rlsB, Bool.and_eq_true] at h; simp only [RLs]; exact ⟨rlB_ok a h.1, rlsB_ok l h.2⟩
theorem rlssB_ok {k : Nat} : ∀ (l : List (List AV)), rlssB k l = true → RLss k l
  | [], _ => by simp only [RLss]
  | a :: l, h => by simp only [rlssB, Bool.and_eq_true] at h; simp only [RLss]; exact ⟨rlsB_ok a h.1, rlssB_ok l h.2⟩
end
def wfB (k : Nat) : Store → Bool
  | [] => true
  | none :: σ => wfB k σ
  | some o :: σ => rlssB k o && wfB k σ
theorem wfB_ok {k : Nat} {σ : Store} (h : wfB k σ = true) : Wf k σ := by
  induction σ with
  | nil => intro r o hr; simp at hr
  | cons x σ ih =>
    have ih' : wfB k σ = true → Wf k (x :: σ) → True := fun _ _ => trivial
    intro r o hr
    cases x with
    | none =>
      simp only [wfB] at h
      cases r with
      | zero => simp at hr
      | succ r => exact ih h r o (by simpa using hr)
    | some p =>
      simp only [wfB, Bool.and_eq_true] at h
      cases r with
      | zero => simp at hr; subst hr; exact rlssB_ok _ h.1
      | succ r => exact ih h.2 r o (by simpa using hr)

def finish (k : Nat) (v : AV) (σ : Store) : AV × Store :=
  if rlB k v = true ∧ k ≤ σ.length ∧ wfB k (σ.take k) = true then (v, σ.take k) else (v, σ)
abbrev Tab := FuncId → Option (Nat × List RV × ACode)
def callF (tab : Tab) (fuel : Nat) (call : Cal) (f : FuncId) (args : List AV) (σ : Store) : Option (AV × Store) :=
  match tab f with
  | none => none
  | some (n, ts, ac) => if args.length ≤ n then
      match runC call fuel ac (args ++ List.replicate (n - args.length) .undef) σ with
      | some (.exit _, _, _) => none
      | some (_, l, σ2) => if oks (envL l) σ2 ts = true then some (finish σ.length (retV ts (envL l) σ2) σ2) else none
      | none => none
    else none
def runF (tab : Tab) (fuel depth : Nat) : Cal :=
  Nat.rec (motive := fun _ => Cal) (fun _ _ _ => none) (fun _ ih => callF tab fuel ih) depth

/-! Soundness. -/
section
variable {C : Ctx}
def CalOK (C : Ctx) (call : Cal) : Prop := ∀ f args σ v σ', call f args σ = some (v, σ') → ACallsTo C f args σ v σ'

theorem put?_length {l : List AV} {d : Option Nat} {v : AV} : (put? l d v).length = l.length := by cases d <;> simp [put?]
theorem runIs_ok {call : Cal} (hcal : CalOK C call) {K : Env → Store → Prop} : ∀ (is : List AIns) (p r : Bool) (l l' : List AV) (σ σ' : Store), runIs call is p r l σ = some (l', σ') →
    l'.length = l.length ∧ ∀ H : Hist, (p = false → ∀ s, ¬ H.pre s) → (r = false → ∀ s, H.rds s) → K (envL l') σ' → opsWp C K is H (envL l) σ
  | [], p, r, l, l', σ, σ', h => by
    simp only [runIs, Option.some.injEq, Prod.mk.injEq] at h
    obtain ⟨rfl, rfl⟩ := h
    exact ⟨rfl, fun _ _ _ h => h⟩
  | i :: is, p, r, l, l', σ, σ', h => by
    simp only [runIs] at h
    split at h
    case isFalse => cases h
    rename_i hN
    split at h
    · rename_i q hr
      obtain ⟨h1, h2⟩ := runIs_ok hcal (K := K) is _ _ q.1 l' q.2 σ' h
      obtain ⟨d, g, nd, op⟩ := i
      simp only at hN h2
      -- what has been seen, behind this one
      have hsame : ∀ H : Hist, (p = false → ∀ s, ¬ H.pre s) → (r = false → ∀ s, H.rds s) → K (envL l') σ' → opsWp C K is H (envL q.1) q.2 := fun H hp hr' hK =>
        h2 H (fun e => hp (by cases p <;> simp_all)) (fun e => hr' (by cases r <;> simp_all)) hK
      unfold runIns at hr
      split at hr
      · rename_i hd
        have hd' : ∀ x, d = some x → x < l.length := fun x hx => by subst hx; simpa [okD] using hd
        simp only at hr
        have nocall : op.isCall = false → (match guardV (envL l) g with | some true => (if (nd = .same ∨ nd = .rd) ∧ op.calm = false then none else (op.run (envL l) σ).map fun r => (put? l d r.1, r.2)) | some false => some (put? l d .undef, σ) | none => none) = some q →
            l'.length = l.length ∧ ∀ H : Hist, (p = false → ∀ s, ¬ H.pre s) → (r = false → ∀ s, H.rds s) → K (envL l') σ' → opsWp C K (⟨d, g, nd, op⟩ :: is) H (envL l) σ := by
          intro hc hm
          split at hm
          · rename_i hg
            split at hm
            · cases hm
            · rename_i hn
              simp only [Option.map_eq_some_iff] at hm
              obtain ⟨y, hy, rfl⟩ := hm
              refine ⟨by rw [h1, put?_length], fun H hp hr' hK => ?_⟩
              have hs := hsame H hp hr' hK
              have hcalm : nd = .same ∨ nd = .rd → y.2 = σ := fun hne => AOp.calm_ok (by
                cases hcc : op.calm with
                | true => rfl
                | false => exact absurd ⟨hne, hcc⟩ hn) hy
              rw [opsWp_run hc]
              cases nd
              · simp only [stepW, insRun, hg, hy, Option.map_some, envL_put hd']; exact hs
              · simp only [stepW, insRun, hg, hy, Option.map_some, envL_put hd']; exact ⟨hcalm (.inl rfl), hs⟩
              · have e := hcalm (.inr rfl)
                simp only [okN, Bool.not_eq_true'] at hN
                simp only [stepW, rdW, hg, hy, rdC, envL_put hd']
                refine ⟨e, fun s hs => absurd hs (hp hN s), ?_⟩
                have := h2 ⟨H.pre, fun s => H.rds s ∧ op.run (envL l) s = some (y.1, s)⟩ (fun _ => hp hN) (fun e => by simp at e) hK
                rw [e] at this; exact this
              · simp only [okN, Bool.not_eq_true'] at hN
                simp only [stepW, efW, hg, hy, efC, envL_put hd']
                exact ⟨hr' hN _, h2 ⟨fun s => H.pre s ∨ s = σ, H.rds⟩ (fun e => by simp at e) (fun _ => hr' hN) hK⟩
          · rename_i hg
            simp only [Option.some.injEq] at hm; subst hm
            refine ⟨by rw [h1, put?_length], fun H hp hr' hK => ?_⟩
            have hs := hsame H hp hr' hK
            rw [opsWp_run hc]
            cases nd
            · simp only [stepW, insRun, hg, envL_put hd']; exact hs
            · simp only [stepW, insRun, hg, envL_put hd']; exact ⟨rfl, hs⟩
            · simp only [stepW, rdW, hg, envL_put hd']; exact hs
            · simp only [stepW, efW, hg, envL_put hd']; exact hs
          · cases hm
        cases op
        case call f xs =>
          simp only at hr
          split at hr
          · rename_i hg
            split at hr
            · cases hr
            · rename_i hn
              split at hr
              · rename_i fid caps hf
                simp only [Option.map_eq_some_iff] at hr
                obtain ⟨y, hy, rfl⟩ := hr
                refine ⟨by rw [h1, put?_length], fun H hp hr' hK => ?_⟩
                rw [opsWp_call]
                simp only [hg, callG, callW, hf]
                refine .inl ⟨y.1, y.2, hcal _ _ _ _ _ hy, ?_⟩
                rw [envL_put hd']
                cases nd
                · exact ⟨trivial, hsame H hp hr' hK⟩
                · exact absurd (.inl rfl) hn
                · exact absurd (.inr rfl) hn
                · simp only [okN, Bool.not_eq_true'] at hN
                  exact ⟨hr' hN _, h2 ⟨fun s => H.pre s ∨ s = σ, H.rds⟩ (fun e => by simp at e) (fun _ => hr' hN) hK⟩
              · cases hr
          · rename_i hg
            simp only [Option.some.injEq] at hr; subst hr
            refine ⟨by rw [h1, put?_length], fun H hp hr' hK => ?_⟩
            rw [opsWp_call]
            simp only [hg, callG, envL_put hd']
            exact hsame H hp hr' hK
          · cases hr
        all_goals exact nocall rfl hr
      · cases hr
    · cases h

theorem runC_ok {call : Cal} (hcal : CalOK C call) {n k : Nat} : ∀ (fuel : Nat) (ac : ACode) (l l' : List AV) (σ σ' : Store) (e : AExit), runC call fuel ac l σ = some (e, l', σ') →
    l'.length = l.length ∧ (∀ Q : AExit → Env → Store → Prop, Q e (envL l') σ' → SWp C n k ac Q (envL l) σ) ∧ ∀ a, ac = .loop a → ∃ m, ∀ Q : AExit → Env → Store → Prop, Q e (envL l') σ' → SRounds C n k a Q m (envL l) σ
  | 0, ac, l, l', σ, σ', e, h => by simp [runC] at h
  | fuel + 1, ac, l, l', σ, σ', e, h => by
    have ih := fun ac l l' σ σ' e h => runC_ok hcal (n := n) (k := k) fuel ac l l' σ σ' e h
    have h : stepC call (runC call fuel) ac l σ = some (e, l', σ') := h
    cases ac with
    | skip =>
      simp only [stepC, Option.some.injEq, Prod.mk.injEq] at h
      obtain ⟨rfl, rfl, rfl⟩ := h
      exact ⟨rfl, fun Q hQ => SWp.skip hQ, fun a ha => by cases ha⟩
    | exit id =>
      simp only [stepC, Option.some.injEq, Prod.mk.injEq] at h
      obtain ⟨rfl, rfl, rfl⟩ := h
      exact ⟨rfl, fun Q hQ => SWp.exit hQ, fun a ha => by cases ha⟩
    | ret =>
      simp only [stepC, Option.some.injEq, Prod.mk.injEq] at h
      obtain ⟨rfl, rfl, rfl⟩ := h
      exact ⟨rfl, fun Q hQ => SWp.ret hQ, fun a ha => by cases ha⟩
    | reg ops =>
      simp only [stepC] at h
      split at h
      · rename_i r hr
        simp only [Option.some.injEq, Prod.mk.injEq] at h
        obtain ⟨rfl, rfl, rfl⟩ := h
        refine ⟨(runIs_ok hcal (K := fun _ _ => True) ops _ _ l r.1 σ r.2 hr).1, fun Q hQ => SWp.reg ((runIs_ok hcal ops _ _ l r.1 σ r.2 hr).2 Hist.none (fun _ s h => h) (fun _ s => trivial) hQ), fun a ha => by cases ha⟩
      · cases h
    | seq x y =>
      simp only [stepC] at h
      refine ⟨?_, ?_, fun a ha => by cases ha⟩
      · split at h
        · rename_i l1 σ1 h1
          exact (ih _ _ _ _ _ _ h).1.trans (ih _ _ _ _ _ _ h1).1
        · exact (ih _ _ _ _ _ _ h).1
      · intro Q hQ
        split at h
        · rename_i l1 σ1 h1
          exact SWp.seq ((ih _ _ _ _ _ _ h1).2.1 _ ((ih _ _ _ _ _ _ h).2.1 _ hQ))
        · rename_i hne
          refine SWp.seq ((ih _ _ _ _ _ _ h).2.1 _ ?_)
          cases e with
          | normal => exact absurd h (hne _ _)
          | exit id => exact hQ
          | ret => exact hQ
    | cond c x y =>
      simp only [stepC] at h
      split at h
      · rename_i hc
        exact ⟨(ih _ _ _ _ _ _ h).1, fun Q hQ => SWp.cond hc (fun _ => (ih _ _ _ _ _ _ h).2.1 _ hQ) (fun e => by cases e), fun a ha => by cases ha⟩
      · rename_i hc
        exact ⟨(ih _ _ _ _ _ _ h).1, fun Q hQ => SWp.cond hc (fun e => by cases e) (fun _ => (ih _ _ _ _ _ _ h).2.1 _ hQ), fun a ha => by cases ha⟩
      · cases h
    | block id x =>
      simp only [stepC] at h
      refine ⟨?_, ?_, fun a ha => by cases ha⟩
      · split at h
        · rename_i i l1 σ1 h1
          split at h <;> (simp only [Option.some.injEq, Prod.mk.injEq] at h; obtain ⟨_, rfl, rfl⟩ := h; exact (ih _ _ _ _ _ _ h1).1)
        · exact (ih _ _ _ _ _ _ h).1
      · intro Q hQ
        split at h
        · rename_i i l1 σ1 h1
          split at h
          · rename_i hi
            simp only [Option.some.injEq, Prod.mk.injEq] at h; obtain ⟨rfl, rfl, rfl⟩ := h
            refine SWp.block ((ih _ _ _ _ _ _ h1).2.1 _ ?_)
            simp only [blkQ, hi, if_true]; exact hQ
          · rename_i hi
            simp only [Option.some.injEq, Prod.mk.injEq] at h; obtain ⟨rfl, rfl, rfl⟩ := h
            refine SWp.block ((ih _ _ _ _ _ _ h1).2.1 _ ?_)
            simp only [blkQ, hi, if_false]; exact hQ
        · rename_i hne
          refine SWp.block ((ih _ _ _ _ _ _ h).2.1 _ ?_)
          cases e with
          | normal => exact hQ
          | exit i => exact absurd h (hne _ _ _)
          | ret => exact hQ
    | loop x =>
      simp only [stepC] at h
      have key : l'.length = l.length ∧ ∃ m, ∀ Q : AExit → Env → Store → Prop, Q e (envL l') σ' → SRounds C n k x Q m (envL l) σ := by
        split at h
        · rename_i l1 σ1 h1
          obtain ⟨k1, _, k3⟩ := ih _ _ _ _ _ _ h
          obtain ⟨m, hm⟩ := k3 x rfl
          exact ⟨k1.trans (ih _ _ _ _ _ _ h1).1, m + 1, fun Q hQ => (ih _ _ _ _ _ _ h1).2.1 _ (hm Q hQ)⟩
        · rename_i hne
          refine ⟨(ih _ _ _ _ _ _ h).1, 1, fun Q hQ => (ih _ _ _ _ _ _ h).2.1 _ ?_⟩
          cases e with
          | normal => exact absurd h (hne _ _)
          | exit id => exact hQ
          | ret => exact hQ
      obtain ⟨h1, m, hm⟩ := key
      exact ⟨h1, fun Q hQ => SWp.rounds (hm Q hQ), fun a ha => by cases ha; exact ⟨m, hm⟩⟩

theorem envL_init (args : List AV) (n : Nat) : envL (args ++ List.replicate n .undef) = initE args := by
  funext t
  simp only [envL, initE, List.getD_eq_getElem?_getD]
  by_cases h : t < args.length
  · rw [List.getElem?_append_left h]
  · rw [List.getElem?_append_right (by omega), List.getElem?_eq_none (by omega : args.length ≤ t)]
    simp only [List.getElem?_replicate]
    split <;> rfl

theorem callF_ok {tab : Tab} (htab : ∀ f e, tab f = some e → cFn C f = some e) {fuel : Nat} {call : Cal} (hcal : CalOK C call) : CalOK C (callF tab fuel call) := by
  intro f args σ v σ' h
  unfold callF at h
  split at h
  · cases h
  · rename_i n ts ac hf
    split at h
    · rename_i hn
      have hc := htab _ _ hf
      have fin : ∀ (e : AExit) (l : List AV) (σ2 : Store), (∀ id, e ≠ .exit id) → runC call fuel ac (args ++ List.replicate (n - args.length) .undef) σ = some (e, l, σ2) → oks (envL l) σ2 ts = true → finish σ.length (retV ts (envL l) σ2) σ2 = (v, σ') → ACallsTo C f args σ v σ' := by
        intro e l σ2 he hr hok hfin
        have h2 := fun k => (runC_ok hcal (n := n) (k := k) fuel ac _ _ _ _ _ hr).2.1
        rw [envL_init] at h2
        unfold finish at hfin
        split at hfin
        · rename_i hk
          simp only [Prod.mk.injEq] at hfin
          obtain ⟨rfl, rfl⟩ := hfin
          refine ACallsTo.of_body hc hn fun _ _ => h2 _ _ ?_
          have hl : (σ2.take σ.length).length = σ.length := by rw [List.length_take]; omega
          have hd : DownV σ.length (retV ts (envL l) σ2) σ2 (retV ts (envL l) σ2) (σ2.take σ.length) := by
            have := DownV.pure (τ := σ2.take σ.length) (news := σ2.drop σ.length) (v := retV ts (envL l) σ2) (by rw [hl]; exact wfB_ok hk.2.2) (by rw [hl]; exact rlB_ok _ hk.1)
            rwa [hl, List.take_append_drop] at this
          cases e with
          | normal => exact ⟨hok, hd⟩
          | exit id => exact absurd rfl (he id)
          | ret => exact ⟨hok, hd⟩
        · simp only [Prod.mk.injEq] at hfin
          obtain ⟨rfl, rfl⟩ := hfin
          refine ACallsTo.of_body_keep hc hn (h2 _ _ ?_)
          cases e with
          | normal => exact ⟨hok, rfl, rfl⟩
          | exit id => exact absurd rfl (he id)
          | ret => exact ⟨hok, rfl, rfl⟩
      split at h
      · cases h
      · rename_i e l σ2 hne hr
        split at h
        · rename_i hok
          simp only [Option.some.injEq] at h
          exact fin e l σ2 (fun id he => by subst he; exact absurd rfl (hne id)) hr hok h
        · cases h
      · cases h
    · cases h
theorem runF_ok {tab : Tab} (htab : ∀ f e, tab f = some e → cFn C f = some e) (fuel : Nat) : ∀ depth, CalOK C (runF tab fuel depth)
  | 0 => by intro f args σ v σ' h; simp [runF] at h
  | d + 1 => callF_ok htab (runF_ok htab fuel d)
end
end Am
end Go.Proofs.Ytkffgmpbhahioaa
