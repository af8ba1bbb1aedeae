import Derived.Test.YtncenefkbpelbaaDoorK1c2da9acb
import Derived.Deep.LoopGhost
import Derived.Scope
import Derived.OrdersIn
import Derived.RangeFuncFrom
import Derived.RangeFuncLeaves
import Derived.Test.YtncenefkbpelbaaDoorRows
import Derived.ProofKit
import Derived.OpenShut
import Derived.JoinedCond
import Derived.Carry
set_option linter.unusedSimpArgs false
set_option linter.unusedVariables false
open Nat (reduceEqDiff reduceAdd reduceMul reduceSub reduceLeDiff)
open Int (reduceToNat reducePow)
section
/- THE ABSTRACT MACHINE, part 13: regions, in whatever order. -/
namespace Go.Proofs.YtncenefkbpelbaaDoor
namespace Am

/-! What an operation leans on. -/
theorem zji (C : Ctx) {e e' : Operand -> AV} (O : Store) (op : Op) (h : ∀ x ∈ op.operands, e x = e' x) : z1f C e O op = z1f C e' O op := by
  have pairs : ∀ ps : Array (Nat × Operand), (∀ x ∈ ps.map (·.2), e x = e' x) -> (ps.toList.map fun p => (p.1, e p.2)) = (ps.toList.map fun p => (p.1, e' p.2)) := fun ps hp =>
    List.map_congr_left fun p hm => by
      rw [hp p.2 (Array.mem_map.2 ⟨p, by simpa using hm, rfl⟩)]
  cases op <;> simp only [Op.operands] at h <;> simp only [z1f]
  case build t ps => rw [pairs ps fun x hx => h x (by simpa using hx)]
  case buildSlice t n ps => rw [pairs ps fun x hx => h x (by simpa using hx)]
  case makeFunc fn first captured =>
    cases fn <;> simp only [reduceCtorEq]
    rw [List.map_congr_left (l := captured.toList) fun x hx => h x (by simp at hx; simp [hx])]
  case call c =>
    obtain ⟨callee, args, ats⟩ := c
    cases callee <;> simp only []
    rw [List.map_congr_left (l := args.toList) fun x hx => h x (by simp at hx; simp [Call.operands, hx])]
  case slice t x lo hi mx => cases lo <;> cases hi <;> cases mx <;> simp_all
  all_goals (first | rfl | (simp_all; done))

theorem zdr {op : Op} {f : Operand} {args : Array Operand} (h : z1v op = some (f, args)) : f ∈ op.operands /\ ∀ x ∈ args, x ∈ op.operands := by
  cases op <;> simp only [z1v, reduceCtorEq] at h
  rename_i c
  obtain ⟨callee, cargs, ats⟩ := c
  cases callee <;> simp only [reduceCtorEq, Option.some.injEq, Prod.mk.injEq] at h
  obtain ⟨rfl, rfl⟩ := h
  simp [Op.operands, Call.operands]
  intro x hx
  exact .inr hx

theorem zd9 {C : Ctx} {e e' : Operand -> AV} {O O' : Store} {op : Op} {v : AV} (h : ∀ x ∈ op.operands, e x = e' x) (ho : OpTo C e O op v O') : OpTo C e' O op v O' := by
  unfold OpTo at ho ⊢
  cases hc : z1v op with
  | none =>
    rw [hc] at ho
    simp only at ho ⊢
    rw [<- zji C O op h]; exact ho
  | some fa =>
    obtain ⟨f, args⟩ := fa
    rw [hc] at ho
    simp only at ho ⊢
    obtain ⟨h1, h2⟩ := zdr hc
    obtain ⟨fid, caps, h3, h4⟩ := ho
    refine ⟨fid, caps, by rw [<- h f h1]; exact h3, ?_⟩
    rw [<- List.map_congr_left (l := args.toList) fun x hx => h x (h2 x (by simpa using hx))]
    exact h4

theorem zd8 {C : Ctx} {e e' : Operand -> AV} {O : Store} {op : Op} {P : AV -> Store -> Prop} (h : ∀ x ∈ op.operands, e x = e' x) (ho : OpP C e O op P) : OpP C e' O op P := by
  obtain ⟨⟨f, args⟩, hc, fid, caps, h3, h4⟩ := ho
  obtain ⟨h1, h2⟩ := zdr hc
  refine ⟨(f, args), hc, fid, caps, by rw [<- h f h1]; exact h3, ?_⟩
  rw [<- List.map_congr_left (l := args.toList) fun x hx => h x (h2 x (by simpa using hx))]
  exact h4

/-- Operations that neither look at the store nor turn it. -/
def opN (C : Ctx) : Op -> Bool
  | .move _ | .assign _ | .pick _ _ _ | .build _ _ | .buildSlice _ _ _ | .nilCheck _ | .binOp _ _ _ _ _ | .unOp _ _ _ | .makeFunc _ _ _ | .fieldAddr _ _ _ | .field _ _ _ | .indexAddr _ _ _ | .index _ _ _ | .extract _ _ | .slice _ _ _ _ _ => true
  | .call c => match c.callee with | .builtin .len => true | .builtin .min => true | .builtin .max => true | _ => false
  | .convert s d _ => (z5z C s).isSome && (z5z C d).isSome
  | _ => false
theorem z6x {C : Ctx} {e : Operand -> AV} {O O' : Store} {op : Op} {v : AV} (hn : opN C op = true) (h : OpTo C e O op v O') : O' = O /\ ∀ O2, OpTo C e O2 op v O2 := by
  have key : z1v op = none := by
    cases op <;> simp only [opN, Bool.false_eq_true] at hn <;> simp only [z1v]
    rename_i c
    obtain ⟨callee, cargs, ats⟩ := c
    cases callee <;> simp_all
  unfold OpTo at h ⊢
  rw [key] at h ⊢
  simp only at h ⊢
  have mp : ∀ {r : Option AV} {O O' : Store} {v : AV}, r.map (fun v => (v, O)) = some (v, O') -> O' = O /\ ∀ O2 : Store, r.map (fun v => (v, O2)) = some (v, O2) := by
    intro r O O' v h
    simp only [Option.map_eq_some_iff, Prod.mk.injEq] at h
    obtain ⟨v', rfl, rfl, rfl⟩ := h
    exact ⟨rfl, fun _ => rfl⟩
  cases op <;> simp only [opN, Bool.false_eq_true] at hn <;> simp only [z1f] at h ⊢
  case move x => simp only [Option.some.injEq, Prod.mk.injEq] at h ⊢; exact ⟨h.2.symm, fun _ => ⟨h.1, trivial⟩⟩
  case assign x => simp only [Option.some.injEq, Prod.mk.injEq] at h ⊢; exact ⟨h.2.symm, fun _ => ⟨h.1, trivial⟩⟩
  case pick c x y => split at h
                     · simp only [Option.some.injEq, Prod.mk.injEq] at h ⊢; exact ⟨h.2.symm, fun _ => ⟨h.1, trivial⟩⟩
                     · cases h
  case nilCheck x => split at h
                     · simp only [Option.some.injEq, Prod.mk.injEq] at h ⊢; exact ⟨h.2.symm, fun _ => ⟨h.1, trivial⟩⟩
                     · simp only [Option.some.injEq, Prod.mk.injEq] at h ⊢; exact ⟨h.2.symm, fun _ => ⟨h.1, trivial⟩⟩
                     · simp only [Option.some.injEq, Prod.mk.injEq] at h ⊢; exact ⟨h.2.symm, fun _ => ⟨h.1, trivial⟩⟩
                     · cases h
  case makeFunc fn first captured =>
    cases fn <;> simp only [reduceCtorEq] at h ⊢
    split at h
    · rename_i hz
      simp only [hz, if_true, Option.some.injEq, Prod.mk.injEq] at h ⊢; exact ⟨h.2.symm, fun _ => ⟨h.1, trivial⟩⟩
    · cases h
  case extract x i => split at h
                      · exact mp h
                      · cases h
  case call c =>
    obtain ⟨callee, cargs, ats⟩ := c
    cases callee <;> simp only [Bool.false_eq_true, reduceCtorEq] at hn h ⊢
    rename_i b
    unfold z49 at h ⊢
    split at h <;> simp only [Bool.false_eq_true, reduceCtorEq] at hn h ⊢
    · exact mp h
    · exact mp h
    · exact mp h
  case convert s d x =>
    simp only [Bool.and_eq_true] at hn
    obtain ⟨ks, hks⟩ := Option.isSome_iff_exists.1 hn.1
    obtain ⟨kd, hkd⟩ := Option.isSome_iff_exists.1 hn.2
    unfold z5g at h ⊢
    simp only [hks, hkd] at h ⊢
    have nostr : ¬ tyStr C d = true := by
      intro hh
      have := z5d hh
      rw [za6 hkd] at this; cases this
    have nou8 : ¬ z60 C d = true := by
      intro hh
      obtain ⟨_, this, _⟩ := zd0 hh
      rw [za6 hkd] at this; cases this
    split at h
    · simp only [Option.bind_some, Option.map_some, Option.some.injEq, Prod.mk.injEq] at h ⊢; exact ⟨h.2.symm, fun _ => ⟨h.1, trivial⟩⟩
    · simp [nostr, nou8] at h
    · simp [nostr] at h
  all_goals exact mp h

/-! Guards. -/
def z41 (ops : Array Oper) (Z : Env) (o : Oper) : Option Bool :=
  match o.guard with
  | none => some true
  | some g => match (ops[g.1]?).bind (·.dst) with
    | some d => (match Z d with | .bool b => some (b == g.2) | .undef => some false | _ => none)
    | none => some false
theorem zhc {γ : Places} {w : World} {Z : Env} {a : Act} {ops : Array Oper} {o : Oper} {b : Bool} (hE : EnvR γ w Z a.tmps) (h : z41 ops Z o = some b) : Region.wanted o (yielded ops a.tmps) = b := by
  unfold z41 at h
  unfold Region.wanted
  cases hg : o.guard with
  | none => rw [hg] at h; simp only [Option.some.injEq] at h; simpa using h
  | some g =>
    obtain ⟨j, want⟩ := g
    rw [hg] at h
    simp only at h ⊢
    unfold yielded
    cases hd : (ops[j]?).bind (·.dst) with
    | none => rw [hd] at h; simp only [Option.some.injEq] at h; subst h; simp
    | some d =>
      rw [hd] at h
      simp only at h
      have hr := hE d
      simp only [Option.bind_some]
      split at h
      · rename_i b' hb
        rw [hb] at hr
        simp only [VR] at hr
        simp only [Option.some.injEq] at h; subst h
        have : a.tmps[d]? = some (.bool b') := by
          rw [Array.getD_eq_getD_getElem?] at hr
          cases hq : a.tmps[d]? with
          | none => rw [hq] at hr; simp [undef] at hr
          | some v => rw [hq] at hr; simp at hr; rw [hr]
        rw [this]
        cases b' <;> cases want <;> rfl
      · rename_i hb
        rw [hb] at hr
        simp only [VR] at hr
        simp only [Option.some.injEq] at h; subst h
        rw [Array.getD_eq_getD_getElem?] at hr
        cases hq : a.tmps[d]? with
        | none => simp
        | some v => rw [hq] at hr; simp at hr; subst hr; simp [undef]
      · cases h

/-- Operations that read the store and leave it. -/
def opR : Op -> Bool
  | .load _ _ => true
  | _ => false
theorem zf5 {op : Op} (hn : opR op = true) : z1v op = none := by
  cases op <;> simp only [opR, Bool.false_eq_true] at hn <;> rfl
theorem z6a {C : Ctx} {e : Operand -> AV} {O O' : Store} {op : Op} {v : AV} (hn : opR op = true) (h : OpTo C e O op v O') : O' = O := by
  have hc := zf5 hn
  unfold OpTo at h
  rw [hc] at h
  simp only at h
  cases op <;> simp only [opR, Bool.false_eq_true] at hn <;> simp only [z1f, Option.map_eq_some_iff, Prod.mk.injEq] at h <;> obtain ⟨_, _, _, rfl⟩ := h <;> rfl
theorem zmj {C : Ctx} {e : Operand -> AV} {O s1 s2 : Store} {op : Op} {v1 v2 : AV} (hn : opR op = true) (h1 : OpTo C e O op v1 s1) (h2 : OpTo C e O op v2 s2) : v1 = v2 := by
  have hc := zf5 hn
  unfold OpTo at h1 h2
  rw [hc] at h1 h2
  simp only at h1 h2
  rw [h1] at h2
  simp only [Option.some.injEq, Prod.mk.injEq] at h2
  exact h2.1
theorem zbj {C : Ctx} {e : Operand -> AV} {O : Store} {op : Op} {P : AV -> Store -> Prop} (hn : opN C op = true) (h : OpP C e O op P) : False := by
  obtain ⟨⟨f, args⟩, hc, _⟩ := h
  cases op <;> simp only [opN, Bool.false_eq_true] at hn <;> simp only [z1v, reduceCtorEq] at hc
  rename_i c
  obtain ⟨callee, cargs, ats⟩ := c
  cases callee <;> simp_all
theorem zmi {C : Ctx} {e : Operand -> AV} {O1 O2 s1 s2 : Store} {op : Op} {v1 v2 : AV} (hn : opN C op = true) (h1 : OpTo C e O1 op v1 s1) (h2 : OpTo C e O2 op v2 s2) : v1 = v2 := by
  obtain ⟨rfl, k1⟩ := z6x hn h1
  obtain ⟨rfl, k2⟩ := z6x hn h2
  have key : z1v op = none := by
    cases op <;> simp only [opN, Bool.false_eq_true] at hn <;> simp only [z1v]
    rename_i c
    obtain ⟨callee, cargs, ats⟩ := c
    cases callee <;> simp_all
  have q1 := k1 []
  have q2 := k2 []
  unfold OpTo at q1 q2
  rw [key] at q1 q2
  simp only at q1 q2
  rw [q1] at q2
  simp only [Option.some.injEq, Prod.mk.injEq] at q2
  exact q2.1

/-! One operation with its guard. -/
/-- What a region has seen: the stores ahead of its effects; what its reads ask of a store. -/
structure Hist where
  pre : Store -> Prop
  rds : Store -> Prop
def Hist.none : Hist := ⟨fun _ => False, fun _ => True⟩
/-- What an operation owes those that stand in no order with it: nothing; to leave the store; a reader: to read the same ahead of each effect; an effect: to let each read read the same; to leave each store, and to give the same at each. -/
inductive Nd where
  | no
  | same
  | rd
  | ef
  | pu
  deriving DecidableEq, Inhabited
def Nd.ok (n : Nd) (C : Ctx) (e : Operand -> AV) (op : Op) (v : AV) (H : Hist) (O O' : Store) : Prop := match n with
  | .no => True
  | .same => O' = O
  | .rd => O' = O /\ ∀ h, H.pre h -> OpTo C e h op v h
  | .ef => H.rds O'
  | .pu => O' = O /\ ∀ h, OpTo C e h op v h
def Nd.next (n : Nd) (C : Ctx) (e : Operand -> AV) (op : Op) (v : AV) (H : Hist) (O : Store) : Hist := match n with
  | .no => H
  | .same => H
  | .rd => ⟨H.pre, fun s => H.rds s /\ OpTo C e s op v s⟩
  | .ef => ⟨fun s => H.pre s \/ s = O, H.rds⟩
  | .pu => H
/-- A call told by a property. -/
def zan (C : Ctx) (need : Nd) (o : Oper) (K : Hist -> Env -> Store -> Prop) (H : Hist) (Z : Env) (O : Store) : Prop :=
  ∃ P : AV -> Store -> Prop, OpP C (ev C Z) O o.op P /\ (∃ v O', P v O') /\ ∀ v O', P v O' -> need.ok C (ev C Z) o.op v H O O' /\ K (need.next C (ev C Z) o.op v H O) (putE Z o.dst v) O'
def z28 (C : Ctx) (ops : Array Oper) (need : Nd) (o : Oper) (K : Hist -> Env -> Store -> Prop) (H : Hist) (Z : Env) (O : Store) : Prop :=
  match z41 ops Z o with
  | some true => (∃ v O', OpTo C (ev C Z) O o.op v O' /\ need.ok C (ev C Z) o.op v H O O' /\ K (need.next C (ev C Z) o.op v H O) (putE Z o.dst v) O') \/ ((need = .no \/ need = .ef) /\ zan C need o K H Z O)
  | some false => K H (putE Z o.dst .undef) O
  | none => False

theorem z6j {C : Ctx} {γ : Places} {O : Store} {w : World} {ops : Array Oper} {i : Nat} {o : Oper} {need : Nd} {H : Hist} {Z : Env} {a : Act} {K : Hist -> Env -> Store -> Prop} {KK : Act -> World -> Prop} {Q : Exit -> Act -> World -> Prop} (hi : ops[i]? = some o)
    (hd : ∀ x, o.dst = some x -> x < a.tmps.size) (hR : Rel C γ O w) (hE : EnvR γ w Z a.tmps) (h : z28 C ops need o K H Z O)
    (hK : ∀ H' Z' O' γ' a' w', K H' Z' O' -> Step γ w γ' w' -> Rel C γ' O' w' -> EnvR γ' w' Z' a'.tmps -> a'.defers = a.defers -> a'.tmps.size = a.tmps.size -> KK a' w') : wpOp C.P ops Q i KK a w := by
  unfold z28 at h
  unfold wpOp
  rw [hi]
  simp only
  have put_size : ∀ (d : Option Nat) (v : Value), (a.put d v).tmps.size = a.tmps.size := by intro d v; cases d <;> simp [Act.put]
  have put_def : ∀ (d : Option Nat) (v : Value), (a.put d v).defers = a.defers := by intro d v; cases d <;> rfl
  split at h
  · rename_i hw
    rw [zhc hE hw, if_pos rfl]
    left
    rcases h with ⟨v, O', h1, _, h2⟩ | ⟨_, P, h1, _, h2⟩
    · refine op_ok hR hE h1 fun cv γ' w' k1 k2 k3 => ?_
      exact hK _ _ _ γ' _ w' h2 k1 k2 ((hE.mono k1).put hd k3) (put_def _ _) (put_size _ _)
    · refine opP_ok hR hE h1 fun v O' cv γ' w' hp k1 k2 k3 => ?_
      exact hK _ _ _ γ' _ w' (h2 v O' hp).2 k1 k2 ((hE.mono k1).put hd k3) (put_def _ _) (put_size _ _)
  · rename_i hw
    rw [zhc hE hw, if_neg (by simp)]
    exact hK _ _ _ γ _ w h (Step.refl _ _) hR (hE.put hd (by simp only [VR])) (put_def _ _) (put_size _ _)
  · exact h.elim

/-! Two operations change places. -/
theorem ze5 {C : Ctx} {Z : Env} {d : Option Nat} {v : AV} {x : Operand} (h : ∀ t, d = some t -> x ≠ .tmp t) : ev C (putE Z d v) x = ev C Z x := by
  cases d with
  | none => rfl
  | some d =>
    cases x with
    | tmp t =>
      have hne : t ≠ d := fun e => h d rfl (by rw [e])
      simp [ev, putE, upd, hne]
    | _ => rfl
theorem zf8 {ops : Array Oper} {o : Oper} {t : Nat} (h : (Operand.tmp t) ∈ o.op.operands) : t ∈ o.looksAt ops := by
  unfold Oper.looksAt
  exact List.mem_append_left _ (List.mem_filterMap.2 ⟨.tmp t, by simpa using h, rfl⟩)
theorem z4l {C : Ctx} {Z : Env} {O O' : Store} {ops : Array Oper} {o : Oper} {d : Option Nat} {u v : AV} (h : ∀ t, d = some t -> t ∉ o.looksAt ops) :
    OpTo C (ev C (putE Z d u)) O o.op v O' ↔ OpTo C (ev C Z) O o.op v O' := by
  have e : ∀ x ∈ o.op.operands, ev C (putE Z d u) x = ev C Z x := fun x hx => ze5 fun t ht hxt => h t ht (zf8 (by rw [<- hxt]; exact hx))
  exact ⟨zd9 e, zd9 fun x hx => (e x hx).symm⟩
theorem z8k {C : Ctx} {Z : Env} {O : Store} {P : AV -> Store -> Prop} {ops : Array Oper} {o : Oper} {d : Option Nat} {u : AV} (h : ∀ t, d = some t -> t ∉ o.looksAt ops) :
    OpP C (ev C (putE Z d u)) O o.op P ↔ OpP C (ev C Z) O o.op P := by
  have e : ∀ x ∈ o.op.operands, ev C (putE Z d u) x = ev C Z x := fun x hx => ze5 fun t ht hxt => h t ht (zf8 (by rw [<- hxt]; exact hx))
  exact ⟨zd8 e, zd8 fun x hx => (e x hx).symm⟩
theorem zhb {Z : Env} {ops : Array Oper} {o : Oper} {d : Option Nat} {u : AV} (h : ∀ t, d = some t -> t ∉ o.looksAt ops) : z41 ops (putE Z d u) o = z41 ops Z o := by
  cases d with
  | none => rfl
  | some t =>
    unfold z41
    cases hg : o.guard with
    | none => rfl
    | some g =>
      simp only
      cases hd : (ops[g.1]?).bind (·.dst) with
      | none => rfl
      | some d' =>
        simp only
        have hne : d' ≠ t := fun e => h t rfl (by
          unfold Oper.looksAt
          refine List.mem_append_right _ ?_
          rw [hg]
          simp only
          rw [hd, e]; simp)
        simp [putE, upd, hne]
theorem zn4 {Z : Env} {x y : Option Nat} {u v : AV} (h : ∀ d, x = some d -> y ≠ some d) : putE (putE Z x u) y v = putE (putE Z y v) x u := by
  cases x with
  | none => rfl
  | some d =>
    cases y with
    | none => rfl
    | some e =>
      have hne : d ≠ e := fun e' => h d rfl (by rw [e'])
      funext t
      simp only [putE, upd]
      by_cases h1 : t = e
      · subst h1
        have : ¬ t = d := fun e' => hne e'.symm
        simp [this]
      · simp [h1]

theorem z5q {C : Ctx} {Z : Env} {O O' : Store} {ops : Array Oper} {o : Oper} {d : Option Nat} {u v : AV} {n : Nd} {H : Hist} (h : ∀ t, d = some t -> t ∉ o.looksAt ops) :
    n.ok C (ev C (putE Z d u)) o.op v H O O' ↔ n.ok C (ev C Z) o.op v H O O' := by
  cases n <;> simp only [Nd.ok]
  · exact ⟨fun k => ⟨k.1, fun s hs => (z4l h).1 (k.2 s hs)⟩, fun k => ⟨k.1, fun s hs => (z4l h).2 (k.2 s hs)⟩⟩
  · exact ⟨fun k => ⟨k.1, fun s => (z4l h).1 (k.2 s)⟩, fun k => ⟨k.1, fun s => (z4l h).2 (k.2 s)⟩⟩
theorem z5p {C : Ctx} {Z : Env} {O : Store} {ops : Array Oper} {o : Oper} {d : Option Nat} {u v : AV} {n : Nd} {H : Hist} (h : ∀ t, d = some t -> t ∉ o.looksAt ops) :
    n.next C (ev C (putE Z d u)) o.op v H O = n.next C (ev C Z) o.op v H O := by
  cases n <;> simp only [Nd.next]
  congr 1
  funext s
  exact propext ⟨fun k => ⟨k.1, (z4l h).1 k.2⟩, fun k => ⟨k.1, (z4l h).2 k.2⟩⟩
/-- May two change places, by what they do and owe? -/
def zb9 (C : Ctx) (nx ni : Nd) (x i : Op) : Bool :=
  (opN C x && nx == .no) || (opN C i && ni == .no) || (nx == .same && ni == .same) || (opR x && nx == .rd && ni == .ef) || (opR i && ni == .rd && nx == .ef) || (opR x && opR i && nx == .rd && ni == .rd) || (opR x && nx == .rd && ni == .same) || (opR i && ni == .rd && nx == .same) || nx == .pu || (ni == .pu && (z1v x).isNone)

theorem zol {C : Ctx} {ops : Array Oper} {nx ni : Nd} {x i : Oper} {K : Hist -> Env -> Store -> Prop} {H : Hist} {Z : Env} {O : Store} (hap : x.apart ops i = true) (hh : zb9 C nx ni x.op i.op = true)
    (h : z28 C ops nx x (z28 C ops ni i K) H Z O) : z28 C ops ni i (z28 C ops nx x K) H Z O := by
  obtain ⟨a1, a2, a3⟩ := Oper.apart_spec hap
  have wi : ∀ u, z41 ops (putE Z x.dst u) i = z41 ops Z i := fun u => zhb a1
  have wx : ∀ u, z41 ops (putE Z i.dst u) x = z41 ops Z x := fun u => zhb a3
  have pc : ∀ u v, putE (putE Z x.dst u) i.dst v = putE (putE Z i.dst v) x.dst u := fun u v => zn4 a2
  -- the second one behind the first, by cases of its guard
  have inner : ∀ (n : Nd) (o : Oper) (K' : Hist -> Env -> Store -> Prop) (H' : Hist) (Z' : Env) (O' : Store), z28 C ops n o K' H' Z' O' =
    (match z41 ops Z' o with
      | some true => (∃ v s, OpTo C (ev C Z') O' o.op v s /\ n.ok C (ev C Z') o.op v H' O' s /\ K' (n.next C (ev C Z') o.op v H' O') (putE Z' o.dst v) s) \/ ((n = .no \/ n = .ef) /\ zan C n o K' H' Z' O')
      | some false => K' H' (putE Z' o.dst .undef) O'
      | none => False) := fun _ _ _ _ _ _ => rfl
  cases hwx : z41 ops Z x with
  | none => rw [inner, hwx] at h; exact h.elim
  | some bx =>
    cases hwi : z41 ops Z i with
    | none =>
      exfalso
      rw [inner, hwx] at h
      cases bx with
      | false => simp only at h; rw [inner, wi, hwi] at h; exact h
      | true =>
        rcases h with ⟨v, s, _, _, h3⟩ | ⟨_, P, _, ⟨v, s, hp⟩, h3⟩
        · rw [inner, wi, hwi] at h3; exact h3
        · have h4 := (h3 v s hp).2
          rw [inner, wi, hwi] at h4; exact h4
    | some bi =>
      cases bx with
      | false =>
        rw [inner, hwx] at h
        simp only at h
        rw [inner, wi, hwi] at h
        rw [inner, hwi]
        cases bi with
        | false => simp only at h ⊢; rw [inner, wx, hwx]; simp only; rw [<- pc]; exact h
        | true =>
          simp only at h ⊢
          rcases h with ⟨v, s, h1, h2, h3⟩ | ⟨h0, P, h1, hne, h2⟩
          · refine .inl ⟨v, s, (z4l a1).1 h1, (z5q a1).1 h2, ?_⟩
            rw [inner, wx, hwx]; simp only; rw [<- pc]
            rw [z5p a1] at h3; exact h3
          · refine .inr ⟨h0, P, (z8k a1).1 h1, hne, fun v s hp => ⟨(z5q a1).1 (h2 v s hp).1, ?_⟩⟩
            rw [inner, wx, hwx]; simp only; rw [<- pc]
            have h4 := (h2 v s hp).2
            rw [z5p a1] at h4; exact h4
      | true =>
        rw [inner, hwx] at h
        simp only at h
        rw [inner, hwi]
        cases bi with
        | false =>
          simp only
          rw [inner, wx, hwx]; simp only
          rcases h with ⟨v, s, h1, h2, h3⟩ | ⟨h0, P, h1, hne, h3⟩
          · rw [inner, wi, hwi] at h3
            exact .inl ⟨v, s, (z4l a3).2 h1, (z5q a3).2 h2, by rw [z5p a3, <- pc]; exact h3⟩
          · refine .inr ⟨h0, P, (z8k a3).2 h1, hne, fun v s hp => ⟨(z5q a3).2 (h3 v s hp).1, ?_⟩⟩
            have h4 := (h3 v s hp).2
            rw [inner, wi, hwi] at h4
            rw [z5p a3, <- pc]; exact h4
        | true =>
          simp only
          -- what x gives; what i gives behind it
          have second : ∀ {v : AV} {H' : Hist} {s : Store}, z28 C ops ni i K H' (putE Z x.dst v) s ->
              (∃ v2 s2, OpTo C (ev C Z) s i.op v2 s2 /\ ni.ok C (ev C Z) i.op v2 H' s s2 /\ K (ni.next C (ev C Z) i.op v2 H' s) (putE (putE Z i.dst v2) x.dst v) s2) ∨
              ((ni = .no \/ ni = .ef) /\ ∃ P, OpP C (ev C Z) s i.op P /\ (∃ v s, P v s) /\ ∀ v2 s2, P v2 s2 -> ni.ok C (ev C Z) i.op v2 H' s s2 /\ K (ni.next C (ev C Z) i.op v2 H' s) (putE (putE Z i.dst v2) x.dst v) s2) := by
            intro v H' s h4
            rw [inner, wi, hwi] at h4
            rcases h4 with ⟨v2, s2, k1, k2, k3⟩ | ⟨h0, P, k1, k2, k3⟩
            · rw [z5p a1, pc] at k3
              exact .inl ⟨v2, s2, (z4l a1).1 k1, (z5q a1).1 k2, k3⟩
            · refine .inr ⟨h0, P, (z8k a1).1 k1, k2, fun v2 s2 hp => ?_⟩
              have k4 := (k3 v2 s2 hp).2
              rw [z5p a1, pc] at k4
              exact ⟨(z5q a1).1 (k3 v2 s2 hp).1, k4⟩
          have first : ∀ {v2 : AV} {H' : Hist} {s : Store}, ((∃ v s2, OpTo C (ev C Z) s x.op v s2 /\ nx.ok C (ev C Z) x.op v H' s s2 /\ K (nx.next C (ev C Z) x.op v H' s) (putE (putE Z i.dst v2) x.dst v) s2) ∨
              ((nx = .no \/ nx = .ef) /\ ∃ P, OpP C (ev C Z) s x.op P /\ (∃ v s, P v s) /\ ∀ v s2, P v s2 -> nx.ok C (ev C Z) x.op v H' s s2 /\ K (nx.next C (ev C Z) x.op v H' s) (putE (putE Z i.dst v2) x.dst v) s2)) ->
              z28 C ops nx x K H' (putE Z i.dst v2) s := by
            intro v2 H' s h4
            rw [inner, wx, hwx]
            rcases h4 with ⟨v, s2, k1, k2, k3⟩ | ⟨h0, P, k1, k2, k3⟩
            · exact .inl ⟨v, s2, (z4l a3).2 k1, (z5q a3).2 k2, by rw [z5p a3]; exact k3⟩
            · exact .inr ⟨h0, P, (z8k a3).2 k1, k2, fun v s2 hp => ⟨(z5q a3).2 (k3 v s2 hp).1, by rw [z5p a3]; exact (k3 v s2 hp).2⟩⟩
          simp only [zb9, Bool.or_eq_true, Bool.and_eq_true, beq_iff_eq] at hh
          rcases hh with ((((((((⟨hn, rfl⟩ | ⟨hn, rfl⟩) | ⟨rfl, rfl⟩) | ⟨⟨hr, rfl⟩, rfl⟩) | ⟨⟨hr, rfl⟩, rfl⟩) | ⟨⟨⟨hrx, hri⟩, rfl⟩, rfl⟩) | ⟨⟨hr, rfl⟩, rfl⟩) | ⟨⟨hr, rfl⟩, rfl⟩) | rfl) | ⟨rfl, hcn⟩
          · -- x neither reads nor writes
            rcases h with ⟨v, s, h1, _, h3⟩ | ⟨_, P, h1, _⟩
            · obtain ⟨rfl, k1⟩ := z6x hn h1
              rcases second h3 with ⟨v2, s2, q1, q2, q3⟩ | ⟨h0, P, q1, q2, q3⟩
              · exact .inl ⟨v2, s2, q1, q2, first (.inl ⟨v, s2, k1 s2, trivial, q3⟩)⟩
              · exact .inr ⟨h0, P, q1, q2, fun v2 s2 hp => ⟨(q3 v2 s2 hp).1, first (.inl ⟨v, s2, k1 s2, trivial, (q3 v2 s2 hp).2⟩)⟩⟩
            · exact (zbj hn h1).elim
          · -- i neither reads nor writes
            rcases h with ⟨v, s, h1, h2, h3⟩ | ⟨h0, P, h1, ⟨v0, s0, hp0⟩, h3⟩
            · rcases second h3 with ⟨v2, s2, q1, _, q3⟩ | ⟨_, P, q1, _⟩
              · obtain ⟨rfl, k2⟩ := z6x hn q1
                exact .inl ⟨v2, O, k2 O, trivial, first (.inl ⟨v, s2, h1, h2, q3⟩)⟩
              · exact (zbj hn q1).elim
            · have get : ∀ v s, P v s -> ∃ v2, OpTo C (ev C Z) s i.op v2 s /\ K (nx.next C (ev C Z) x.op v H O) (putE (putE Z i.dst v2) x.dst v) s := by
                intro v s hp
                rcases second (h3 v s hp).2 with ⟨v2, s2, q1, _, q3⟩ | ⟨_, P, q1, _⟩
                · obtain ⟨rfl, _⟩ := z6x hn q1
                  exact ⟨v2, q1, q3⟩
                · exact (zbj hn q1).elim
              obtain ⟨v2, q1, _⟩ := get v0 s0 hp0
              obtain ⟨_, k2⟩ := z6x hn q1
              refine .inl ⟨v2, O, k2 O, trivial, first (.inr ⟨h0, P, h1, ⟨v0, s0, hp0⟩, fun v s hp => ⟨(h3 v s hp).1, ?_⟩⟩)⟩
              obtain ⟨v2', q2, q3⟩ := get v s hp
              have := zmi hn q1 q2
              subst this
              exact q3
          · -- both leave the store
            rcases h with ⟨v, s, h1, h2, h3⟩ | ⟨h0, _⟩
            · rcases second h3 with ⟨v2, s2, q1, q2, q3⟩ | ⟨h0, _⟩
              · simp only [Nd.ok] at h2 q2
                subst h2; subst q2
                exact .inl ⟨v2, s2, q1, rfl, first (.inl ⟨v, s2, h1, rfl, q3⟩)⟩
              · rcases h0 with h0 | h0 <;> cases h0
            · rcases h0 with h0 | h0 <;> cases h0
          · -- a read, an effect
            rcases h with ⟨v, s, h1, h2, h3⟩ | ⟨h0, _⟩
            · have := z6a hr h1
              subst this
              simp only [Nd.ok] at h2
              rcases second h3 with ⟨v2, s2, q1, q2, q3⟩ | ⟨h0, P, q1, q2, q3⟩
              · simp only [Nd.ok, Nd.next] at q2 q3
                refine .inl ⟨v2, s2, q1, q2.1, first (.inl ⟨v, s2, q2.2, ⟨rfl, fun g hg => ?_⟩, q3⟩)⟩
                rcases hg with hg | rfl
                · exact h2.2 g hg
                · exact h1
              · refine .inr ⟨h0, P, q1, q2, fun v2 s2 hp => ?_⟩
                have q4 := q3 v2 s2 hp
                simp only [Nd.ok, Nd.next] at q4
                refine ⟨q4.1.1, first (.inl ⟨v, s2, q4.1.2, ⟨rfl, fun g hg => ?_⟩, q4.2⟩)⟩
                rcases hg with hg | rfl
                · exact h2.2 g hg
                · exact h1
            · rcases h0 with h0 | h0 <;> cases h0
          · -- an effect, a read
            rcases h with ⟨v, s, h1, h2, h3⟩ | ⟨h0, P, h1, ⟨v0, s0, hp0⟩, h3⟩
            · rcases second h3 with ⟨v2, s2, q1, q2, q3⟩ | ⟨h0, _⟩
              · have := z6a hr q1
                subst this
                simp only [Nd.ok, Nd.next] at q2 q3 h2
                exact .inl ⟨v2, O, q2.2 O (.inr rfl), ⟨rfl, fun g hg => q2.2 g (.inl hg)⟩, first (.inl ⟨v, s2, h1, ⟨h2, q1⟩, q3⟩)⟩
              · rcases h0 with h0 | h0 <;> cases h0
            · have get : ∀ v s, P v s -> ∃ v2, OpTo C (ev C Z) s i.op v2 s /\ OpTo C (ev C Z) O i.op v2 O /\ (∀ g, H.pre g -> OpTo C (ev C Z) g i.op v2 g) ∧
                  K ⟨fun s => H.pre s \/ s = O, fun s => H.rds s /\ OpTo C (ev C Z) s i.op v2 s⟩ (putE (putE Z i.dst v2) x.dst v) s := by
                intro v s hp
                rcases second (h3 v s hp).2 with ⟨v2, s2, q1, q2, q3⟩ | ⟨h0, _⟩
                · have := z6a hr q1
                  subst this
                  simp only [Nd.ok, Nd.next] at q2 q3
                  exact ⟨v2, q1, q2.2 O (.inr rfl), fun g hg => q2.2 g (.inl hg), q3⟩
                · rcases h0 with h0 | h0 <;> cases h0
              obtain ⟨v2, _, q2, q3, _⟩ := get v0 s0 hp0
              refine .inl ⟨v2, O, q2, ⟨rfl, q3⟩, first (.inr ⟨h0, P, h1, ⟨v0, s0, hp0⟩, fun v s hp => ?_⟩)⟩
              obtain ⟨v2', k1, k2, _, k4⟩ := get v s hp
              have := zmj hr q2 k2
              subst this
              have h4 := (h3 v s hp).1
              simp only [Nd.ok] at h4
              exact ⟨⟨h4, k1⟩, k4⟩
          · -- two reads
            rcases h with ⟨v, s, h1, h2, h3⟩ | ⟨h0, _⟩
            · have := z6a hrx h1
              subst this
              rcases second h3 with ⟨v2, s2, q1, q2, q3⟩ | ⟨h0, _⟩
              · have := z6a hri q1
                subst this
                simp only [Nd.ok, Nd.next] at q2 q3 h2
                refine .inl ⟨v2, s2, q1, ⟨rfl, q2.2⟩, first (.inl ⟨v, s2, h1, ⟨rfl, h2.2⟩, ?_⟩)⟩
                simp only [Nd.next]
                have e : (fun s => (H.rds s /\ OpTo C (ev C Z) s i.op v2 s) /\ OpTo C (ev C Z) s x.op v s) = (fun s => (H.rds s /\ OpTo C (ev C Z) s x.op v s) /\ OpTo C (ev C Z) s i.op v2 s) := by
                  funext s
                  exact propext ⟨fun k => ⟨⟨k.1.1, k.2⟩, k.1.2⟩, fun k => ⟨⟨k.1.1, k.2⟩, k.1.2⟩⟩
                rw [e]; exact q3
              · rcases h0 with h0 | h0 <;> cases h0
            · rcases h0 with h0 | h0 <;> cases h0
          · -- a read, what leaves the store
            rcases h with ⟨v, s, h1, h2, h3⟩ | ⟨h0, _⟩
            · have := z6a hr h1
              subst this
              rcases second h3 with ⟨v2, s2, q1, q2, q3⟩ | ⟨h0, _⟩
              · simp only [Nd.ok] at q2
                subst q2
                exact .inl ⟨v2, s2, q1, rfl, first (.inl ⟨v, s2, h1, h2, q3⟩)⟩
              · rcases h0 with h0 | h0 <;> cases h0
            · rcases h0 with h0 | h0 <;> cases h0
          · -- what leaves the store, a read
            rcases h with ⟨v, s, h1, h2, h3⟩ | ⟨h0, _⟩
            · simp only [Nd.ok] at h2
              subst h2
              rcases second h3 with ⟨v2, s2, q1, q2, q3⟩ | ⟨h0, _⟩
              · have := z6a hr q1
                subst this
                exact .inl ⟨v2, s2, q1, q2, first (.inl ⟨v, s2, h1, rfl, q3⟩)⟩
              · rcases h0 with h0 | h0 <;> cases h0
            · rcases h0 with h0 | h0 <;> cases h0
          · -- the first one gives the same at every store
            rcases h with ⟨v, s, h1, h2, h3⟩ | ⟨h0, _⟩
            · simp only [Nd.ok] at h2
              obtain ⟨rfl, hall⟩ := h2
              rcases second h3 with ⟨v2, s2, q1, q2, q3⟩ | ⟨h0, P, q1, q2, q3⟩
              · exact .inl ⟨v2, s2, q1, q2, first (.inl ⟨v, s2, hall s2, ⟨rfl, hall⟩, q3⟩)⟩
              · exact .inr ⟨h0, P, q1, q2, fun v2 s2 hp => ⟨(q3 v2 s2 hp).1, first (.inl ⟨v, s2, hall s2, ⟨rfl, hall⟩, (q3 v2 s2 hp).2⟩)⟩⟩
            · rcases h0 with h0 | h0 <;> cases h0
          · -- the second one gives the same at every store
            rcases h with ⟨v, s, h1, h2, h3⟩ | ⟨_, P, h1, _⟩
            · rcases second h3 with ⟨v2, s2, q1, q2, q3⟩ | ⟨h0, _⟩
              · simp only [Nd.ok] at q2
                obtain ⟨rfl, hall⟩ := q2
                exact .inl ⟨v2, O, hall O, ⟨rfl, hall⟩, first (.inl ⟨v, s2, h1, h2, q3⟩)⟩
              · rcases h0 with h0 | h0 <;> cases h0
            · obtain ⟨fa, hc, _⟩ := h1
              rw [hc] at hcn; simp at hcn

/-! A list of operations, by their numbers. -/
def z29 (C : Ctx) (ops : Array Oper) (need : Nat -> Nd) (K : Env -> Store -> Prop) : List Nat -> Hist -> Env -> Store -> Prop
  | [], _, Z, O => K Z O
  | i :: rest, H, Z, O => match ops[i]? with
    | none => False
    | some o => z28 C ops (need i) o (z29 C ops need K rest) H Z O

theorem zgu {C : Ctx} {ops : Array Oper} {n : Nd} {o : Oper} {K K' : Hist -> Env -> Store -> Prop} {H : Hist} {Z : Env} {O : Store} (hk : ∀ H Z O, K H Z O -> K' H Z O) (h : z28 C ops n o K H Z O) : z28 C ops n o K' H Z O := by
  unfold z28 at *
  split at h
  · rcases h with ⟨v, O', h1, h2, h3⟩ | ⟨h0, P, h1, hne, h3⟩
    · exact .inl ⟨v, O', h1, h2, hk _ _ _ h3⟩
    · exact .inr ⟨h0, P, h1, hne, fun v O' hp => ⟨(h3 v O' hp).1, hk _ _ _ (h3 v O' hp).2⟩⟩
  · exact hk _ _ _ h
  · exact h.elim

/-- May x and i change places? -/
def free2 (C : Ctx) (ops : Array Oper) (need : Nat -> Nd) (x i : Nat) : Bool :=
  match ops[x]?, ops[i]? with
  | some ox, some oi => ox.apart ops oi && zb9 C (need x) (need i) ox.op oi.op
  | _, _ => false

theorem z4n {C : Ctx} {ops : Array Oper} {need : Nat -> Nd} {K : Env -> Store -> Prop} {i : Nat} {post : List Nat} : ∀ (pre : List Nat), (∀ x ∈ pre, free2 C ops need x i = true) -> ∀ H Z O, z29 C ops need K (pre ++ i :: post) H Z O ->
    z29 C ops need K (i :: (pre ++ post)) H Z O
  | [], _, H, Z, O, h => h
  | x :: pre, hf, H, Z, O, h => by
    have hx := hf x (by simp)
    have ih := z4n (C := C) (K := K) (post := post) pre (fun y hy => hf y (by simp [hy]))
    unfold free2 at hx
    cases hox : ops[x]? with
    | none => simp [hox] at hx
    | some ox =>
      cases hoi : ops[i]? with
      | none => simp [hox, hoi] at hx
      | some oi =>
        simp only [hox, hoi, Bool.and_eq_true] at hx
        simp only [List.cons_append, z29, hox, hoi] at h ⊢
        have h' := zgu (fun H Z O hh => ih H Z O hh) h
        have h'' : z28 C ops (need x) ox (z28 C ops (need i) oi (z29 C ops need K (pre ++ post))) H Z O := zgu (fun H Z O hh => by simpa only [z29, hoi] using hh) h'
        exact zol hx.1 hx.2 h''

/-! Which operation stands ahead of which. -/
def z3u (acc : List Nat) : List Oper -> List Nat
  | [] => acc
  | o :: os => z3u (acc ++ [o.after.toList.foldl (fun s e => if Region.binds .any e then s ||| 2 ^ e.on ||| acc.getD e.on 0 else s) 0]) os
def ahead_ (cl : List Nat) (x i : Nat) : Bool := (cl.getD i 0).testBit x

def z61 (ops : Array Oper) (L : Nat -> Bool) : Prop := ∀ (i : Nat) (o : Oper), ops[i]? = some o -> L i = true -> ∀ e ∈ o.after, Region.binds .any e = true -> L e.on = true

theorem zea (acc : List Nat) (x : Nat) : ∀ (l : List Edge) (s : Nat), (l.foldl (fun s e => if Region.binds .any e then s ||| 2 ^ e.on ||| acc.getD e.on 0 else s) s).testBit x = true ->
    s.testBit x = true \/ ∃ e ∈ l, Region.binds .any e = true /\ (e.on = x \/ (acc.getD e.on 0).testBit x = true)
  | [], s, h => .inl h
  | e :: l, s, h => by
    simp only [List.foldl_cons] at h
    rcases zea acc x l _ h with h1 | ⟨e', he', h1⟩
    · split at h1
      · rename_i hb
        simp only [Nat.testBit_or, Bool.or_eq_true, Nat.testBit_two_pow, decide_eq_true_eq] at h1
        rcases h1 with (h1 | h1) | h1
        · exact .inl h1
        · exact .inr ⟨e, by simp, hb, .inl h1⟩
        · exact .inr ⟨e, by simp, hb, .inr h1⟩
      · exact .inl h1
    · exact .inr ⟨e', by simp [he'], h1⟩

theorem zdx {ops : Array Oper} {L : Nat -> Bool} (hL : z61 ops L) : ∀ (os : List Oper) (acc : List Nat), (∀ j, os[j]? = ops[acc.length + j]?) ->
    (∀ (i x : Nat), i < acc.length -> (∀ (o : Oper), ops[i]? = some o -> ∀ e ∈ o.after, Region.binds .any e = true -> L e.on = true) -> (acc.getD i 0).testBit x = true -> L x = true) ->
    ∀ (i x : Nat), (∀ (o : Oper), ops[i]? = some o -> ∀ e ∈ o.after, Region.binds .any e = true -> L e.on = true) -> ((z3u acc os).getD i 0).testBit x = true -> L x = true
  | [], acc, hs, hacc, i, x, hi, h => by
    simp only [z3u] at h
    rcases Nat.lt_or_ge i acc.length with hl | hl
    · exact hacc i x hl hi h
    · rw [List.getD_eq_getElem?_getD, List.getElem?_eq_none hl] at h; simp at h
  | o :: os, acc, hs, hacc, i, x, hi, h => by
    simp only [z3u] at h
    have h0 : ops[acc.length]? = some o := by have := hs 0; simpa using this.symm
    refine zdx hL os _ (fun j => ?_) (fun k y hk hk2 hb => ?_) i x hi h
    · have := hs (j + 1)
      simp only [List.getElem?_cons_succ] at this
      rw [this, List.length_append, List.length_singleton]
      congr 1; omega
    · rcases Nat.lt_or_ge k acc.length with hl | hl
      · rw [List.getD_eq_getElem?_getD, List.getElem?_append_left hl, <- List.getD_eq_getElem?_getD] at hb
        exact hacc k y hl hk2 hb
      · have hke : k = acc.length := by simp at hk; omega
        subst hke
        rw [List.getD_eq_getElem?_getD, List.getElem?_concat_length] at hb
        simp only [Option.getD_some] at hb
        rcases zea acc y _ 0 hb with h1 | ⟨e, he, hbd, h1⟩
        · simp at h1
        · have hLe : L e.on = true := hk2 o h0 e (by simpa using he) hbd
          rcases h1 with rfl | h1
          · exact hLe
          · rcases Nat.lt_or_ge e.on acc.length with hl2 | hl2
            · exact hacc e.on y hl2 (fun o' ho' e' he' hb' => hL e.on o' ho' hLe e' he' hb') h1
            · rw [List.getD_eq_getElem?_getD, List.getElem?_eq_none hl2] at h1; simp at h1

/-- A region whose order is drawn may be gone through in the text's order. -/
def zbh (C : Ctx) (ops : Array Oper) (need : Nat -> Nd) : Bool :=
  let cl := z3u [] ops.toList
  (List.range ops.size).all fun i => (List.range i).all fun x => ahead_ cl x i || free2 C ops need x i
def z57 (ops : Array Oper) : Bool := (List.range ops.size).all fun i => match ops[i]? with | some o => o.after.toList.all fun e => !Region.binds .any e || decide (e.on < i) | none => true

/-- The least one that is left is ready. -/
theorem zfj {ops : Array Oper} (hback : z57 ops = true) {listed : Array Bool} {i : Nat} {L : List Nat} (hls : listed.size = ops.size) (hL : ∀ j, j ∈ i :: L ↔ j < ops.size /\ listed.getD j true = false)
    (hpw : (i :: L).Pairwise (· < ·)) : i ∈ Region.ready .any ops listed := by
  have hi := (hL i).1 (by simp)
  unfold Region.ready
  simp only [List.mem_filter, List.mem_range, Bool.and_eq_true, Bool.not_eq_true']
  refine ⟨hi.1, hi.2, ?_⟩
  have ho : ops[i]? = some ops[i] := Array.getElem?_eq_getElem hi.1
  rw [ho]
  simp only [Option.map_some, Option.getD_some]
  rw [Array.all_eq_true_iff_forall_mem]
  intro e he
  by_cases hb : Region.binds .any e = true
  · have hb2 := List.all_eq_true.1 hback i (by simpa using hi.1)
    rw [ho] at hb2
    simp only at hb2
    have hb3 := List.all_eq_true.1 hb2 e (by simpa using he)
    simp only [hb, Bool.not_true, Bool.false_or, decide_eq_true_eq] at hb3
    -- what stands ahead of the least one that is left is listed
    have : listed.getD e.on false = true := by
      rcases hl : listed.getD e.on false with _ | _
      · have hsz : e.on < listed.size := by omega
        have hf : listed.getD e.on true = false := by
          simp only [Array.getD_eq_getD_getElem?, Array.getElem?_eq_getElem hsz, Option.getD_some] at hl ⊢
          exact hl
        have hin := (hL e.on).2 ⟨by omega, hf⟩
        rcases List.mem_cons.1 hin with h1 | h1
        · omega
        · have := (List.pairwise_cons.1 hpw).1 e.on h1
          omega
      · rfl
    simp [this]
  · simp [hb]
/-- What is ready: it is left, and what stands ahead of it is not. -/
theorem zbx {ops : Array Oper} {listed : Array Bool} {i : Nat} (hi : i ∈ Region.ready .any ops listed) :
    i < ops.size /\ listed.getD i true = false /\ ∀ (o : Oper), ops[i]? = some o -> ∀ e ∈ o.after, Region.binds .any e = true -> listed.getD e.on false = true := by
  unfold Region.ready at hi
  simp only [List.mem_filter, List.mem_range, Bool.and_eq_true, Bool.not_eq_true'] at hi
  obtain ⟨hi1, hi2, hi3⟩ := hi
  have ho : ops[i]? = some ops[i] := Array.getElem?_eq_getElem hi1
  rw [ho] at hi3
  simp only [Option.map_some, Option.getD_some, Array.all_eq_true_iff_forall_mem] at hi3
  refine ⟨hi1, hi2, ?_⟩
  intro o ho' e he hb
  rw [ho] at ho'; cases ho'
  have := hi3 e he
  simpa [hb] using this
/-- .. so none that is left stands ahead of it. -/
theorem z9p {ops : Array Oper} {listed : Array Bool} {i x : Nat} (hdown : z61 ops (fun i => listed.getD i false)) (hdeps : ∀ (o : Oper), ops[i]? = some o -> ∀ e ∈ o.after, Region.binds .any e = true -> listed.getD e.on false = true)
    (hsz : x < listed.size) (hx : listed.getD x true = false) : ¬ ahead_ (z3u [] ops.toList) x i = true := by
  intro h1
  have := zdx (L := fun i => listed.getD i false) hdown ops.toList [] (fun j => by simp) (by simp) i x hdeps h1
  simp only [Array.getD_eq_getD_getElem?, Array.getElem?_eq_getElem hsz, Option.getD_some] at this hx
  rw [this] at hx
  simp at hx
/-- One more is listed. -/
theorem z6v {ops : Array Oper} {listed : Array Bool} {i : Nat} {L L' : List Nat} (hsz : i < listed.size) (hL : ∀ j, j ∈ L ↔ j < ops.size /\ listed.getD j true = false) (h : ∀ j, j ∈ L' ↔ j ∈ L /\ j ≠ i) :
    ∀ j, j ∈ L' ↔ j < ops.size /\ (listed.setIfInBounds i true).getD j true = false := by
  intro j
  rw [h j, hL j]
  simp only [Array.getD_eq_getD_getElem?, Array.getElem?_setIfInBounds]
  by_cases hji : i = j
  · subst hji
    simp [hsz]
  · rw [if_neg hji]
    constructor
    · rintro ⟨h1, _⟩; exact h1
    · exact fun h1 => ⟨h1, fun e => hji e.symm⟩
theorem z6t {ops : Array Oper} {listed : Array Bool} {i : Nat} (hsz : i < listed.size) (hdown : z61 ops (fun i => listed.getD i false)) (hdeps : ∀ (o : Oper), ops[i]? = some o -> ∀ e ∈ o.after, Region.binds .any e = true -> listed.getD e.on false = true) :
    z61 ops (fun j => (listed.setIfInBounds i true).getD j false) := by
  intro j o hj hlj e he hbd
  simp only [Array.getD_eq_getD_getElem?, Array.getElem?_setIfInBounds] at hlj ⊢
  by_cases hji : i = j
  · subst hji
    have := hdeps o hj e he hbd
    simp only [Array.getD_eq_getD_getElem?] at this
    by_cases hie : i = e.on
    · simp [<- hie, hsz]
    · rw [if_neg hie]; exact this
  · rw [if_neg hji] at hlj
    have := hdown j o hj (by simpa [Array.getD_eq_getD_getElem?] using hlj) e he hbd
    simp only [Array.getD_eq_getD_getElem?] at this
    by_cases hie : i = e.on
    · simp [<- hie, hsz]
    · rw [if_neg hie]; exact this
theorem z2h {pre post : List Nat} {i : Nat} (hpw : (pre ++ i :: post).Pairwise (· < ·)) (j : Nat) : j ∈ pre ++ post ↔ j ∈ pre ++ i :: post /\ j ≠ i := by
  have h1 := List.pairwise_append.1 hpw
  have h2 := List.pairwise_cons.1 h1.2.1
  constructor
  · intro h
    rcases List.mem_append.1 h with h | h
    · exact ⟨by simp [h], fun e => by have := h1.2.2 j h i (by simp); omega⟩
    · exact ⟨by simp [h], fun e => by have := h2.1 j h; omega⟩
  · rintro ⟨h, hne⟩
    rcases List.mem_append.1 h with h | h
    · exact List.mem_append_left _ h
    · rcases List.mem_cons.1 h with h | h
      · exact absurd h hne
      · exact List.mem_append_right _ h
theorem z6y {pre post : List Nat} {i : Nat} (hpw : (pre ++ i :: post).Pairwise (· < ·)) : (pre ++ post).Pairwise (· < ·) :=
  hpw.sublist (List.Sublist.append (List.Sublist.refl _) (List.sublist_cons_self _ _))
def z9j (C : Ctx) (ops : Array Oper) (need : Nat -> Nd) (x i : Nat) : Prop := ahead_ (z3u [] ops.toList) x i = true \/ free2 C ops need x i = true
theorem z9a {C : Ctx} {ops : Array Oper} {need : Nat -> Nd} {K : Env -> Store -> Prop} {Q : Exit -> Act -> World -> Prop} (hback : z57 ops = true) {n : Nat} (hdst : ∀ o ∈ ops, ∀ d, o.dst = some d -> d < n) :
    ∀ (fuel : Nat) (listed : Array Bool) (L : List Nat), listed.size = ops.size -> (∀ i, i ∈ L ↔ i < ops.size /\ listed.getD i true = false) -> L.Pairwise (· < ·) -> z61 ops (fun i => listed.getD i false) -> L.length <= fuel ->
      (∀ x i, x ∈ L -> i ∈ L -> x < i -> z9j C ops need x i) ->
      ∀ (H : Hist) (Z : Env) (O : Store) (γ : Places) (a : Act) (w : World), z29 C ops need K L H Z O -> Rel C γ O w -> EnvR γ w Z a.tmps -> a.tmps.size = n ->
        (∀ Z' O' γ' a' w', K Z' O' -> Step γ w γ' w' -> Rel C γ' O' w' -> EnvR γ' w' Z' a'.tmps -> a'.defers = a.defers -> a'.tmps.size = n -> Q .normal a' w') ->
        wpAny C.P .any ops Q fuel listed a w := by
  intro fuel
  induction fuel with
  | zero =>
    intro listed L hls hL hpw hdown hlen hok H Z O γ a w h hR hE hn hQ
    have : L = [] := List.eq_nil_of_length_eq_zero (by omega)
    subst this
    simp only [wpAny]
    refine ⟨?_, hQ Z O γ a w h (Step.refl _ _) hR hE rfl hn⟩
    apply List.eq_nil_iff_forall_not_mem.2
    intro i hi
    obtain ⟨k1, k2, _⟩ := zbx hi
    exact absurd ((hL i).2 ⟨k1, k2⟩) (by simp)
  | succ fuel ih =>
    intro listed L hls hL hpw hdown hlen hok H Z O γ a w h hR hE hn hQ
    simp only [wpAny]
    refine ⟨fun hready => ?_, fun i hi => ?_⟩
    · cases L with
      | nil => exact hQ Z O γ a w h (Step.refl _ _) hR hE rfl hn
      | cons i L =>
        have := zfj hback hls hL hpw
        rw [hready] at this
        simp at this
    · -- one that is ready goes ahead of all that are left
      obtain ⟨hi1, hi2, hdeps⟩ := zbx hi
      have hin := (hL i).2 ⟨hi1, hi2⟩
      obtain ⟨pre, post, rfl⟩ := List.append_of_mem hin
      have ho : ops[i]? = some ops[i] := Array.getElem?_eq_getElem hi1
      have hsizei : i < listed.size := by omega
      have hfree : ∀ x ∈ pre, free2 C ops need x i = true := by
        intro x hx
        have hxi : x < i := (List.pairwise_append.1 hpw).2.2 x hx i (by simp)
        rcases hok x i (by simp [hx]) hin hxi with h1 | h1
        · have hx2 := (hL x).1 (by simp [hx])
          exact absurd h1 (z9p hdown hdeps (by omega) hx2.2)
        · exact h1
      have hb := z4n (C := C) (K := K) (post := post) pre hfree H Z O h
      simp only [z29, ho] at hb
      refine z6j ho (fun x hx => by rw [hn]; exact hdst _ (Array.getElem_mem hi1) x hx) hR hE hb fun H' Z' O' γ' a' w' hK hst hR' hE' hdf hsz => ?_
      refine ih (listed.setIfInBounds i true) (pre ++ post) (by simpa using hls) (z6v hsizei hL (z2h hpw)) (z6y hpw) (z6t hsizei hdown hdeps) (by simp at hlen ⊢; omega)
        (fun x j hx hj => hok x j ((z2h hpw x).1 hx).1 ((z2h hpw j).1 hj).1) H' Z' O' γ' a' w' hK hR' hE' (hsz.trans hn) ?_
      intro Z2 O2 γ2 a2 w2 k1 k2 k3 k4 k5 k6
      exact hQ Z2 O2 γ2 a2 w2 k1 (hst.trans k2) k3 k4 (k5.trans hdf) k6
theorem zf3 {C : Ctx} {ops : Array Oper} {need : Nat -> Nd} (hok : zbh C ops need = true) {x i : Nat} (hi : i < ops.size) (hxi : x < i) : z9j C ops need x i := by
  have hok1 := List.all_eq_true.1 hok i (by simpa using hi)
  have hok2 := List.all_eq_true.1 hok1 x (by simpa using hxi)
  simpa only [z9j, Bool.or_eq_true] using hok2

/-! Two operations in no order that may not change places: both orders. -/
theorem zhr {C : Ctx} {e : Operand -> AV} {O s1 s2 : Store} {op : Op} {v1 v2 : AV} (hn : z1v op = none) (h1 : OpTo C e O op v1 s1) (h2 : OpTo C e O op v2 s2) : v1 = v2 /\ s1 = s2 := by
  unfold OpTo at h1 h2
  rw [hn] at h1 h2
  simp only at h1 h2
  rw [h1] at h2
  simpa using h2
theorem zcq {C : Ctx} {ops : Array Oper} {n : Nd} {o : Oper} {K K' : Hist -> Env -> Store -> Prop} {H : Hist} {Z : Env} {O : Store} (hn : z1v o.op = none) (h : z28 C ops n o K H Z O) (h' : z28 C ops n o K' H Z O) :
    z28 C ops n o (fun H Z O => K H Z O /\ K' H Z O) H Z O := by
  have nop : ∀ {P}, OpP C (ev C Z) O o.op P -> False := fun hp => by
    obtain ⟨⟨f, args⟩, hc, _⟩ := hp
    rw [hn] at hc; cases hc
  unfold z28 at *
  split at h
  · rename_i hw
    rw [hw] at h'
    simp only at h'
    rcases h with ⟨v, s, h1, h2, h3⟩ | ⟨_, P, h1, _⟩
    · rcases h' with ⟨v', s', k1, k2, k3⟩ | ⟨_, P, k1, _⟩
      · obtain ⟨rfl, rfl⟩ := zhr hn h1 k1
        exact .inl ⟨v, s, h1, h2, h3, k3⟩
      · exact (nop k1).elim
    · exact (nop h1).elim
  · rename_i hw
    rw [hw] at h'
    exact ⟨h, h'⟩
  · exact h.elim
theorem zjf {C : Ctx} {ops : Array Oper} {need : Nat -> Nd} {K : Env -> Store -> Prop} {Q : Exit -> Act -> World -> Prop} (hback : z57 ops = true) {n : Nat} (hdst : ∀ o ∈ ops, ∀ d, o.dst = some d -> d < n) {p q : Nat} :
    ∀ (fuel : Nat) (listed : Array Bool) (A B D : List Nat), listed.size = ops.size -> (∀ i, i ∈ A ++ p :: (B ++ q :: D) ↔ i < ops.size /\ listed.getD i true = false) -> (A ++ p :: (B ++ q :: D)).Pairwise (· < ·) -> z61 ops (fun i => listed.getD i false) -> (A ++ p :: (B ++ q :: D)).length <= fuel ->
      (∀ x i, x ∈ A ++ p :: (B ++ q :: D) -> i ∈ A ++ p :: (B ++ q :: D) -> x < i -> (x = p /\ i = q) \/ z9j C ops need x i) -> (∀ y ∈ B, free2 C ops need q y = true) ->
      (∀ y ∈ A ++ (B ++ D), (∃ o, ops[y]? = some o /\ z1v o.op = none) \/ ahead_ (z3u [] ops.toList) p y = true \/ ahead_ (z3u [] ops.toList) q y = true) ->
      ∀ (H : Hist) (Z : Env) (O : Store) (γ : Places) (a : Act) (w : World), z29 C ops need K (A ++ p :: (B ++ q :: D)) H Z O -> z29 C ops need K (A ++ q :: p :: (B ++ D)) H Z O -> Rel C γ O w -> EnvR γ w Z a.tmps -> a.tmps.size = n ->
        (∀ Z' O' γ' a' w', K Z' O' -> Step γ w γ' w' -> Rel C γ' O' w' -> EnvR γ' w' Z' a'.tmps -> a'.defers = a.defers -> a'.tmps.size = n -> Q .normal a' w') ->
        wpAny C.P .any ops Q fuel listed a w := by
  intro fuel
  induction fuel with
  | zero =>
    intro listed A B D hls hL hpw hdown hlen
    simp at hlen
  | succ fuel ih =>
    intro listed A B D hls hL hpw hdown hlen hok hqB hcall H Z O γ a w h h' hR hE hn hQ
    simp only [wpAny]
    refine ⟨fun hready => ?_, fun i hi => ?_⟩
    · exfalso
      cases hl : A ++ p :: (B ++ q :: D) with
      | nil => simp at hl
      | cons i L =>
        rw [hl] at hL hpw
        have := zfj hback hls hL hpw
        rw [hready] at this
        simp at this
    · obtain ⟨hi1, hi2, hdeps⟩ := zbx hi
      have hin := (hL i).2 ⟨hi1, hi2⟩
      have ho : ops[i]? = some ops[i] := Array.getElem?_eq_getElem hi1
      have hsizei : i < listed.size := by omega
      have hlt : ∀ x ∈ A ++ p :: (B ++ q :: D), x < i -> ¬ (x = p /\ i = q) -> free2 C ops need x i = true := by
        intro x hx hxi hne
        rcases hok x i hx hin hxi with h1 | h1 | h1
        · exact absurd h1 hne
        · have hx2 := (hL x).1 hx
          exact absurd h1 (z9p hdown hdeps (by omega) hx2.2)
        · exact h1
      have hp1 := List.pairwise_append.1 hpw
      have hp2 := List.pairwise_cons.1 hp1.2.1
      have hp3 := List.pairwise_append.1 hp2.2
      have hp4 := List.pairwise_cons.1 hp3.2.1
      have hpq : p < q := hp2.1 q (by simp)
      have hpl := (hL p).1 (by simp)
      have hql := (hL q).1 (by simp)
      have nocall : i ∈ A ++ (B ++ D) -> z1v ops[i].op = none := by
        intro hm
        rcases hcall i hm with ⟨o, h1, h2⟩ | h1 | h1
        · rw [ho] at h1; cases h1; exact h2
        · exact absurd h1 (z9p hdown hdeps (by omega) hpl.2)
        · exact absurd h1 (z9p hdown hdeps (by omega) hql.2)
      have hdst' : ∀ x, ops[i].dst = some x -> x < a.tmps.size := fun x hx => by rw [hn]; exact hdst _ (Array.getElem_mem hi1) x hx
      have fin : ∀ {γ' : Places} {a' : Act} {w' : World}, Step γ w γ' w' -> a'.defers = a.defers -> a'.tmps.size = a.tmps.size -> (∀ (Z2 : Env) (O2 : Store) (γ2 : Places) (a2 : Act) (w2 : World), K Z2 O2 -> Step γ' w' γ2 w2 -> Rel C γ2 O2 w2 -> EnvR γ2 w2 Z2 a2.tmps -> a2.defers = a'.defers -> a2.tmps.size = n -> Q .normal a2 w2) := by
        intro γ' a' w' hst hdf _ Z2 O2 γ2 a2 w2 k1 k2 k3 k4 k5 k6
        exact hQ Z2 O2 γ2 a2 w2 k1 (hst.trans k2) k3 k4 (k5.trans hdf) k6
      rcases List.mem_append.1 hin with hA | hin2
      · -- ahead of both
        obtain ⟨A1, A2, rfl⟩ := List.append_of_mem hA
        have hnc := nocall (by simp)
        have e1 : (A1 ++ i :: A2) ++ p :: (B ++ q :: D) = A1 ++ i :: (A2 ++ p :: (B ++ q :: D)) := by simp
        have e2 : (A1 ++ i :: A2) ++ q :: p :: (B ++ D) = A1 ++ i :: (A2 ++ q :: p :: (B ++ D)) := by simp
        have e3 : (A1 ++ A2) ++ p :: (B ++ q :: D) = A1 ++ (A2 ++ p :: (B ++ q :: D)) := by simp
        have e4 : (A1 ++ A2) ++ q :: p :: (B ++ D) = A1 ++ (A2 ++ q :: p :: (B ++ D)) := by simp
        rw [e1] at h hL hpw hlen
        rw [e2] at h'
        have hx : ∀ x ∈ A1, free2 C ops need x i = true := fun x hx => hlt x (by simp [hx]) ((List.pairwise_append.1 hpw).2.2 x hx i (by simp)) (fun e => by
          have := hp1.2.2 i (by simp) p (by simp); omega)
        have b1 := z4n (C := C) (K := K) A1 hx H Z O h
        have b2 := z4n (C := C) (K := K) A1 hx H Z O h'
        simp only [z29, ho] at b1 b2
        refine z6j ho hdst' hR hE (zcq hnc b1 b2) fun H' Z' O' γ' a' w' hK hst hR' hE' hdf hsz => ?_
        refine ih (listed.setIfInBounds i true) (A1 ++ A2) B D (by simpa using hls) (by rw [e3]; exact z6v hsizei hL (z2h hpw)) (by rw [e3]; exact z6y hpw) (z6t hsizei hdown hdeps) (by rw [e3]; simp at hlen ⊢; omega)
          (fun x j hx hj => by rw [e3] at hx hj; exact hok x j (by rw [e1]; exact ((z2h hpw x).1 hx).1) (by rw [e1]; exact ((z2h hpw j).1 hj).1)) hqB (fun y hy => hcall y (by
            simp only [List.mem_append, List.mem_cons] at hy ⊢
            rcases hy with (hy | hy) | hy
            · exact .inl (.inl hy)
            · exact .inl (.inr (.inr hy))
            · exact .inr hy)) H' Z' O' γ' a' w' (by rw [e3]; exact hK.1) (by rw [e4]; exact hK.2) hR' hE' (hsz.trans hn) (fin hst hdf hsz)
      · rcases List.mem_cons.1 hin2 with rfl | hin3
        · -- the first one of the two: from here on the text's order
          have hx : ∀ x ∈ A, free2 C ops need x i = true := fun x hx => hlt x (by simp [hx]) (hp1.2.2 x hx i (by simp)) (fun e => by omega)
          have b1 := z4n (C := C) (K := K) A hx H Z O h
          simp only [z29, ho] at b1
          refine z6j ho hdst' hR hE b1 fun H' Z' O' γ' a' w' hK hst hR' hE' hdf hsz => ?_
          refine z9a hback hdst fuel (listed.setIfInBounds i true) (A ++ (B ++ q :: D)) (by simpa using hls) (z6v hsizei hL (z2h hpw)) (z6y hpw) (z6t hsizei hdown hdeps) (by simp at hlen ⊢; omega)
            (fun x j hx hj hxj => (hok x j ((z2h hpw x).1 hx).1 ((z2h hpw j).1 hj).1 hxj).resolve_left (fun e => ((z2h hpw x).1 hx).2 e.1)) H' Z' O' γ' a' w' hK hR' hE' (hsz.trans hn) (fin hst hdf hsz)
        · rcases List.mem_append.1 hin3 with hB | hin4
          · -- between the two
            obtain ⟨B1, B2, rfl⟩ := List.append_of_mem hB
            have hnc := nocall (by simp)
            have e1 : A ++ p :: ((B1 ++ i :: B2) ++ q :: D) = (A ++ p :: B1) ++ i :: (B2 ++ q :: D) := by simp
            have e2 : A ++ q :: p :: ((B1 ++ i :: B2) ++ D) = (A ++ q :: p :: B1) ++ i :: (B2 ++ D) := by simp
            have e3 : A ++ p :: ((B1 ++ B2) ++ q :: D) = (A ++ p :: B1) ++ (B2 ++ q :: D) := by simp
            have e4 : A ++ q :: p :: ((B1 ++ B2) ++ D) = (A ++ q :: p :: B1) ++ (B2 ++ D) := by simp
            have hiq : i < q := hp3.2.2 i (by simp) q (by simp)
            rw [e1] at h hL hpw hlen
            rw [e2] at h'
            have hx : ∀ x ∈ A ++ p :: B1, free2 C ops need x i = true := fun x hx => hlt x (by
              rw [e1]; exact List.mem_append_left _ hx) ((List.pairwise_append.1 hpw).2.2 x hx i (by simp)) (fun e => by omega)
            have hx' : ∀ x ∈ A ++ q :: p :: B1, free2 C ops need x i = true := fun x hx2 => by
              simp only [List.mem_append, List.mem_cons] at hx2
              rcases hx2 with h1 | rfl | h1 | h1
              · exact hx x (by simp [h1])
              · exact hqB i (by simp)
              · exact hx x (by simp [h1])
              · exact hx x (by simp [h1])
            have b1 := z4n (C := C) (K := K) (A ++ p :: B1) hx H Z O h
            have b2 := z4n (C := C) (K := K) (A ++ q :: p :: B1) hx' H Z O h'
            simp only [z29, ho] at b1 b2
            refine z6j ho hdst' hR hE (zcq hnc b1 b2) fun H' Z' O' γ' a' w' hK hst hR' hE' hdf hsz => ?_
            refine ih (listed.setIfInBounds i true) A (B1 ++ B2) D (by simpa using hls) (by rw [e3]; exact z6v hsizei hL (z2h hpw)) (by rw [e3]; exact z6y hpw) (z6t hsizei hdown hdeps) (by rw [e3]; simp at hlen ⊢; omega)
              (fun x j hx hj => by rw [e3] at hx hj; exact hok x j (by rw [e1]; exact ((z2h hpw x).1 hx).1) (by rw [e1]; exact ((z2h hpw j).1 hj).1)) (fun y hy => hqB y (by
                simp only [List.mem_append, List.mem_cons] at hy ⊢
                rcases hy with hy | hy
                · exact .inl hy
                · exact .inr (.inr hy))) (fun y hy => hcall y (by
                simp only [List.mem_append, List.mem_cons] at hy ⊢
                rcases hy with hy | (hy | hy) | hy
                · exact .inl hy
                · exact .inr (.inl (.inl hy))
                · exact .inr (.inl (.inr (.inr hy)))
                · exact .inr (.inr hy))) H' Z' O' γ' a' w' (by rw [e3]; exact hK.1) (by rw [e4]; exact hK.2) hR' hE' (hsz.trans hn) (fin hst hdf hsz)
          · rcases List.mem_cons.1 hin4 with rfl | hD
            · -- the second one of the two: from here on the other order, which is the text's for what is left
              have e3 : A ++ p :: (B ++ i :: D) = (A ++ p :: B) ++ i :: D := by simp
              have e5 : A ++ p :: (B ++ D) = (A ++ p :: B) ++ D := by simp
              have hx : ∀ x ∈ A, free2 C ops need x i = true := fun x hx => hlt x (by simp [hx]) (hp1.2.2 x hx i (by simp)) (fun e => by
                have := hp1.2.2 x hx p (by simp); omega)
              have b1 := z4n (C := C) (K := K) A hx H Z O h'
              simp only [z29, ho] at b1
              rw [e3] at hL hpw hlen
              refine z6j ho hdst' hR hE b1 fun H' Z' O' γ' a' w' hK hst hR' hE' hdf hsz => ?_
              refine z9a hback hdst fuel (listed.setIfInBounds i true) ((A ++ p :: B) ++ D) (by simpa using hls) (z6v hsizei hL (z2h hpw)) (z6y hpw) (z6t hsizei hdown hdeps) (by simp at hlen ⊢; omega)
                (fun x j hx hj hxj => (hok x j (by rw [e3]; exact ((z2h hpw x).1 hx).1) (by rw [e3]; exact ((z2h hpw j).1 hj).1) hxj).resolve_left (fun e => ((z2h hpw j).1 hj).2 e.2)) H' Z' O' γ' a' w' (by rw [<- e5]; exact hK) hR' hE' (hsz.trans hn) (fin hst hdf hsz)
            · -- behind both
              obtain ⟨D1, D2, rfl⟩ := List.append_of_mem hD
              have hnc := nocall (by simp)
              have e1 : A ++ p :: (B ++ q :: (D1 ++ i :: D2)) = (A ++ p :: (B ++ q :: D1)) ++ i :: D2 := by simp
              have e2 : A ++ q :: p :: (B ++ (D1 ++ i :: D2)) = (A ++ q :: p :: (B ++ D1)) ++ i :: D2 := by simp
              have e3 : A ++ p :: (B ++ q :: (D1 ++ D2)) = (A ++ p :: (B ++ q :: D1)) ++ D2 := by simp
              have e4 : A ++ q :: p :: (B ++ (D1 ++ D2)) = (A ++ q :: p :: (B ++ D1)) ++ D2 := by simp
              have hqi : q < i := hp4.1 i (by simp)
              rw [e1] at h hL hpw hlen
              rw [e2] at h'
              have hx : ∀ x ∈ A ++ p :: (B ++ q :: D1), free2 C ops need x i = true := fun x hx => hlt x (by
                rw [e1]; exact List.mem_append_left _ hx) ((List.pairwise_append.1 hpw).2.2 x hx i (by simp)) (fun e => by omega)
              have hx' : ∀ x ∈ A ++ q :: p :: (B ++ D1), free2 C ops need x i = true := fun x hx2 => hx x (by
                simp only [List.mem_append, List.mem_cons] at hx2 ⊢
                rcases hx2 with h1 | h1 | h1 | h1 | h1
                · exact .inl h1
                · exact .inr (.inr (.inr (.inl h1)))
                · exact .inr (.inl h1)
                · exact .inr (.inr (.inl h1))
                · exact .inr (.inr (.inr (.inr h1))))
              have b1 := z4n (C := C) (K := K) (A ++ p :: (B ++ q :: D1)) hx H Z O h
              have b2 := z4n (C := C) (K := K) (A ++ q :: p :: (B ++ D1)) hx' H Z O h'
              simp only [z29, ho] at b1 b2
              refine z6j ho hdst' hR hE (zcq hnc b1 b2) fun H' Z' O' γ' a' w' hK hst hR' hE' hdf hsz => ?_
              refine ih (listed.setIfInBounds i true) A B (D1 ++ D2) (by simpa using hls) (by rw [e3]; exact z6v hsizei hL (z2h hpw)) (by rw [e3]; exact z6y hpw) (z6t hsizei hdown hdeps) (by rw [e3]; simp at hlen ⊢; omega)
                (fun x j hx hj => by rw [e3] at hx hj; exact hok x j (by rw [e1]; exact ((z2h hpw x).1 hx).1) (by rw [e1]; exact ((z2h hpw j).1 hj).1)) hqB (fun y hy => hcall y (by
                  simp only [List.mem_append, List.mem_cons] at hy ⊢
                  rcases hy with hy | hy | (hy | hy)
                  · exact .inl hy
                  · exact .inr (.inl hy)
                  · exact .inr (.inr (.inl hy))
                  · exact .inr (.inr (.inr (.inr hy))))) H' Z' O' γ' a' w' (by rw [e3]; exact hK.1) (by rw [e4]; exact hK.2) hR' hE' (hsz.trans hn) (fin hst hdf hsz)
end Am
end Go.Proofs.YtncenefkbpelbaaDoor
end
section
/- The abstract machine: two operations in no order of which one makes an object: both orders, with a common run of what stands ahead. -/
namespace Go.Proofs.YtncenefkbpelbaaDoor
namespace Am
section
variable {C : Ctx} {ops : Array Oper} {need : Nat -> Nd}
end
end Am
end Go.Proofs.YtncenefkbpelbaaDoor
end
section
/- THE ABSTRACT MACHINE, part 14: its own code, with all that types say written out; that a Go function's code is turned into it; what it says of the model's run. -/
namespace Go.Proofs.YtncenefkbpelbaaDoor
namespace Am

/-- Operands. -/
inductive AX where
  | t (n : Nat)
  | v (a : AV)
  deriving Inhabited
def AX.ev (Z : Env) : AX -> AV
  | .t n => Z n
  | .v a => a
/-- How values other than numbers and texts are compared. -/
inductive BK where
  | none
  | bool
  | ptr
  | slc
  | fn
  | agg (l : List LK)
inductive CK where
  | int (k : IntKind)
  | strId
  | bytes
  | str
inductive SK where
  | str
  | sl (sz : Nat)
  | arr (n sz : Nat)
inductive AOp where
  | mv (x : AX)
  | pick (c a b : AX)
  | alloc (z : List AV)
  | allB
  | box (x : AX)
  | build (z : List AV) (ps : List (Nat × Nat × AX))
  | lit (sz : Nat) (xs : List AX)
  | load (ag : Bool) (n : Nat) (x : AX)
  | store (n : Nat) (a x : AX)
  | nilc (x : AX)
  | bin (op : BinOp) (bk : BK) (x y : AX)
  | un (op : UnOp) (x : AX)
  | conv (c : CK) (x : AX)
  | mkfn (f : FuncId) (caps : List AX)
  | make (sz : Nat) (z : List AV) (l c : AX)
  | slice (k : SK) (x : AX) (lo hi mx : Option AX)
  | fa (k : Nat) (x : AX)
  | fld (ag : Bool) (n off : Nat) (x : AX)
  | iaArr (n sz : Nat) (x i : AX)
  | iaSl (sz : Nat) (x i : AX)
  | ixArr (n : Nat) (ag : Bool) (sz : Nat) (x i : AX)
  | ixStr (x i : AX)
  | ext (i : Nat) (x : AX)
  | lenStr (x : AX)
  | lenSl (x : AX)
  | lenArr (n : Nat)
  | app (sz : Nat) (s x : AX)
  | appB (s x : AX)
  | copy (sz : Nat) (d s : AX)
  | clear (z : List AV) (x : AX)
  | minmax (mx : Bool) (x y : AX)
  | call (f : AX) (xs : List AX)
  | stuck

def z1p (ag : Bool) (n : Nat) (O : Store) : AV -> Option AV
  | .ptr r i off => match O[r]? with | some (some o) => (o[i]?).bind fun cs => z3z cs off n ag | _ => none
  | .vp cs => z3z cs 0 n ag
  | _ => none
def z26 (n : Nat) (O : Store) (p v : AV) : Option Store :=
  (cellsOf v).bind fun vs => if vs.length = n then
    (match p with
     | .ptr r i off => match O[r]? with | some (some o) => (o[i]?).bind fun cs => if off + vs.length <= cs.length then some (O.set r (some (o.set i (z19 cs off vs)))) else none | _ => none
     | _ => none) else none
def z10 (cells : List AV) : List (Nat × Nat × AV) -> Option (List AV)
  | [] => some cells
  | p :: rest => (cellsOf p.2.2).bind fun vs => if vs.length = p.2.1 /\ p.1 + p.2.1 <= cells.length then z10 (z19 cells p.1 vs) rest else none
def z1y (sz : Nat) : List AV -> Option (List (List AV))
  | [] => some []
  | v :: l => (cellsOf v).bind fun vs => if vs.length = sz then (z1y sz l).map (vs :: ·) else none
def z25 (sz : Nat) (z : List AV) (O : Store) (l c : AV) : Option (AV × Store) :=
  match l, c with
  | .int _ n, .int _ m => if 0 <= n /\ n <= m /\ m <= 4294967296 then some (.sl O.length 0 n.toNat (some m.toNat) sz, O ++ [some (List.replicate m.toNat z)]) else none
  | _, _ => none
def z1z (k : SK) (O : Store) (x : AV) (lo hi mx : Option AV) : Option AV :=
  match k, x with
  | .str, .str s => z8u s lo hi mx
  | .sl _, .nilsl => (bnd hi 0).bind fun h => (bnd lo 0).bind fun l => (bnd mx 0).bind fun m => if h = 0 /\ l = 0 /\ m = 0 /\ (mx.isSome = true -> hi.isSome = true) then some .nilsl else none
  | .sl sz, .vsl esz es ex => if sz = esz then z8v esz es ex lo hi mx else none
  | .sl sz, .sl r off len lim esz => if sz = esz then z8t 0 r off len lim esz lo hi mx else none
  | .sl sz, .asl r i off len cap esz => if sz = esz then z64 r i off len cap esz lo hi mx else none
  | .arr n sz, .ptr r i off => z64 r i off n n sz lo hi mx
  | _, _ => none
def rFa (k : Nat) : AV -> Option AV
  | .ptr r i off => some (.ptr r i (off + k))
  | .vp cs => if k <= cs.length then some (.vp (cs.drop k)) else none
  | _ => none
def rFld (ag : Bool) (n off : Nat) : AV -> Option AV
  | .agg cs => z3z cs off n ag
  | _ => none
def z23 (n : Nat) (ag : Bool) (sz : Nat) (x ix : AV) : Option AV :=
  match x, ix with
  | .agg cs, .int _ i => if 0 <= i /\ i < (n : Int) then z3z cs (i.toNat * sz) sz ag else none
  | _, _ => none
def z24 (x ix : AV) : Option AV :=
  match x, ix with
  | .str s, .int _ i => if 0 <= i then (s[i.toNat]?).map fun b => .int .u8 b.toNat else none
  | _, _ => none
def z12 : AV -> Option AV
  | .nilsl => some (.int .i64 0)
  | .vsl _ es _ => some (.int .i64 es.length)
  | .sl _ _ len _ _ => some (.int .i64 len)
  | .asl _ _ _ len _ _ => some (.int .i64 len)
  | _ => none
def rEq (bk : BK) (x y : AV) : Option Bool :=
  match x, y with
  | .bool a, .bool b => match bk with | .bool => some (a == b) | _ => none
  | .nilp, .nilp => match bk with | .ptr => some true | _ => none
  | .ptr _ _ _, .nilp => match bk with | .ptr => some false | _ => none
  | .vp _, .nilp => match bk with | .ptr => some false | _ => none
  | .nilp, .ptr _ _ _ => match bk with | .ptr => some false | _ => none
  | .nilp, .vp _ => match bk with | .ptr => some false | _ => none
  | .nilsl, .nilsl => match bk with | .slc => some true | _ => none
  | .vsl _ _ _, .nilsl => match bk with | .slc => some false | _ => none
  | .sl _ _ _ _ _, .nilsl => match bk with | .slc => some false | _ => none
  | .asl _ _ _ _ _ _, .nilsl => match bk with | .slc => some false | _ => none
  | .nilfn, .nilfn => match bk with | .fn => some true | _ => none
  | .fn _ _, .nilfn => match bk with | .fn => some false | _ => none
  | .agg xs, .agg ys => match bk with | .agg l => if xs.map z1g = l.map some /\ ys.map z1g = l.map some then some (z22 xs ys) else none | _ => none
  | _, _ => none
def rBin (op : BinOp) (bk : BK) (x y : AV) : Option AV :=
  match x, y with
  | .int k a, .int k' b => match op with
    | .shl => z17 .shl k a b
    | .shr => z17 .shr k a b
    | op => if k = k' then zu op k a b else none
  | .str a, .str b => z1t op a b
  | x, y => (rEq bk x y).bind (eqOp op)
def z1s (c : CK) (O : Store) (x : AV) : Option (AV × Store) :=
  match c, x with
  | .int k, .int _ n => some (.int k (k.wrap n), O)
  | .strId, .str s => some (.str s, O)
  | .bytes, .str s => some (.sl O.length 0 s.length none 1, O ++ [some (zl s)])
  | .str, .int _ _ => none
  | .str, .str _ => none
  | .str, x => (z2b O x).bind fun es => (z3s es).map fun s => (.str s, O)
  | _, _ => none
def rCopy (sz : Nat) (O : Store) (d s : AV) : Option (AV × Store) :=
  (z4h O sz s).bind fun ys =>
    match d with
    | .nilsl => some (.int .i64 0, O)
    | .sl r off len _ esz => match O[r]? with
      | some (some o) => if esz = sz /\ off + len <= o.length then some (.int .i64 (min ys.length len : Nat), O.set r (some (o.take off ++ ys.take len ++ o.drop (off + min ys.length len)))) else none
      | _ => none
    | .asl r i off len _ esz => match O[r]? with
      | some (some o) => (o[i]?).bind fun cs => if esz = sz /\ off + len * esz <= cs.length then some (.int .i64 (min ys.length len : Nat), O.set r (some (o.set i (z19 cs off (ys.take len).flatten)))) else none
      | _ => none
    | _ => none
def zbv (z : List AV) (O : Store) : AV -> Option (AV × Store)
  | .nilsl => some (.tup [], O)
  | .sl r off len _ esz => if len = 0 then some (.tup [], O) else match O[r]? with
    | some (some o) => if z.length = esz /\ off + len <= o.length then some (.tup [], O.set r (some (o.take off ++ List.replicate len z ++ o.drop (off + len)))) else none
    | _ => none
  | _ => none

/-- What an operation that is no call gives. -/
def AOp.run (Z : Env) (O : Store) : AOp -> Option (AV × Store)
  | .mv x => some (x.ev Z, O)
  | .pick c a b => match c.ev Z with | .bool t => some (if t then a.ev Z else b.ev Z, O) | _ => none
  | .alloc z => some (.ptr O.length 0 0, O ++ [some [z]])
  | .allB => some (aBld O)
  | .box x => aBox O (x.ev Z)
  | .build z ps => (z10 z (ps.map fun p => (p.1, p.2.1, p.2.2.ev Z))).map fun c => (.agg c, O)
  | .lit sz xs => (z1y sz (xs.map (AX.ev Z))).map fun es => (.vsl sz es true, O)
  | .load ag n x => (z1p ag n O (x.ev Z)).map fun v => (v, O)
  | .store n a x => (z26 n O (a.ev Z) (x.ev Z)).map fun O' => (.undef, O')
  | .nilc x => match x.ev Z with
    | .ptr r i off => some (.ptr r i off, O)
    | .vp cs => some (.vp cs, O)
    | .fn f caps => some (.fn f caps, O)
    | _ => none
  | .bin op bk x y => (rBin op bk (x.ev Z) (y.ev Z)).map fun v => (v, O)
  | .un op x => (aUn op (x.ev Z)).map fun v => (v, O)
  | .conv c x => z1s c O (x.ev Z)
  | .mkfn f caps => some (.fn f (caps.map (AX.ev Z)), O)
  | .make sz z l c => z25 sz z O (l.ev Z) (c.ev Z)
  | .slice k x lo hi mx => (z1z k O (x.ev Z) (lo.map (AX.ev Z)) (hi.map (AX.ev Z)) (mx.map (AX.ev Z))).map fun v => (v, O)
  | .fa k x => (rFa k (x.ev Z)).map fun v => (v, O)
  | .fld ag n off x => (rFld ag n off (x.ev Z)).map fun v => (v, O)
  | .iaArr n sz x i => (match i.ev Z with | .int _ k => z8q n sz k (x.ev Z) | _ => none).map fun v => (v, O)
  | .iaSl sz x i => (match i.ev Z with | .int _ k => z8r sz k (x.ev Z) | _ => none).map fun v => (v, O)
  | .ixArr n ag sz x i => (z23 n ag sz (x.ev Z) (i.ev Z)).map fun v => (v, O)
  | .ixStr x i => (z24 (x.ev Z) (i.ev Z)).map fun v => (v, O)
  | .ext i x => match x.ev Z with | .tup vs => (vs[i]?).map fun v => (v, O) | _ => none
  | .lenStr x => match x.ev Z with | .str s => some (.int .i64 s.length, O) | _ => none
  | .lenSl x => (z12 (x.ev Z)).map fun v => (v, O)
  | .lenArr n => some (.int .i64 n, O)
  | .app sz s x => (z4h O sz (x.ev Z)).bind fun ys => aApp O sz (s.ev Z) ys
  | .appB s x => (z4h O 1 (x.ev Z)).bind fun ys => z4m O (s.ev Z) ys
  | .copy sz d s => rCopy sz O (d.ev Z) (s.ev Z)
  | .clear z x => zbv z O (x.ev Z)
  | .minmax mx x y => (aMin mx (x.ev Z) (y.ev Z)).map fun v => (v, O)
  | .call _ _ => none
  | .stuck => none

/-- An operation in its place: where its value goes, when it is carried out (a slot, and what it is to hold), whether it must leave the store as_ it is. -/
structure AIns where
  dst : Option Nat
  guard : Option (Nat × Bool)
  need : Nd
  op : AOp
inductive ACode where
  | skip
  | reg (ops : List AIns)
  | reg2 (a b : List AIns)
  | seq (a b : ACode)
  | cond (c : AX) (a b : ACode)
  | block (id : Nat) (a : ACode)
  | loop (a : ACode)
  | exit (id : Nat)
  | ret
  | scope (a : ACode)
  | rangef (g : AX) (ps : List Nat) (a b : ACode)
  | stuck
inductive AExit where
  | normal
  | exit (id : Nat)
  | ret

def z1c (Z : Env) : Option (Nat × Bool) -> Option Bool
  | none => some true
  | some g => match Z g.1 with | .bool b => some (b == g.2) | .undef => some false | _ => none
/-! From a Go function's code. -/
def cX (C : Ctx) : Operand -> Option AX
  | .tmp t => some (.t t)
  | .const v => some (.v (ofV v))
  | .global g => (C.gl g).map fun cs => .v (.vp cs)
  | .func f => some (.v (.fn f []))
def cXo (C : Ctx) : Option Operand -> Option (Option AX)
  | none => some none
  | some x => (cX C x).map some
theorem z1b {C : Ctx} {x : Operand} {a : AX} (h : cX C x = some a) (Z : Env) : a.ev Z = ev C Z x := by
  cases x <;> simp only [cX, Option.some.injEq, Option.map_eq_some_iff] at h
  · subst h; rfl
  · subst h; rfl
  · obtain ⟨cs, h1, rfl⟩ := h; simp [AX.ev, ev, h1]
  · subst h; rfl
theorem z55 {C : Ctx} {x : Option Operand} {a : Option AX} (h : cXo C x = some a) (Z : Env) : a.map (AX.ev Z) = x.map (ev C Z) := by
  cases x with
  | none => simp only [cXo, Option.some.injEq] at h; subst h; rfl
  | some x =>
    simp only [cXo, Option.map_eq_some_iff] at h
    obtain ⟨a, h1, rfl⟩ := h
    simp [z1b h1]
def cXs (C : Ctx) : List Operand -> Option (List AX)
  | [] => some []
  | x :: l => (cX C x).bind fun a => (cXs C l).map (a :: ·)
theorem z7s {C : Ctx} {l : List Operand} {as_ : List AX} (h : cXs C l = some as_) (Z : Env) : as_.map (AX.ev Z) = l.map (ev C Z) := by
  induction l generalizing as_ with
  | nil => simp only [cXs, Option.some.injEq] at h; subst h; rfl
  | cons x l ih =>
    simp only [cXs, Option.bind_eq_some_iff, Option.map_eq_some_iff] at h
    obtain ⟨a, h1, as', h2, rfl⟩ := h
    simp [z1b h1, ih h2]
/-- The parts of a literal of a struct or an array, with their places. -/
def z6s (C : Ctx) (place : Nat -> Option (Nat × Nat)) : List (Nat × Operand) -> Option (List (Nat × Nat × AX))
  | [] => some []
  | p :: l => (place p.1).bind fun x => (cX C p.2).bind fun a => (z6s C place l).map ((x.1, x.2, a) :: ·)
theorem zal {C : Ctx} {place : Nat -> Option (Nat × Nat)} (Z : Env) : ∀ {l : List (Nat × Operand)} {ps : List (Nat × Nat × AX)} (cells : List AV), z6s C place l = some ps ->
    z5h place cells (l.map fun p => (p.1, ev C Z p.2)) = z10 cells (ps.map fun p => (p.1, p.2.1, p.2.2.ev Z))
  | [], ps, cells, h => by simp only [z6s, Option.some.injEq] at h; subst h; rfl
  | p :: l, ps, cells, h => by
    simp only [z6s, Option.bind_eq_some_iff, Option.map_eq_some_iff] at h
    obtain ⟨x, hx, a, ha, ps', hps, rfl⟩ := h
    simp only [List.map_cons, z5h, hx, Option.bind_some, z10, z1b ha Z]
    cases cellsOf (ev C Z p.2) with
    | none => rfl
    | some vs =>
      simp only [Option.bind_some]
      rw [zal Z (z19 cells x.1 vs) hps]
def z7o (C : Ctx) : List (Nat × Operand) -> Nat -> Option (List AX)
  | [], _ => some []
  | p :: l, k => if p.1 = k then (cX C p.2).bind fun a => (z7o C l (k + 1)).map (a :: ·) else none
theorem zdp {C : Ctx} {sz : Nat} (Z : Env) : ∀ {l : List (Nat × Operand)} {k : Nat} {as_ : List AX}, z7o C l k = some as_ -> z63 sz (l.map fun p => (p.1, ev C Z p.2)) k = z1y sz (as_.map (AX.ev Z))
  | [], k, as_, h => by simp only [z7o, Option.some.injEq] at h; subst h; rfl
  | p :: l, k, as_, h => by
    simp only [z7o] at h
    split at h
    · rename_i hk
      simp only [Option.bind_eq_some_iff, Option.map_eq_some_iff] at h
      obtain ⟨a, ha, as', has, rfl⟩ := h
      simp only [List.map_cons, z63, hk, if_true, z1y, z1b ha Z, zdp Z has]
    · cases h

def cBK (C : Ctx) (t : TypeId) : BK :=
  if za5 C t then .bool else if z5c C t then .ptr else if (tySl C t).isSome then .slc else if z7b C t then .fn else
    if z21 C t = some true then (match z8g C t with | some l => .agg l | none => .none) else .none
theorem ziq {C : Ctx} {t : TypeId} : (cBK C t = .bool -> za5 C t = true) /\ (cBK C t = .ptr -> z5c C t = true) /\ (cBK C t = .slc -> ∃ e, tySl C t = some e) /\ (cBK C t = .fn -> z7b C t = true) ∧
    (∀ l, cBK C t = .agg l -> z8g C t = some l /\ z21 C t = some true) := by
  unfold cBK
  split
  · exact ⟨fun _ => by assumption, by simp, by simp, by simp, by simp⟩
  · split
    · exact ⟨by simp, fun _ => by assumption, by simp, by simp, by simp⟩
    · split
      · rename_i h; exact ⟨by simp, by simp, fun _ => Option.isSome_iff_exists.1 h, by simp, by simp⟩
      · split
        · exact ⟨by simp, by simp, by simp, fun _ => by assumption, by simp⟩
        · split
          · rename_i hag
            split
            · rename_i l hl
              exact ⟨by simp, by simp, by simp, by simp, fun l' h' => by cases h'; exact ⟨hl, hag⟩⟩
            · exact ⟨by simp, by simp, by simp, by simp, by simp⟩
          · exact ⟨by simp, by simp, by simp, by simp, by simp⟩
theorem cBK_ok {C : Ctx} {t : TypeId} {x y : AV} {b : Bool} (h : rEq (cBK C t) x y = some b) : aEq C t x y = some b := by
  obtain ⟨s1, s2, s3, s4, s5⟩ := ziq (C := C) (t := t)
  generalize cBK C t = bk at *
  have hsl : bk = .slc -> ∀ c : Bool, ((tySl C t).map fun _ => c) = some c := fun e c => by obtain ⟨e', h'⟩ := s3 e; rw [h']; rfl
  unfold rEq at h
  split at h <;> simp only [aEq] <;> (try (cases bk <;> simp only [reduceCtorEq] at h))
  case h_1 => rw [if_pos (s1 rfl)]; exact h
  case h_2 => rw [if_pos (s2 rfl)]; exact h
  case h_3 => rw [if_pos (s2 rfl)]; exact h
  case h_4 => rw [if_pos (s2 rfl)]; exact h
  case h_5 => rw [if_pos (s2 rfl)]; exact h
  case h_6 => rw [if_pos (s2 rfl)]; exact h
  case h_7 => simp only [Option.some.injEq] at h; subst h; exact hsl rfl _
  case h_8 => simp only [Option.some.injEq] at h; subst h; exact hsl rfl _
  case h_9 => simp only [Option.some.injEq] at h; subst h; exact hsl rfl _
  case h_10 => simp only [Option.some.injEq] at h; subst h; exact hsl rfl _
  case h_11 => rw [if_pos (s4 rfl)]; exact h
  case h_12 => rw [if_pos (s4 rfl)]; exact h
  case h_13 =>
    rename_i l
    obtain ⟨k1, k2⟩ := s5 l rfl
    rw [k1]
    simp only [Option.bind_some]
    split at h
    · rename_i hc
      rw [if_pos ⟨hc.1, hc.2, k2⟩]; exact h
    · cases h

def cOp (C : Ctx) : Op -> Option AOp
  | .move x => (cX C x).map .mv
  | .assign x => (cX C x).map .mv
  | .pick c a b => (cX C c).bind fun c => (cX C a).bind fun a => (cX C b).map fun b => .pick c a b
  | .alloc t => (z40 C t).bind fun z => if t = bldT then (if zb4 z = true then some .allB else none) else (cellsOf z).map .alloc
  | .box _ x => (cX C x).map .box
  | .build t ps => (z40 C t).bind fun z => (cellsOf z).bind fun zc => match zcm C t with
    | some pl => (z6s C (pl[·]?) ps.toList).map (.build zc)
    | none => (z4i C t).bind fun ne => (z1a C ne.2).bind fun n => (z6s C (fun i => some (i * n, n)) ps.toList).map (.build zc)
  | .buildSlice t n ps => (tySl C t).bind fun e => (z1a C e).bind fun sz => (z40 C e).bind fun _ => if ps.toList.length = n /\ n * sz <= 16777216 then (z7o C ps.toList 0).map (.lit sz) else none
  | .load t x => (z21 C t).bind fun ag => (z1a C t).bind fun n => (cX C x).map (.load ag n)
  | .store t a x => (z1a C t).bind fun n => (cX C a).bind fun a => (cX C x).map (.store n a)
  | .nilCheck x => (cX C x).map .nilc
  | .binOp op t x y _ => (cX C x).bind fun x => (cX C y).map fun y => .bin op (cBK C t) x y
  | .unOp op _ x => (cX C x).map (.un op)
  | .convert s d x => (cX C x).bind fun x =>
      match z5z C s, z5z C d with
      | some _, some k => some (.conv (.int k) x)
      | _, _ => if tyStr C d = true then (if z60 C s = true then some (.conv .str x) else if tyStr C s = true then some (.conv .strId x) else none)
          else if z60 C d = true /\ tyStr C s = true then some (.conv .bytes x) else none
  | .makeFunc (.func f) first captured => if first.size = 0 then (cXs C captured.toList).map (.mkfn f) else none
  | .makeSlice t l c => (tySl C t).bind fun e => (z1a C e).bind fun sz => (z5y C e).bind fun by_ => (z40 C e).bind fun z => (cellsOf z).bind fun zc => (cX C l).bind fun l => (cX C c).bind fun c =>
      if by_ <= 16384 /\ zc.length = sz then some (.make sz zc l c) else none
  | .slice t x lo hi mx => (cX C x).bind fun x => (cXo C lo).bind fun lo => (cXo C hi).bind fun hi => (cXo C mx).bind fun mx =>
      if tyStr C t = true then some (.slice .str x lo hi mx) else match z4i C t with
        | some ne => (z1a C ne.2).map fun sz => .slice (.arr ne.1 sz) x lo hi mx
        | none => (tySl C t).bind fun e => (z1a C e).map fun sz => .slice (.sl sz) x lo hi mx
  | .fieldAddr s x f => (z8f C s f).bind fun k => (cX C x).map (.fa k)
  | .field s x f => (zcz C s f).bind fun y => (z21 C y.1).bind fun ag => (z1a C y.1).bind fun n => (cX C x).map (.fld ag n y.2)
  | .indexAddr t x i => (cX C x).bind fun x => (cX C i).bind fun i => match z4i C t with
    | some ne => (z1a C ne.2).map fun sz => .iaArr ne.1 sz x i
    | none => (tySl C t).bind fun e => (z1a C e).map fun sz => .iaSl sz x i
  | .index t x i => (cX C x).bind fun x => (cX C i).bind fun i => if tyStr C t = true then some (.ixStr x i) else
      (z4i C t).bind fun ne => (z21 C ne.2).bind fun ag => (z1a C ne.2).map fun sz => .ixArr ne.1 ag sz x i
  | .extract x i => (cX C x).map (.ext i)
  | .call c => match c.callee with
    | .value f => (cX C f).bind fun f => (cXs C c.args.toList).map (.call f)
    | .builtin b => (cXs C c.args.toList).bind fun xs =>
      match b, c.argTypes.toList, xs with
      | .len, [t], [x] => if tyStr C t = true then some (.lenStr x) else if (tySl C t).isSome = true then some (.lenSl x) else none
      | .append, [t, t'], [s, x] => (tySl C t).bind fun e => (z1a C e).bind fun sz => (z5y C e).bind fun by_ => (z40 C e).bind fun z => (cellsOf z).bind fun zc =>
          if by_ <= 8192 /\ zc.length = sz /\ ((tySl C t').isSome || tyStr C t') = true then some (if e = u8T /\ sz = 1 then .appB s x else .app sz s x) else none
      | .copy, [t, _], [d, s] => (tySl C t).bind fun e => (z1a C e).map fun sz => .copy sz d s
      | .clear, [t], [x] => (tySl C t).bind fun e => (z40 C e).bind fun z => (cellsOf z).map fun zc => .clear zc x
      | .min, _, [x, y] => some (.minmax false x y)
      | .max, _, [x, y] => some (.minmax true x y)
      | _, _, _ => none
    | _ => none
  | _ => none
end Am
end Go.Proofs.YtncenefkbpelbaaDoor
end
section
/- THE ABSTRACT MACHINE, part 15: what its code says holds of the model's run of the Go function's code. -/
namespace Go.Proofs.YtncenefkbpelbaaDoor
namespace Am

theorem zj1 {C : Ctx} {op : Op} {a : AOp} (h : cOp C op = some a) {Z : Env} {O : Store} {r : AV × Store} (hr : a.run Z O = some r) : z1v op = none /\ z1f C (ev C Z) O op = some r := by
  cases op <;> simp only [cOp, reduceCtorEq, Option.map_eq_some_iff, Option.bind_eq_some_iff] at h
  case move x => obtain ⟨a, ha, rfl⟩ := h; exact ⟨rfl, by rw [<- hr]; simp only [AOp.run, z1f, z1b ha]⟩
  case assign x => obtain ⟨a, ha, rfl⟩ := h; exact ⟨rfl, by rw [<- hr]; simp only [AOp.run, z1f, z1b ha]⟩
  case pick c x y =>
    obtain ⟨c', hc, x', hx, y', hy, rfl⟩ := h
    refine ⟨rfl, ?_⟩
    rw [<- hr]
    simp only [AOp.run, z1f, z1b hc, z1b hx, z1b hy]
    rfl
  case alloc t =>
    obtain ⟨z, hz, h⟩ := h
    refine ⟨rfl, ?_⟩
    split at h
    · rename_i ht
      split at h
      · rename_i hn
        simp only [Option.some.injEq] at h; subst h
        rw [<- hr]
        simp only [AOp.run, z1f, z7f, hz, Option.bind_some, if_pos ht, if_pos hn]
      · cases h
    · rename_i ht
      simp only [Option.map_eq_some_iff] at h
      obtain ⟨zc, hzc, rfl⟩ := h
      rw [<- hr]
      simp only [AOp.run, z1f, z7f, hz, Option.bind_some, if_neg ht, aBox, hzc, Option.map_some]
  case box t x => obtain ⟨a, ha, rfl⟩ := h; exact ⟨rfl, by rw [<- hr]; simp only [AOp.run, z1f, z1b ha]⟩
  case build t ps =>
    obtain ⟨z, hz, zc, hzc, h⟩ := h
    refine ⟨rfl, ?_⟩
    split at h
    · rename_i pl hpl
      simp only [Option.map_eq_some_iff] at h
      obtain ⟨q, hq, rfl⟩ := h
      rw [<- hr]
      simp only [AOp.run, z1f, z7h, hz, Option.bind_some, hzc, hpl, zal Z zc hq, Option.map_map]
      rfl
    · rename_i hpl
      simp only [Option.bind_eq_some_iff, Option.map_eq_some_iff] at h
      obtain ⟨ne, hne, n, hn, q, hq, rfl⟩ := h
      rw [<- hr]
      simp only [AOp.run, z1f, z7h, hz, Option.bind_some, hzc, hpl, hne, hn, zal Z zc hq, Option.map_map]
      rfl
  case buildSlice t n ps =>
    obtain ⟨e, he, sz, hsz, z, hz, h⟩ := h
    refine ⟨rfl, ?_⟩
    split at h
    · rename_i hc
      simp only [Option.map_eq_some_iff] at h
      obtain ⟨q, hq, rfl⟩ := h
      rw [<- hr]
      have hc' : (ps.toList.map fun p => (p.1, ev C Z p.2)).length = n /\ n * sz <= 16777216 := by rw [List.length_map]; exact hc
      simp only [AOp.run, z1f, z8l, he, hsz, hz, Option.bind_some, if_pos hc', zdp Z hq, Option.map_map]
      rfl
    · cases h
  case load t x =>
    obtain ⟨ag, hag, n, hn, a, ha, rfl⟩ := h
    refine ⟨rfl, ?_⟩
    rw [<- hr]
    simp only [AOp.run, z1f, z1b ha]
    congr 1
    generalize ev C Z x = p
    cases p <;> simp only [z6p, z1p, hag, hn, Option.bind_some]
    rfl
  case store t p x =>
    obtain ⟨n, hn, p', hp, x', hx, rfl⟩ := h
    refine ⟨rfl, ?_⟩
    rw [<- hr]
    simp only [AOp.run, z1f, z1b hp, z1b hx, z8w, z26, hn, Option.bind_some]
    rfl
  case nilCheck x => obtain ⟨a, ha, rfl⟩ := h; exact ⟨rfl, by rw [<- hr]; simp only [AOp.run, z1f, z1b ha]; rfl⟩
  case binOp bop t x y yt =>
    obtain ⟨x', hx, y', hy, rfl⟩ := h
    refine ⟨rfl, ?_⟩
    simp only [AOp.run, Option.map_eq_some_iff] at hr
    obtain ⟨v, hv, rfl⟩ := hr
    simp only [z1f, Option.map_eq_some_iff]
    refine ⟨v, ?_, rfl⟩
    rw [z1b hx, z1b hy] at hv
    generalize ev C Z x = p at *
    generalize ev C Z y = q at *
    have hq : ∀ {p q : AV}, (rEq (cBK C t) p q).bind (eqOp bop) = some v -> (aEq C t p q).bind (eqOp bop) = some v := by
      intro p q h
      simp only [Option.bind_eq_some_iff] at h ⊢
      obtain ⟨b, hb, h⟩ := h
      exact ⟨b, cBK_ok hb, h⟩
    cases p <;> first | exact hq hv | (cases q <;> first | exact hq hv | (cases bop <;> exact hv) | exact hv)
  case unOp uop t x => obtain ⟨a, ha, rfl⟩ := h; exact ⟨rfl, by rw [<- hr]; simp only [AOp.run, z1f, z1b ha]⟩
  case convert s d x =>
    obtain ⟨x', hx, h⟩ := h
    refine ⟨rfl, ?_⟩
    simp only [z1f]
    split at h
    · rename_i k0 k h1 h2
      simp only [Option.some.injEq] at h; subst h
      simp only [AOp.run, z1b hx] at hr
      generalize ev C Z x = p at *
      cases p <;> simp only [z1s, reduceCtorEq] at hr
      simp only [z5g, h1, h2, Option.bind_some, Option.map_some]; exact hr
    · split at h
      · rename_i hst
        split at h
        · rename_i hu
          simp only [Option.some.injEq] at h; subst h
          simp only [AOp.run, z1b hx] at hr
          generalize ev C Z x = p at *
          unfold z1s at hr
          unfold z5g
          cases p <;> simp only [reduceCtorEq] at hr ⊢ <;> (simp only [hst, hu, and_self, if_true]; exact hr)
        · split at h
          · rename_i hs
            simp only [Option.some.injEq] at h; subst h
            simp only [AOp.run, z1b hx] at hr
            generalize ev C Z x = p at *
            cases p <;> simp only [z1s, reduceCtorEq] at hr
            simp only [z5g, hst, z5d hs, Option.isSome_some, and_self, if_true]; exact hr
          · cases h
      · rename_i hst
        split at h
        · rename_i hc
          simp only [Option.some.injEq] at h; subst h
          simp only [AOp.run, z1b hx] at hr
          generalize ev C Z x = p at *
          cases p <;> simp only [z1s, reduceCtorEq] at hr
          simp only [z5g, hst, hc.1, z5d hc.2, Option.isSome_some, and_true, Bool.false_eq_true, if_false, if_true]; exact hr
        · cases h
  case makeFunc fn first captured =>
    cases fn <;> simp only [reduceCtorEq] at h
    split at h
    · rename_i hz
      simp only [Option.map_eq_some_iff] at h
      obtain ⟨q, hq, rfl⟩ := h
      refine ⟨rfl, ?_⟩
      rw [<- hr]
      simp only [AOp.run, z1f, hz, if_true, z7s hq]
    · cases h
  case makeSlice t l c =>
    obtain ⟨e, he, sz, hsz, by_, hby, z, hz, zc, hzc, l', hl, c', hc, h⟩ := h
    refine ⟨rfl, ?_⟩
    split at h
    · rename_i hcond
      simp only [Option.some.injEq] at h; subst h
      simp only [AOp.run, z1b hl, z1b hc] at hr
      simp only [z1f]
      generalize ev C Z l = p at *
      generalize ev C Z c = q at *
      cases p <;> simp only [z25, reduceCtorEq] at hr
      cases q <;> simp only [reduceCtorEq] at hr
      split at hr
      · rename_i hx
        simp only [z8s, he, hsz, hby, hz, hzc, Option.bind_some]
        rw [if_pos ⟨hx.1, hx.2.1, hx.2.2, hcond.1, hcond.2⟩]; exact hr
      · cases hr
    · cases h
  case slice t x lo hi mx =>
    obtain ⟨x', hx, lo', hlo, hi', hhi, mx', hmx, h⟩ := h
    refine ⟨rfl, ?_⟩
    simp only [z1f]
    split at h
    · rename_i hst
      simp only [Option.some.injEq] at h; subst h
      simp only [AOp.run, z1b hx, z55 hlo, z55 hhi, z55 hmx, Option.map_eq_some_iff] at hr
      obtain ⟨v, hv, rfl⟩ := hr
      generalize ev C Z x = p at *
      cases p <;> simp only [z1z, reduceCtorEq] at hv
      simp only [z6q, hst, if_true, hv, Option.map_some]
    · split at h
      · rename_i ne hne
        simp only [Option.map_eq_some_iff] at h
        obtain ⟨sz, hsz, rfl⟩ := h
        simp only [AOp.run, z1b hx, z55 hlo, z55 hhi, z55 hmx, Option.map_eq_some_iff] at hr
        obtain ⟨v, hv, rfl⟩ := hr
        generalize ev C Z x = p at *
        cases p <;> simp only [z1z, reduceCtorEq] at hv
        simp only [z6q, hne, hsz, Option.bind_some, hv, Option.map_some]
      · simp only [Option.bind_eq_some_iff, Option.map_eq_some_iff] at h
        obtain ⟨e, he, sz, hsz, rfl⟩ := h
        simp only [AOp.run, z1b hx, z55 hlo, z55 hhi, z55 hmx, Option.map_eq_some_iff] at hr
        obtain ⟨v, hv, rfl⟩ := hr
        generalize ev C Z x = p at *
        cases p <;> simp only [z1z, reduceCtorEq] at hv <;> simp only [z6q, he, hsz, Option.bind_some, hv, Option.map_some]
  case fieldAddr s x f =>
    obtain ⟨k, hk, x', hx, rfl⟩ := h
    refine ⟨rfl, ?_⟩
    simp only [AOp.run, z1b hx, Option.map_eq_some_iff] at hr
    obtain ⟨v, hv, rfl⟩ := hr
    simp only [z1f]
    generalize ev C Z x = p at *
    cases p <;> simp only [rFa, reduceCtorEq] at hv <;> simp only [z8p, hk, Option.map_some, Option.bind_some]
    · simp only [Option.some.injEq] at hv; subst hv; rfl
    · rw [hv]; rfl
  case field s x f =>
    obtain ⟨y, hy, ag, hag, n, hn, x', hx, rfl⟩ := h
    refine ⟨rfl, ?_⟩
    simp only [AOp.run, z1b hx, Option.map_eq_some_iff] at hr
    obtain ⟨v, hv, rfl⟩ := hr
    simp only [z1f]
    generalize ev C Z x = p at *
    cases p <;> simp only [rFld, reduceCtorEq] at hv
    simp only [z8o, hy, hag, hn, Option.bind_some, hv, Option.map_some]
  case indexAddr t x i =>
    obtain ⟨x', hx, i', hi, h⟩ := h
    refine ⟨rfl, ?_⟩
    simp only [z1f]
    split at h
    · rename_i ne hne
      simp only [Option.map_eq_some_iff] at h
      obtain ⟨sz, hsz, rfl⟩ := h
      simp only [AOp.run, z1b hx, z1b hi] at hr
      rw [<- hr]
      congr 1
      generalize ev C Z i = q
      cases q <;> simp only [z7j, hne, hsz, Option.bind_some]
    · rename_i hne
      simp only [Option.bind_eq_some_iff, Option.map_eq_some_iff] at h
      obtain ⟨e, he, sz, hsz, rfl⟩ := h
      simp only [AOp.run, z1b hx, z1b hi] at hr
      rw [<- hr]
      congr 1
      generalize ev C Z i = q
      cases q <;> simp only [z7j, hne, he, hsz, Option.bind_some]
  case index t x i =>
    obtain ⟨x', hx, i', hi, h⟩ := h
    refine ⟨rfl, ?_⟩
    simp only [z1f]
    split at h
    · rename_i hst
      simp only [Option.some.injEq] at h; subst h
      simp only [AOp.run, z1b hx, z1b hi, Option.map_eq_some_iff] at hr
      obtain ⟨v, hv, rfl⟩ := hr
      generalize ev C Z x = p at *
      generalize ev C Z i = q at *
      cases p <;> simp only [z24, reduceCtorEq] at hv
      cases q <;> simp only [reduceCtorEq] at hv
      simp only [z7i, hst, if_true, hv, Option.map_some]
    · simp only [Option.bind_eq_some_iff, Option.map_eq_some_iff] at h
      obtain ⟨ne, hne, ag, hag, sz, hsz, rfl⟩ := h
      simp only [AOp.run, z1b hx, z1b hi, Option.map_eq_some_iff] at hr
      obtain ⟨v, hv, rfl⟩ := hr
      generalize ev C Z x = p at *
      generalize ev C Z i = q at *
      cases p <;> simp only [z23, reduceCtorEq] at hv
      cases q <;> simp only [reduceCtorEq] at hv
      simp only [z7i, hne, hag, hsz, Option.bind_some]
      split at hv
      · rename_i hin
        rw [if_pos hin, hv, Option.map_some]
      · cases hv
  case extract x i => obtain ⟨a, ha, rfl⟩ := h; exact ⟨rfl, by rw [<- hr]; simp only [AOp.run, z1f, z1b ha]; rfl⟩
  case call c =>
    obtain ⟨callee, cargs, ats⟩ := c
    cases callee <;> simp only [reduceCtorEq, Option.bind_eq_some_iff, Option.map_eq_some_iff] at h
    · obtain ⟨f, hf, xs, hxs, rfl⟩ := h
      simp [AOp.run] at hr
    · rename_i b
      obtain ⟨xs, hxs, h⟩ := h
      refine ⟨rfl, ?_⟩
      simp only [z1f]
      have hm := z7s hxs Z
      rw [<- hm]
      split at h
      · rename_i t x hat
        split at h
        · rename_i hst
          simp only [Option.some.injEq] at h; subst h
          simp only [AOp.run] at hr
          simp only [List.map_cons, List.map_nil, hat, z49]
          generalize x.ev Z = p at *
          cases p <;> simp only [reduceCtorEq] at hr
          simp only [aLen, hst, if_true, Option.map_some]; exact hr
        · split at h
          · rename_i hsl
            obtain ⟨e, he⟩ := Option.isSome_iff_exists.1 hsl
            simp only [Option.some.injEq] at h; subst h
            simp only [AOp.run, Option.map_eq_some_iff] at hr
            obtain ⟨v, hv, rfl⟩ := hr
            simp only [List.map_cons, List.map_nil, hat, z49]
            generalize x.ev Z = p at *
            cases p <;> simp only [z12, reduceCtorEq] at hv <;> simp only [aLen, he, Option.map_some, hv]
          · cases h
      · rename_i t t' s x hat
        simp only [Option.bind_eq_some_iff] at h
        obtain ⟨e, he, sz, hsz, by_, hby, z, hz, zc, hzc, h⟩ := h
        split at h
        · rename_i hcond
          simp only [Option.some.injEq] at h
          by_cases hB : e = u8T /\ sz = 1
          · rw [if_pos hB] at h
            subst h
            obtain ⟨_, rfl⟩ := id hB
            simp only [AOp.run, Option.bind_eq_some_iff] at hr
            obtain ⟨ys, hys, hr⟩ := hr
            simp only [List.map_cons, List.map_nil, hat, z49, z7g, he, hsz, hby, hz, hzc, hys, Option.bind_some]
            rw [if_pos hcond, if_pos ⟨hB.1, trivial⟩]; exact hr
          · rw [if_neg hB] at h
            subst h
            simp only [AOp.run, Option.bind_eq_some_iff] at hr
            obtain ⟨ys, hys, hr⟩ := hr
            simp only [List.map_cons, List.map_nil, hat, z49, z7g, he, hsz, hby, hz, hzc, hys, Option.bind_some]
            rw [if_pos hcond, if_neg hB]; exact hr
        · cases h
      · rename_i t t' d s hat
        simp only [Option.bind_eq_some_iff, Option.map_eq_some_iff] at h
        obtain ⟨e, he, sz, hsz, rfl⟩ := h
        simp only [AOp.run] at hr
        simp only [List.map_cons, List.map_nil, hat, z49, z8n, he, hsz, Option.bind_some]
        exact hr
      · rename_i t x hat
        simp only [Option.bind_eq_some_iff, Option.map_eq_some_iff] at h
        obtain ⟨e, he, z, hz, zc, hzc, rfl⟩ := h
        simp only [AOp.run] at hr
        simp only [List.map_cons, List.map_nil, hat, z49, z8m, he, Option.bind_some]
        generalize x.ev Z = p at *
        cases p <;> simp only [zbv, reduceCtorEq] at hr
        · exact hr
        · simp only [hz, hzc, Option.bind_some]; exact hr
      · simp only [Option.some.injEq] at h; subst h
        simp only [AOp.run] at hr
        simp only [List.map_cons, List.map_nil, z49]; exact hr
      · simp only [Option.some.injEq] at h; subst h
        simp only [AOp.run] at hr
        simp only [List.map_cons, List.map_nil, z49]; exact hr
      · cases h
end Am
end Go.Proofs.YtncenefkbpelbaaDoor
end
section
/- THE ABSTRACT MACHINE, part 16: regions and code: what the abstract machine's code says holds of the model's run. -/
namespace Go.Proofs.YtncenefkbpelbaaDoor
namespace Am

/-! A list of operations: what must hold ahead of it. -/
def AOp.isCall : AOp -> Bool
  | .call _ _ => true
  | _ => false
def z59 (n : Nd) (H : Hist) (O O' : Store) : Prop := match n with
  | .no => True
  | .same => O' = O
  | .rd => False
  | .ef => H.rds O'
  | .pu => False
def z4s (n : Nd) (H : Hist) (O : Store) : Hist := match n with
  | .ef => ⟨fun s => H.pre s \/ s = O, H.rds⟩
  | _ => H
def callW (C : Ctx) (K : Hist -> Env -> Store -> Prop) (H : Hist) (Z : Env) (d : Option Nat) (need : Nd) (O : Store) (f : AV) (xs : List AV) : Prop :=
  match f with
  | .fn fid caps => (∃ v O', ACallsTo C fid (xs ++ caps) O v O' /\ z59 need H O O' /\ K (z4s need H O) (putE Z d v) O') ∨
      ((need = .no \/ need = .ef) /\ ∃ P : AV -> Store -> Prop, ACallsP C fid (xs ++ caps) O P /\ (∃ v O', P v O') /\ ∀ v O', P v O' -> z59 need H O O' /\ K (z4s need H O) (putE Z d v) O') ∨
      (need = .pu /\ ∃ v, (∀ h, ACallsTo C fid (xs ++ caps) h v h) /\ K H (putE Z d v) O)
  | _ => False
def z4a (K : Env -> Store -> Prop) (O : Store) : Bool -> Option (Env × Store) -> Prop
  | false, some r => K r.1 r.2
  | true, some r => r.2 = O /\ K r.1 r.2
  | _, none => False
def z1l (i : AIns) (Z : Env) (O : Store) : Option (Env × Store) :=
  match z1c Z i.guard with
  | some true => (i.op.run Z O).map fun r => (putE Z i.dst r.1, r.2)
  | some false => some (putE Z i.dst .undef, O)
  | none => none
def rdC (K : Hist -> Env -> Store -> Prop) (H : Hist) (d : Option Nat) (op : AOp) (Z : Env) (O : Store) : Option (AV × Store) -> Prop
  | some r => r.2 = O /\ (∀ h, H.pre h -> op.run Z h = some (r.1, h)) /\ K ⟨H.pre, fun s => H.rds s /\ op.run Z s = some (r.1, s)⟩ (putE Z d r.1) O
  | none => False
def rdW (K : Hist -> Env -> Store -> Prop) (H : Hist) (d : Option Nat) (op : AOp) (Z : Env) (O : Store) : Option Bool -> Prop
  | some true => rdC K H d op Z O (op.run Z O)
  | some false => K H (putE Z d .undef) O
  | none => False
def efC (K : Hist -> Env -> Store -> Prop) (H : Hist) (d : Option Nat) (Z : Env) (O : Store) : Option (AV × Store) -> Prop
  | some r => H.rds r.2 /\ K ⟨fun s => H.pre s \/ s = O, H.rds⟩ (putE Z d r.1) r.2
  | none => False
def efW (K : Hist -> Env -> Store -> Prop) (H : Hist) (d : Option Nat) (op : AOp) (Z : Env) (O : Store) : Option Bool -> Prop
  | some true => efC K H d Z O (op.run Z O)
  | some false => K H (putE Z d .undef) O
  | none => False
/-- All effects so far left the store, and all to come must. -/
def Hist.same (O : Store) : Hist := ⟨fun s => s = O, fun s => s = O⟩
def rdS (K : Hist -> Env -> Store -> Prop) (d : Option Nat) (Z : Env) (O : Store) : Option (AV × Store) -> Prop
  | some r => r.2 = O /\ K (Hist.same O) (putE Z d r.1) O
  | none => False
theorem zn7 {K : Hist -> Env -> Store -> Prop} {d : Option Nat} {op : AOp} {Z : Env} {O : Store} : rdW K (Hist.same O) d op Z O (some true) = rdS K d Z O (op.run Z O) := by
  simp only [rdW]
  cases hr : op.run Z O with
  | none => rfl
  | some r =>
    obtain ⟨v, s⟩ := r
    simp only [rdC, rdS, Hist.same, eq_iff_iff]
    constructor
    · rintro ⟨rfl, h1, h2⟩
      refine ⟨rfl, ?_⟩
      have e : (fun t => t = s /\ op.run Z t = some (v, t)) = fun t => t = s := funext fun t => propext ⟨fun h => h.1, fun h => ⟨h, by rw [h]; exact hr⟩⟩
      rw [e] at h2; exact h2
    · rintro ⟨rfl, h2⟩
      refine ⟨rfl, fun h hh => by rw [hh]; exact hr, ?_⟩
      have e : (fun t => t = s /\ op.run Z t = some (v, t)) = fun t => t = s := funext fun t => propext ⟨fun h => h.1, fun h => ⟨h, by rw [h]; exact hr⟩⟩
      rw [e]; exact h2
theorem zjg {K : Hist -> Env -> Store -> Prop} {d : Option Nat} {op : AOp} {Z : Env} {O : Store} : efW K (Hist.same O) d op Z O (some true) = rdS K d Z O (op.run Z O) := by
  simp only [efW]
  cases hr : op.run Z O with
  | none => rfl
  | some r =>
    obtain ⟨v, s⟩ := r
    simp only [efC, rdS, Hist.same, eq_iff_iff]
    have e : (fun t => t = O \/ t = O) = fun t => t = O := funext fun t => propext ⟨fun h => h.elim id id, Or.inl⟩
    rw [e]
    constructor
    · rintro ⟨rfl, h2⟩; exact ⟨rfl, h2⟩
    · rintro ⟨rfl, h2⟩; exact ⟨rfl, h2⟩
theorem zlh {O O' : Store} : z59 .ef (Hist.same O) O O' = (O' = O) := rfl
theorem zlk {O : Store} : z4s .ef (Hist.same O) O = Hist.same O := by
  have e : (fun t => t = O \/ t = O) = fun t => t = O := funext fun t => propext ⟨fun h => h.elim id id, Or.inl⟩
  simp only [z4s, Hist.same, e]
def zo (K : Hist -> Env -> Store -> Prop) (H : Hist) (i : AIns) (Z : Env) (O : Store) : Prop :=
  match i.need with
  | .no => z4a (K H) O false (z1l i Z O)
  | .same => z4a (K H) O true (z1l i Z O)
  | .rd => rdW K H i.dst i.op Z O (z1c Z i.guard)
  | .ef => efW K H i.dst i.op Z O (z1c Z i.guard)
  | .pu => False
def z3t (C : Ctx) (K : Hist -> Env -> Store -> Prop) (H : Hist) (Z : Env) (O : Store) (d : Option Nat) (need : Nd) (f : AX) (xs : List AX) : Option Bool -> Prop
  | some true => callW C K H Z d need O (f.ev Z) (xs.map (AX.ev Z))
  | some false => K H (putE Z d .undef) O
  | none => False
def zj (C : Ctx) (K : Env -> Store -> Prop) : List AIns -> Hist -> Env -> Store -> Prop
  | [], _, Z, O => K Z O
  | i :: l, H, Z, O => match i.op with
    | .call f xs => z3t C (zj C K l) H Z O i.dst i.need f xs (z1c Z i.guard)
    | _ => zo (zj C K l) H i Z O
def zcp (C : Ctx) (F : Hist -> Env -> Store -> Prop) (i : AIns) (H : Hist) (Z : Env) (O : Store) : Prop := match i.op with
  | .call f xs => z3t C F H Z O i.dst i.need f xs (z1c Z i.guard)
  | _ => zo F H i Z O
theorem zok {C : Ctx} {F : Hist -> Env -> Store -> Prop} {H : Hist} {Z : Env} {O : Store} {d : Option Nat} {g : Option (Nat × Bool)} {n : Nd} {op : AOp} (h : op.isCall = false) :
    zcp C F ⟨d, g, n, op⟩ H Z O = zo F H ⟨d, g, n, op⟩ Z O := by
  cases op <;> first | rfl | simp [AOp.isCall] at h
theorem zoj {C : Ctx} {F : Hist -> Env -> Store -> Prop} {H : Hist} {Z : Env} {O : Store} {d : Option Nat} {g : Option (Nat × Bool)} {n : Nd} {f : AX} {xs : List AX} :
    zcp C F ⟨d, g, n, .call f xs⟩ H Z O = z3t C F H Z O d n f xs (z1c Z g) := rfl
/-- A common run, and behind it two ways on. -/
def zx (C : Ctx) (K : Env -> Store -> Prop) (l m : List AIns) : List AIns -> Hist -> Env -> Store -> Prop
  | [], H, Z, O => zj C K l H Z O /\ zj C K m H Z O
  | i :: a, H, Z, O => match i.op with
    | .call f xs => z3t C (zx C K l m a) H Z O i.dst i.need f xs (z1c Z i.guard)
    | _ => zo (zx C K l m a) H i Z O
theorem z2j {C : Ctx} {K : Env -> Store -> Prop} {H : Hist} {Z : Env} {O : Store} : zj C K [] H Z O = K Z O := rfl
theorem z2i {C : Ctx} {K : Env -> Store -> Prop} {H : Hist} {Z : Env} {O : Store} {d : Option Nat} {g : Option (Nat × Bool)} {n : Nd} {f : AX} {xs : List AX} {l : List AIns} :
    zj C K (⟨d, g, n, .call f xs⟩ :: l) H Z O = z3t C (zj C K l) H Z O d n f xs (z1c Z g) := rfl
section
variable {C : Ctx} {K : Hist -> Env -> Store -> Prop} {H : Hist} {Z : Env} {d : Option Nat} {O O' : Store} {fid : FuncId} {caps xs : List AV} {v : AV}
theorem callW.mk (h : ACallsTo C fid (xs ++ caps) O v O') (hk : K H (putE Z d v) O') : callW C K H Z d .no O (.fn fid caps) xs := .inl ⟨v, O', h, trivial, hk⟩
theorem callW.zp (h : ACallsTo C fid (xs ++ caps) O v O) (hk : K H (putE Z d v) O) : callW C K H Z d .no O (.fn fid caps) xs := .inl ⟨v, O, h, trivial, hk⟩
theorem callW.za {nd : Nd} (h : ACallsTo C fid (xs ++ caps) O v O') (hn : z59 nd H O O') (hk : K (z4s nd H O) (putE Z d v) O') : callW C K H Z d nd O (.fn fid caps) xs := .inl ⟨v, O', h, hn, hk⟩
theorem callW.mkP {P : AV -> Store -> Prop} (h : ACallsP C fid (xs ++ caps) O P) (hne : ∃ v O', P v O') (hk : ∀ v O', P v O' -> K H (putE Z d v) O') : callW C K H Z d .no O (.fn fid caps) xs :=
  .inr (.inl ⟨.inl rfl, P, h, hne, fun v O' hp => ⟨trivial, hk v O' hp⟩⟩)
theorem callW.mkP_ef {P : AV -> Store -> Prop} (h : ACallsP C fid (xs ++ caps) O P) (hne : ∃ v O', P v O') (hk : ∀ v O', P v O' -> H.rds O' /\ K ⟨fun s => H.pre s \/ s = O, H.rds⟩ (putE Z d v) O') :
    callW C K H Z d .ef O (.fn fid caps) xs := .inr (.inl ⟨.inr rfl, P, h, hne, hk⟩)
theorem callW.mk_pu (h : ∀ h, ACallsTo C fid (xs ++ caps) h v h) (hk : K H (putE Z d v) O) : callW C K H Z d .pu O (.fn fid caps) xs := .inr (.inr ⟨rfl, v, h, hk⟩)
end

/-- A call of a Go function value, and what is no such call. -/
theorem zj0 {C : Ctx} {op : Op} {f : AX} {xs : List AX} (h : cOp C op = some (.call f xs)) : ∃ fo args, z1v op = some (fo, args) /\ cX C fo = some f /\ cXs C args.toList = some xs := by
  cases op
  case call c =>
    obtain ⟨callee, cargs, ats⟩ := c
    cases callee
    case value => 
      simp only [cOp, Option.bind_eq_some_iff, Option.map_eq_some_iff, AOp.call.injEq] at h
      obtain ⟨f', hf, xs', hxs, rfl, rfl⟩ := h
      exact ⟨_, _, rfl, hf, hxs⟩
    case invoke => simp [cOp] at h
    case builtin b =>
      simp only [cOp, Option.bind_eq_some_iff] at h
      obtain ⟨ys, hys, h⟩ := h
      exfalso
      split at h
      · split at h <;> (try split at h) <;> simp at h
      · simp only [Option.bind_eq_some_iff] at h
        obtain ⟨e, he, sz, hsz, by_, hby, z, hz, zc, hzc, h⟩ := h
        split at h
        · by_cases hB : e = u8T /\ sz = 1
          · rw [if_pos hB] at h; simp at h
          · rw [if_neg hB] at h; simp at h
        · simp at h
      · simp [Option.bind_eq_some_iff] at h
      · simp [Option.bind_eq_some_iff] at h
      · simp at h
      · simp at h
      · cases h
  case makeFunc fn first captured =>
    cases fn <;> simp only [cOp, reduceCtorEq] at h
    split at h <;> simp at h
  case build t ps =>
    simp only [cOp, Option.bind_eq_some_iff] at h
    obtain ⟨z, hz, zc, hzc, h⟩ := h
    exfalso
    split at h <;> simp [Option.bind_eq_some_iff] at h
  case alloc t =>
    simp only [cOp, Option.bind_eq_some_iff] at h
    obtain ⟨z, hz, h⟩ := h
    exfalso
    split at h
    · split at h <;> simp at h
    · simp at h
  case buildSlice t n ps =>
    simp only [cOp, Option.bind_eq_some_iff] at h
    obtain ⟨e, he, sz, hsz, z, hz, h⟩ := h
    exfalso
    split at h <;> simp at h
  case convert s d x =>
    simp only [cOp, Option.bind_eq_some_iff] at h
    obtain ⟨a, ha, h⟩ := h
    exfalso
    split at h
    · simp at h
    · split at h
      · split at h
        · simp at h
        · split at h <;> simp at h
      · split at h <;> simp at h
  case makeSlice t l c =>
    simp only [cOp, Option.bind_eq_some_iff] at h
    obtain ⟨e, he, sz, hsz, by_, hby, z, hz, zc, hzc, l', hl, c', hc, h⟩ := h
    exfalso
    split at h <;> simp at h
  case slice t x lo hi mx =>
    simp only [cOp, Option.bind_eq_some_iff] at h
    obtain ⟨x', hx, lo', hlo, hi', hhi, mx', hmx, h⟩ := h
    exfalso
    split at h
    · simp at h
    · split at h <;> simp [Option.bind_eq_some_iff] at h
  case indexAddr t x i =>
    simp only [cOp, Option.bind_eq_some_iff] at h
    obtain ⟨x', hx, i', hi, h⟩ := h
    exfalso
    split at h <;> simp [Option.bind_eq_some_iff] at h
  case index t x i =>
    simp only [cOp, Option.bind_eq_some_iff] at h
    obtain ⟨x', hx, i', hi, h⟩ := h
    exfalso
    split at h <;> simp [Option.bind_eq_some_iff] at h
  all_goals simp [cOp, Option.bind_eq_some_iff, Option.map_eq_some_iff] at h

/-! Operations of a region. -/
def z96 (ops : Array Oper) : Option (Nat × Bool) -> Option (Option (Nat × Bool))
  | none => some none
  | some g => match (ops[g.1]?).bind (·.dst) with
    | some d => some (some (d, g.2))
    | none => none
theorem ziy {ops : Array Oper} {o : Oper} {g : Option (Nat × Bool)} (h : z96 ops o.guard = some g) (Z : Env) : z41 ops Z o = z1c Z g := by
  unfold z41
  cases hg : o.guard with
  | none => rw [hg] at h; simp only [z96, Option.some.injEq] at h; subst h; rfl
  | some k =>
    rw [hg] at h
    simp only [z96] at h
    split at h
    · rename_i d hd
      simp only [Option.some.injEq] at h; subst h
      simp only [hd, z1c] <;> rfl
    · cases h
def cIns (C : Ctx) (ops : Array Oper) (need : Nd) (o : Oper) : Option AIns :=
  (z96 ops o.guard).map fun g => ⟨o.dst, g, need, (cOp C o.op).getD .stuck⟩
/-- What the abstract machine has seen, against what the operations have. -/
def HR (H H' : Hist) : Prop := (∀ s, H'.pre s -> H.pre s) /\ ∀ s, H.rds s -> H'.rds s
theorem ziz {C : Ctx} {ops : Array Oper} {need : Nd} {o : Oper} {i : AIns} (h : cIns C ops need o = some i) {F : Hist -> Env -> Store -> Prop} {K' : Hist -> Env -> Store -> Prop} (hK : ∀ H H' Z O, HR H H' -> F H Z O -> K' H' Z O)
    {H H' : Hist} (hH : HR H H') {Z : Env} {O : Store} (hw : zcp C F i H Z O) : z28 C ops need o K' H' Z O := by
  simp only [cIns, Option.map_eq_some_iff] at h
  obtain ⟨g, hg, rfl⟩ := h
  have ha : (cOp C o.op).getD .stuck ≠ .stuck -> cOp C o.op = some ((cOp C o.op).getD .stuck) := by
    intro h
    cases hc : cOp C o.op with
    | none => rw [hc] at h; exact absurd rfl h
    | some a => rfl
  generalize (cOp C o.op).getD .stuck = a at *
  unfold z28
  rw [ziy hg]
  have nocall : a.isCall = false -> (match z1c Z g with | some true => (∃ v O', OpTo C (ev C Z) O o.op v O' /\ need.ok C (ev C Z) o.op v H' O O' /\ K' (need.next C (ev C Z) o.op v H' O) (putE Z o.dst v) O') \/ ((need = .no \/ need = .ef) /\ zan C need o K' H' Z O) | some false => K' H' (putE Z o.dst .undef) O | none => False) := by
    intro hc
    rw [zok hc] at hw
    have to : ∀ {s : Store} {r : AV × Store}, a.run Z s = some r -> OpTo C (ev C Z) s o.op r.1 r.2 := by
      intro s r hr
      obtain ⟨h1, h2⟩ := zj1 (ha (by rintro rfl; simp [AOp.run] at hr)) hr
      unfold OpTo; rw [h1]; exact h2
    cases need
    · -- nothing owed
      simp only [zo, z1l] at hw
      cases hgv : z1c Z g with
      | none => rw [hgv] at hw; exact hw.elim
      | some b =>
        rw [hgv] at hw
        cases b with
        | false => exact hK _ _ _ _ hH hw
        | true =>
          simp only at hw ⊢
          cases hr : a.run Z O with
          | none => rw [hr] at hw; exact hw.elim
          | some r => rw [hr] at hw; exact .inl ⟨r.1, r.2, to hr, trivial, hK _ _ _ _ hH hw⟩
    · simp only [zo, z1l] at hw
      cases hgv : z1c Z g with
      | none => rw [hgv] at hw; exact hw.elim
      | some b =>
        rw [hgv] at hw
        cases b with
        | false => exact hK _ _ _ _ hH hw.2
        | true =>
          simp only at hw ⊢
          cases hr : a.run Z O with
          | none => rw [hr] at hw; exact hw.elim
          | some r => rw [hr] at hw; exact .inl ⟨r.1, r.2, to hr, hw.1, hK _ _ _ _ hH hw.2⟩
    · simp only [zo] at hw
      cases hgv : z1c Z g with
      | none => rw [hgv] at hw; exact hw.elim
      | some b =>
        rw [hgv] at hw
        cases b with
        | false => exact hK _ _ _ _ hH hw
        | true =>
          simp only [rdW] at hw ⊢
          cases hr : a.run Z O with
          | none => rw [hr] at hw; exact hw.elim
          | some r =>
            rw [hr] at hw
            obtain ⟨k1, k2, k3⟩ := hw
            obtain ⟨v, s⟩ := r
            simp only at k1 k2 k3
            subst k1
            refine .inl ⟨v, s, to hr, ⟨rfl, fun h hh => to (k2 h (hH.1 h hh))⟩, hK ⟨H.pre, fun t => H.rds t /\ a.run Z t = some (v, t)⟩ _ _ _ ⟨hH.1, fun t ht => ⟨hH.2 t ht.1, to ht.2⟩⟩ k3⟩
    · simp only [zo] at hw
      cases hgv : z1c Z g with
      | none => rw [hgv] at hw; exact hw.elim
      | some b =>
        rw [hgv] at hw
        cases b with
        | false => exact hK _ _ _ _ hH hw
        | true =>
          simp only [efW] at hw ⊢
          cases hr : a.run Z O with
          | none => rw [hr] at hw; exact hw.elim
          | some r =>
            rw [hr] at hw
            exact .inl ⟨r.1, r.2, to hr, hH.2 _ hw.1, hK ⟨fun s => H.pre s \/ s = O, H.rds⟩ _ _ _ ⟨fun s hs => hs.imp (hH.1 s) id, hH.2⟩ hw.2⟩
    · simp only [zo] at hw
  cases a
  case call f xs =>
    obtain ⟨fo, args, h1, h2, h3⟩ := zj0 (ha (by simp))
    rw [zoj] at hw
    cases hgv : z1c Z g with
    | none => rw [hgv] at hw; exact hw.elim
    | some b =>
      rw [hgv] at hw
      cases b with
      | false => exact hK _ _ _ _ hH hw
      | true =>
        simp only [z3t, callW, z1b h2] at hw ⊢
        split at hw
        · rename_i fid caps hf
          have okn : ∀ {v : AV} {O' : Store}, z59 need H O O' -> need.ok C (ev C Z) o.op v H' O O' := by
            intro v O' hn
            cases need <;> simp only [z59, Nd.ok] at hn ⊢
            · exact hn
            · exact hH.2 _ hn
          have nxt : ∀ {v : AV}, need ≠ .rd -> HR (z4s need H O) (need.next C (ev C Z) o.op v H' O) := by
            intro v hn
            cases need <;> simp only [z4s, Nd.next]
            · exact hH
            · exact hH
            · exact absurd rfl hn
            · exact ⟨fun s hs => hs.imp (hH.1 s) id, hH.2⟩
            · exact hH
          rcases hw with ⟨v, O', h4, h5, h6⟩ | ⟨h0, P, h4, hne, h6⟩ | ⟨rfl, v, h4, h6⟩
          · have hn : need ≠ .rd := by rintro rfl; exact h5
            refine .inl ⟨v, O', ?_, okn h5, hK _ _ _ _ (nxt hn) h6⟩
            unfold OpTo
            rw [h1]
            refine ⟨fid, caps, hf, ?_⟩
            rw [<- z7s h3]; exact h4
          · have hn : need ≠ .rd := by rintro rfl; rcases h0 with h0 | h0 <;> cases h0
            refine .inr ⟨h0, P, ⟨_, h1, fid, caps, hf, ?_⟩, hne, fun v O' hp => ⟨okn (h6 v O' hp).1, hK _ _ _ _ (nxt hn) (h6 v O' hp).2⟩⟩
            rw [<- z7s h3]; exact h4
          · have hto : ∀ s, OpTo C (ev C Z) s o.op v s := by
              intro s
              unfold OpTo
              rw [h1]
              refine ⟨fid, caps, hf, ?_⟩
              rw [<- z7s h3]; exact h4 s
            exact .inl ⟨v, O, hto O, ⟨rfl, hto⟩, hK _ _ _ _ hH h6⟩
        · exact hw.elim
  all_goals exact nocall rfl
theorem zdq {C : Ctx} {ops : Array Oper} {need : Nd} {o : Oper} {i : AIns} (h : cIns C ops need o = some i) {l : List AIns} {K : Env -> Store -> Prop} {K' : Hist -> Env -> Store -> Prop} (hK : ∀ H H' Z O, HR H H' -> zj C K l H Z O -> K' H' Z O)
    {H H' : Hist} (hH : HR H H') {Z : Env} {O : Store} (hw : zj C K (i :: l) H Z O) : z28 C ops need o K' H' Z O := ziz h (F := zj C K l) hK hH hw
def cOps (C : Ctx) (ops : Array Oper) (need : Nat -> Nd) : List Oper -> Nat -> Option (List AIns)
  | [], _ => some []
  | o :: l, i => (cIns C ops (need i) o).bind fun a => (cOps C ops need l (i + 1)).map (a :: ·)
theorem z7p {C : Ctx} {ops : Array Oper} {need : Nat -> Nd} {K : Env -> Store -> Prop} : ∀ (l : List Oper) (i : Nat) (as_ : List AIns), (∀ j, l[j]? = ops[i + j]?) -> cOps C ops need l i = some as_ ->
    ∀ H H' Z O, HR H H' -> zj C K as_ H Z O -> z29 C ops need K (List.range' i l.length) H' Z O
  | [], i, as_, _, h, H, H', Z, O, hH, hw => by simp only [cOps, Option.some.injEq] at h; subst h; exact hw
  | o :: l, i, as_, hl, h, H, H', Z, O, hH, hw => by
    simp only [cOps, Option.bind_eq_some_iff, Option.map_eq_some_iff] at h
    obtain ⟨a, ha, as', has, rfl⟩ := h
    have h0 : ops[i]? = some o := by have := hl 0; simpa using this.symm
    simp only [List.length_cons, List.range'_succ, z29, h0]
    refine zdq ha (l := as') (K := K) (fun H H' Z O hH hk => ?_) hH hw
    refine z7p l (i + 1) as' (fun j => ?_) has H H' Z O hH hk
    have := hl (j + 1)
    simp only [List.getElem?_cons_succ] at this
    rw [this]; congr 1; omega

/-- In a region whose order is drawn: who has a partner in no order, where neither leaves the store alone by itself. -/
def zbb (C : Ctx) (ops : Array Oper) : List Nd :=
  let cl := z3u [] ops.toList
  let mate (i j : Nat) : Bool := match ops[j]? with
    | some p => !(j == i) && !opN C p.op && !ahead_ cl j i && !ahead_ cl i j
    | none => false
  let rdr (j : Nat) : Bool := match ops[j]? with | some p => opR p.op | none => false
  (List.range ops.size).map fun i => match ops[i]? with
    | some o => if opN C o.op then .no else
        let l := (List.range ops.size).filter (mate i)
        if l.isEmpty then .no else if opR o.op then .rd else if l.all rdr then .ef else .same
    | none => .no
/-- Two and more pairs of which one makes an object: the calls among them must give the same at every store. -/
def zbc (C : Ctx) (ops : Array Oper) : List Nd :=
  let cl := z3u [] ops.toList
  let mate (i j : Nat) : Bool := match ops[j]? with
    | some p => !(j == i) && !opN C p.op && !ahead_ cl j i && !ahead_ cl i j
    | none => false
  let rdr (j : Nat) : Bool := match ops[j]? with | some p => opR p.op | none => false
  let rdc (j : Nat) : Bool := match ops[j]? with | some p => opR p.op || (z1v p.op).isSome | none => false
  (List.range ops.size).map fun i => match ops[i]? with
    | some o => if opN C o.op then .no else
        let l := (List.range ops.size).filter (mate i)
        if l.isEmpty then .no else if opR o.op then .rd else if (z1v o.op).isSome && !l.all rdr then .pu else if l.all rdc then .ef else .same
    | none => .no
def z7t (n : Nat) (ops : Array Oper) : Bool := ops.all fun o => match o.dst with | some d => decide (d < n) | none => true
theorem zat {n : Nat} {ops : Array Oper} (h : z7t n ops = true) : ∀ o ∈ ops, ∀ d, o.dst = some d -> d < n := by
  intro o ho d hd
  unfold z7t at h
  rw [Array.all_eq_true_iff_forall_mem] at h
  have := h o ho
  rw [hd] at this
  simpa using this

theorem zbk {C : Ctx} {ops : Array Oper} {need : Nat -> Nd} {K : Env -> Store -> Prop} {Q : Exit -> Act -> World -> Prop} {n : Nat} (hdst : ∀ o ∈ ops, ∀ d, o.dst = some d -> d < n) :
    ∀ (L : List Nat) (H : Hist) (Z : Env) (O : Store) (γ : Places) (a : Act) (w : World), z29 C ops need K L H Z O -> Rel C γ O w -> EnvR γ w Z a.tmps -> a.tmps.size = n ->
      (∀ Z' O' γ' a' w', K Z' O' -> Step γ w γ' w' -> Rel C γ' O' w' -> EnvR γ' w' Z' a'.tmps -> a'.defers = a.defers -> a'.tmps.size = n -> Q .normal a' w') -> wpOps C.P ops Q L a w
  | [], _, Z, O, γ, a, w, h, hR, hE, hn, hQ => hQ Z O γ a w h (Step.refl _ _) hR hE rfl hn
  | i :: L, H, Z, O, γ, a, w, h, hR, hE, hn, hQ => by
    rw [wpOps_cons]
    simp only [z29] at h
    cases ho : ops[i]? with
    | none => rw [ho] at h; exact h.elim
    | some o =>
      rw [ho] at h
      have hmem : o ∈ ops := by
        obtain ⟨hi, rfl⟩ := Array.getElem?_eq_some_iff.1 ho
        exact Array.getElem_mem hi
      refine z6j ho (fun x hx => by rw [hn]; exact hdst o hmem x hx) hR hE h fun H' Z' O' γ' a' w' hK hst hR' hE' hdf hsz => ?_
      refine zbk hdst L H' Z' O' γ' a' w' hK hR' hE' (hsz.trans hn) fun Z2 O2 γ2 a2 w2 k1 k2 k3 k4 k5 k6 => ?_
      exact hQ Z2 O2 γ2 a2 w2 k1 (hst.trans k2) k3 k4 (k5.trans hdf) k6

/-- Two operations in no order, of which one makes a new object, and that is the region's only such pair: both orders are gone through. -/
def makes : Op -> Bool
  | .alloc _ => true
  | .box _ _ => true
  | _ => false
def zcy (C : Ctx) (ops : Array Oper) : List (Nat × Nat) :=
  let cl := z3u [] ops.toList
  let nd := zbb C ops
  ((List.range ops.size).flatMap fun i => ((List.range i).filter fun x => nd.getD x .no == .same && nd.getD i .no == .same && !ahead_ cl x i &&
      (match ops[x]?, ops[i]? with | some ox, some oi => makes ox.op || makes oi.op | _, _ => false)).map fun x => (x, i))
def zba (C : Ctx) (ops : Array Oper) : List Nd := match zcy C ops with
  | _ :: _ :: _ => zbc C ops
  | _ => zbb C ops
def twinP (C : Ctx) (ops : Array Oper) : Option (Nat × Nat) := match zcy C ops with
  | [pq] => some pq
  | _ => none
def z8d (C : Ctx) (ops : Array Oper) (p q : Nat) (i : Nat) : Nd := if i = p \/ i = q then .ef else (zbb C ops).getD i .no
def zbi (C : Ctx) (ops : Array Oper) (p q : Nat) : Bool :=
  let cl := z3u [] ops.toList
  let need := z8d C ops p q
  decide (p < q) && decide (q < ops.size) &&
  ((List.range ops.size).all fun i => (List.range i).all fun x => (decide (x = p) && decide (i = q)) || ahead_ cl x i || free2 C ops need x i) &&
  ((List.range ops.size).all fun y => !(decide (p < y) && decide (y < q)) || free2 C ops need q y) &&
  ((List.range ops.size).all fun y => decide (y = p) || decide (y = q) || (match ops[y]? with | some o => (z1v o.op).isNone | none => false) || ahead_ cl p y || ahead_ cl q y)
/-- The order with the second one ahead of the first. -/
def twinL (p q : Nat) (n : Nat) : List Nat := List.range' 0 p ++ q :: p :: (List.range' (p + 1) (q - (p + 1)) ++ List.range' (q + 1) (n - (q + 1)))
def cSel (C : Ctx) (ops : Array Oper) (need : Nat -> Nd) : List Nat -> Option (List AIns)
  | [] => some []
  | i :: l => (ops[i]?).bind fun o => (cIns C ops (need i) o).bind fun a => (cSel C ops need l).map (a :: ·)
theorem zam {C : Ctx} {ops : Array Oper} {need : Nat -> Nd} {K : Env -> Store -> Prop} : ∀ (l : List Nat) (as_ : List AIns), cSel C ops need l = some as_ ->
    ∀ H H' Z O, HR H H' -> zj C K as_ H Z O -> z29 C ops need K l H' Z O
  | [], as_, h, H, H', Z, O, hH, hw => by simp only [cSel, Option.some.injEq] at h; subst h; exact hw
  | i :: l, as_, h, H, H', Z, O, hH, hw => by
    simp only [cSel, Option.bind_eq_some_iff, Option.map_eq_some_iff] at h
    obtain ⟨o, h0, a, ha, as', has, rfl⟩ := h
    simp only [z29, h0]
    exact zdq ha (l := as') (K := K) (fun H H' Z O hH hk => zam l as' has H H' Z O hH hk) hH hw
def z7q (C : Ctx) (ops : Array Oper) (p q : Nat) : Option ACode :=
  if C.P.follows .mixedOrders = true /\ zbi C ops p q = true /\ z57 ops = true then
    (cSel C ops (z8d C ops p q) (List.range' 0 ops.size)).bind fun a => (cSel C ops (z8d C ops p q) (twinL p q ops.size)).map fun b => .reg2 a b
  else none
/-! Two and more pairs of which one makes an object, where the calls among them give the same at every store and one pair is left: both orders, with a common run of what stands ahead. -/
def twinsP (C : Ctx) (ops : Array Oper) : List (Nat × Nat) :=
  let cl := z3u [] ops.toList
  let nd := zbc C ops
  ((List.range ops.size).flatMap fun i => ((List.range i).filter fun x => nd.getD x .no == .same && nd.getD i .no == .same && !ahead_ cl x i &&
      (match ops[x]?, ops[i]? with | some ox, some oi => makes ox.op || makes oi.op | _, _ => false)).map fun x => (x, i))
def twinPJ (C : Ctx) (ops : Array Oper) : Option (Nat × Nat) := match zcy C ops with
  | _ :: _ :: _ => (match twinsP C ops with
    | [pq] => some pq
    | _ => none)
  | _ => none
def z8e (C : Ctx) (ops : Array Oper) (p q : Nat) (i : Nat) : Nd := if i = p \/ i = q then .ef else (zbc C ops).getD i .no
def zf4 (C : Ctx) (ops : Array Oper) (p q : Nat) : Bool :=
  let cl := z3u [] ops.toList
  let need := z8e C ops p q
  decide (p < q) && decide (q < ops.size) &&
  ((List.range ops.size).all fun i => (List.range i).all fun x => (decide (x = p) && decide (i = q)) || ahead_ cl x i || free2 C ops need x i) &&
  ((List.range ops.size).all fun y => !(decide (p < y) && decide (y < q)) || free2 C ops need q y) &&
  ((List.range ops.size).all fun y => decide (y < p) || decide (y = p) || decide (y = q) || (match ops[y]? with | some o => (z1v o.op).isNone | none => false) || ahead_ cl p y || ahead_ cl q y)
def markJ (p : Nat) : AIns := ⟨some p, none, .pu, .stuck⟩
def zh7 (p q : Nat) (n : Nat) : List Nat := q :: p :: (List.range' (p + 1) (q - (p + 1)) ++ List.range' (q + 1) (n - (q + 1)))
def z7r (C : Ctx) (ops : Array Oper) (p q : Nat) : Option ACode :=
  if C.P.follows .mixedOrders = true /\ zf4 C ops p q = true /\ z57 ops = true then
    (cSel C ops (z8e C ops p q) (List.range' 0 ops.size)).bind fun a => (cSel C ops (z8e C ops p q) (zh7 p q ops.size)).map fun b => .reg2 a (markJ p :: b)
  else none
theorem z97 {C : Ctx} {ops : Array Oper} {p q : Nat} {ac : ACode} (h : z7r C ops p q = some ac) : ∃ a b, ac = .reg2 a (markJ p :: b) /\ C.P.follows .mixedOrders = true /\ zf4 C ops p q = true /\ z57 ops = true ∧
    cSel C ops (z8e C ops p q) (List.range' 0 ops.size) = some a /\ cSel C ops (z8e C ops p q) (zh7 p q ops.size) = some b := by
  simp only [z7r] at h
  split at h
  · rename_i hok
    simp only [Option.bind_eq_some_iff, Option.map_eq_some_iff] at h
    obtain ⟨a, h1, b, h2, rfl⟩ := h
    exact ⟨a, b, rfl, hok.1, hok.2.1, hok.2.2, h1, h2⟩
  · cases h
def z6r (C : Ctx) (ops : Array Oper) : Option ACode :=
  let nd := zba C ops
  if C.P.follows .mixedOrders = true /\ zbh C ops (fun i => nd.getD i .no) = true /\ z57 ops = true then (cOps C ops (fun i => nd.getD i .no) ops.toList 0).map .reg else none

/-! Code. -/
def z16 (C : Ctx) (n : Nat) : Code -> Option ACode
  | .skip => some .skip
  | .region _ ops draw => if z7t n ops = true then
      (match draw with
       | true => (match twinP C ops with
         | some pq => (match z7q C ops pq.1 pq.2 with
           | some c => some c
           | none => z6r C ops)
         | none => (match twinPJ C ops with
           | some pq => (match z7r C ops pq.1 pq.2 with
             | some c => some c
             | none => z6r C ops)
           | none => z6r C ops))
       | false => (cOps C ops (fun _ => .no) ops.toList 0).map .reg) else none
  | .seq a b => (z16 C n a).bind fun a => (z16 C n b).map fun b => .seq a b
  | .cond c a b => (cX C c).bind fun c => (z16 C n a).bind fun a => (z16 C n b).map fun b => .cond c a b
  | .block id a => (z16 C n a).map fun a => .block id a
  | .loop a => (z16 C n a).map .loop
  | .exit id => some (.exit id)
  | .label _ => some .skip
  | .ret => some .ret
  | .scope a => (z16 C n a).map .scope
  | .rangeFunc g ps a b => (cX C g).bind fun g => (z16 C n a).bind fun a => (z16 C n b).map fun b => .rangef g ps.toList a b
  | _ => some .stuck
theorem z95 {C : Ctx} {ops : Array Oper} {ac : ACode} (h : z6r C ops = some ac) : ∃ l, ac = .reg l /\ C.P.follows .mixedOrders = true /\ zbh C ops (fun i => (zba C ops).getD i .no) = true /\ z57 ops = true /\ cOps C ops (fun i => (zba C ops).getD i .no) ops.toList 0 = some l := by
  simp only [z6r] at h
  split at h
  · rename_i hok
    simp only [Option.map_eq_some_iff] at h
    obtain ⟨l, h1, rfl⟩ := h
    exact ⟨l, rfl, hok.1, hok.2.1, hok.2.2, h1⟩
  · cases h
theorem z98 {C : Ctx} {ops : Array Oper} {p q : Nat} {ac : ACode} (h : z7q C ops p q = some ac) : ∃ a b, ac = .reg2 a b /\ C.P.follows .mixedOrders = true /\ zbi C ops p q = true /\ z57 ops = true ∧
    cSel C ops (z8d C ops p q) (List.range' 0 ops.size) = some a /\ cSel C ops (z8d C ops p q) (twinL p q ops.size) = some b := by
  simp only [z7q] at h
  split at h
  · rename_i hok
    simp only [Option.bind_eq_some_iff, Option.map_eq_some_iff] at h
    obtain ⟨a, h1, b, h2, rfl⟩ := h
    exact ⟨a, b, rfl, hok.1, hok.2.1, hok.2.2, h1, h2⟩
  · cases h
theorem z93 {C : Ctx} {n id : Nat} {ops : Array Oper} {draw : Bool} {ac : ACode} (h : z16 C n (.region id ops draw) = some ac) :
    z7t n ops = true /\ ((draw = true /\ z6r C ops = some ac) \/ (draw = true /\ ∃ p q, z7q C ops p q = some ac \/ z7r C ops p q = some ac) \/ (draw = false /\ ∃ l, ac = .reg l /\ cOps C ops (fun _ => .no) ops.toList 0 = some l)) := by
  simp only [z16] at h
  split at h
  · rename_i hd
    refine ⟨hd, ?_⟩
    split at h
    · split at h
      · split at h
        · rename_i hc
          exact .inr (.inl ⟨rfl, _, _, .inl (by rw [hc]; exact h)⟩)
        · exact .inl ⟨rfl, h⟩
      · split at h
        · split at h
          · rename_i hc
            exact .inr (.inl ⟨rfl, _, _, .inr (by rw [hc]; exact h)⟩)
          · exact .inl ⟨rfl, h⟩
        · exact .inl ⟨rfl, h⟩
    · simp only [Option.map_eq_some_iff] at h
      obtain ⟨l, h1, rfl⟩ := h
      exact .inr (.inr ⟨rfl, l, rfl, h1⟩)
  · cases h
theorem z54 {C : Ctx} {n id : Nat} {ops : Array Oper} {draw : Bool} {ac : ACode} (h : z16 C n (.region id ops draw) = some ac) : (∃ l, ac = .reg l) \/ ∃ a b, ac = .reg2 a b := by
  rcases (z93 h).2 with ⟨_, h⟩ | ⟨_, p, q, h⟩ | ⟨_, l, h, _⟩
  · obtain ⟨l, h, _⟩ := z95 h; exact .inl ⟨l, h⟩
  · rcases h with h | h
    · obtain ⟨a, b, h, _⟩ := z98 h; exact .inr ⟨a, b, h⟩
    · obtain ⟨a, b, h, _⟩ := z97 h; exact .inr ⟨a, _, h⟩
  · exact .inl ⟨l, h⟩
def AExit.out : AExit -> Exit
  | .normal => .normal
  | .exit id => .exit id
  | .ret => .ret

end Am
end Go.Proofs.YtncenefkbpelbaaDoor
end
section
/- THE ABSTRACT MACHINE, part 17: what is no longer needed is let go: objects are dropped, frozen to values, numbered anew. -/
namespace Go.Proofs.YtncenefkbpelbaaDoor
namespace Am

structure DC where
  O : Store
  n : Nat
  pre : Nat -> Nat
  fz : Nat -> Bool

mutual
/-- What an elder value reads as_ behind the change: the new one first. -/
def DR (D : DC) : AV -> AV -> Prop
  | .any, _ => True
  | .undef, a => a = .undef
  | .bool b, a => a = .bool b
  | .int k n, a => a = .int k n
  | .str s, a => a = .str s
  | .nilp, a => a = .nilp
  | .ptr r i off, a => r < D.n /\ a = .ptr (D.pre r) i off
  | .vp cs, a => (∃ cs0, a = .vp cs0 /\ DRs D cs cs0) ∨
      ∃ r i off o e, a = .ptr r i off /\ D.fz r = true /\ D.O[r]? = some (some o) /\ o[i]? = some e /\ off <= e.length /\ DRs D cs (e.drop off)
  | .nilsl, a => a = .nilsl
  | .vsl esz es ex, a => (∃ es0 ex0, a = .vsl esz es0 ex0 /\ (ex = true -> ex0 = true) /\ DRss D es es0) ∨
      ∃ r off lim o, a = .sl r off es.length lim esz /\ D.fz r = true /\ D.O[r]? = some (some o) /\ off + es.length <= o.length /\ (ex = true -> lim = some es.length) /\ DRss D es ((o.drop off).take es.length)
  | .sl r off len lim esz, a => r < D.n /\ a = .sl (D.pre r) off len lim esz
  | .asl r i off len cap esz, a => r < D.n /\ a = .asl (D.pre r) i off len cap esz
  | .fn f caps, a => ∃ caps0, a = .fn f caps0 /\ DRs D caps caps0
  | .nilfn, a => a = .nilfn
  | .agg cs, a => ∃ cs0, a = .agg cs0 /\ DRs D cs cs0
  | .tup vs, a => ∃ vs0, a = .tup vs0 /\ DRs D vs vs0
  | .bld r, a => r < D.n /\ a = .bld (D.pre r)
  | .bnil, a => a = .bnil
  | .bsl r len, a => r < D.n /\ a = .bsl (D.pre r) len
def DRs (D : DC) : List AV -> List AV -> Prop
  | [], as_ => as_ = []
  | x :: xs, as_ => ∃ a as', as_ = a :: as' /\ DR D x a /\ DRs D xs as'
def DRss (D : DC) : List (List AV) -> List (List AV) -> Prop
  | [], es => es = []
  | x :: xs, es => ∃ e es', es = e :: es' /\ DRs D x e /\ DRss D xs es'
end

mutual
/-- All references are below k. -/
def RL (k : Nat) : AV -> Prop
  | .ptr r _ _ => r < k
  | .sl r _ _ _ _ => r < k
  | .asl r _ _ _ _ _ => r < k
  | .bld r => r < k
  | .bsl r _ => r < k
  | .vp cs => RLs k cs
  | .vsl _ es _ => RLss k es
  | .fn _ caps => RLs k caps
  | .agg cs => RLs k cs
  | .tup vs => RLs k vs
  | _ => True
def RLs (k : Nat) : List AV -> Prop
  | [] => True
  | a :: as_ => RL k a /\ RLs k as_
def RLss (k : Nat) : List (List AV) -> Prop
  | [] => True
  | e :: es => RLs k e /\ RLss k es
end
theorem RLs_iff {k : Nat} : ∀ {l : List AV}, RLs k l ↔ ∀ a ∈ l, RL k a
  | [] => by simp [RLs]
  | a :: l => by simp [RLs, RLs_iff (l := l)]
theorem zda {k : Nat} : ∀ {l : List (List AV)}, RLss k l ↔ ∀ e ∈ l, RLs k e
  | [] => by simp [RLss]
  | a :: l => by simp [RLss, zda (l := l)]

mutual
theorem DR.refl {D : DC} {k : Nat} (hk : ∀ r, r < k -> r < D.n /\ D.pre r = r) : ∀ (a : AV), RL k a -> DR D a a
  | .any, _ => by simp only [DR]
  | .undef, _ => by simp only [DR]
  | .bool _, _ => by simp only [DR]
  | .int _ _, _ => by simp only [DR]
  | .str _, _ => by simp only [DR]
  | .nilp, _ => by simp only [DR]
  | .ptr r i off, h => by simp only [RL] at h; simp only [DR]; obtain ⟨h1, h2⟩ := hk r h; exact ⟨h1, by rw [h2]⟩
  | .vp cs, h => by simp only [RL] at h; simp only [DR]; exact .inl ⟨cs, rfl, DRs.refl hk cs h⟩
  | .nilsl, _ => by simp only [DR]
  | .vsl esz es ex, h => by simp only [RL] at h; simp only [DR]; exact .inl ⟨es, ex, rfl, fun h => h, DRss.refl hk es h⟩
  | .sl r off len lim esz, h => by simp only [RL] at h; simp only [DR]; obtain ⟨h1, h2⟩ := hk r h; exact ⟨h1, by rw [h2]⟩
  | .asl r i off len cap esz, h => by simp only [RL] at h; simp only [DR]; obtain ⟨h1, h2⟩ := hk r h; exact ⟨h1, by rw [h2]⟩
  | .fn f caps, h => by simp only [RL] at h; simp only [DR]; exact ⟨caps, rfl, DRs.refl hk caps h⟩
  | .nilfn, _ => by simp only [DR]
  | .agg cs, h => by simp only [RL] at h; simp only [DR]; exact ⟨cs, rfl, DRs.refl hk cs h⟩
  | .tup vs, h => by simp only [RL] at h; simp only [DR]; exact ⟨vs, rfl, DRs.refl hk vs h⟩
  | .bld r, h => by simp only [RL] at h; simp only [DR]; obtain ⟨h1, h2⟩ := hk r h; exact ⟨h1, by rw [h2]⟩
  | .bnil, _ => by simp only [DR]
  | .bsl r len, h => by simp only [RL] at h; simp only [DR]; obtain ⟨h1, h2⟩ := hk r h; exact ⟨h1, by rw [h2]⟩
theorem DRs.refl {D : DC} {k : Nat} (hk : ∀ r, r < k -> r < D.n /\ D.pre r = r) : ∀ (l : List AV), RLs k l -> DRs D l l
  | [], _ => by simp only [DRs]
  | a :: l, h => by simp only [RLs] at h; simp only [DRs]; exact ⟨a, l, rfl, DR.refl hk a h.1, DRs.refl hk l h.2⟩
theorem DRss.refl {D : DC} {k : Nat} (hk : ∀ r, r < k -> r < D.n /\ D.pre r = r) : ∀ (l : List (List AV)), RLss k l -> DRss D l l
  | [], _ => by simp only [DRss]
  | a :: l, h => by simp only [RLss] at h; simp only [DRss]; exact ⟨a, l, rfl, DRs.refl hk a h.1, DRss.refl hk l h.2⟩
end

/-! References of what stands in a world. -/
mutual
theorem VR.rl {γ : Places} {w : World} : ∀ (a : AV) (v : Value), VR γ w a v -> RL γ.length a
  | .any, _, _ => by simp only [RL]
  | .undef, _, _ => by simp only [RL]
  | .bool _, _, _ => by simp only [RL]
  | .int _ _, _, _ => by simp only [RL]
  | .str _, _, _ => by simp only [RL]
  | .nilp, _, _ => by simp only [RL]
  | .ptr r i off, v, h => by
    simp only [VR] at h; simp only [RL]
    obtain ⟨fl, pl, h1, _⟩ := h
    exact (List.getElem?_eq_some_iff.1 h1).1
  | .vp cs, v, h => by
    simp only [VR] at h; simp only [RL]
    obtain ⟨b, o, vals, _, _, _, h4⟩ := h
    exact VRs.rl cs vals h4
  | .nilsl, _, _ => by simp only [RL]
  | .vsl esz es ex, v, h => by
    simp only [VR] at h; simp only [RL]
    rcases h with ⟨rfl, _⟩ | ⟨b, o, cap, vals, _, _, _, _, _, _, h7⟩
    · simp only [RLss]
    · exact VRss.rl es vals h7
  | .sl r off len lim esz, v, h => by
    simp only [VR] at h; simp only [RL]
    obtain ⟨fl, pl, _, _, _, h1, _⟩ := h
    exact (List.getElem?_eq_some_iff.1 h1).1
  | .asl r i off len cap esz, v, h => by
    simp only [VR] at h; simp only [RL]
    obtain ⟨fl, pl, _, _, h1, _⟩ := h
    exact (List.getElem?_eq_some_iff.1 h1).1
  | .fn f caps, v, h => by
    simp only [VR] at h; simp only [RL]
    obtain ⟨vs, _, h2⟩ := h
    exact VRt.rl caps vs h2
  | .nilfn, _, _ => by simp only [RL]
  | .agg cs, v, h => by
    simp only [VR] at h; simp only [RL]
    obtain ⟨vs, _, h2⟩ := h
    exact VRs.rl cs vs h2
  | .tup cs, v, h => by
    simp only [VR] at h; simp only [RL]
    obtain ⟨vs, _, h2⟩ := h
    exact VRt.rl cs vs h2
  | .bld r, v, h => by
    simp only [VR] at h; simp only [RL]
    obtain ⟨fl, pl, h1, _⟩ := h
    exact (List.getElem?_eq_some_iff.1 h1).1
  | .bnil, _, _ => by simp only [RL]
  | .bsl r len, v, h => by
    simp only [VR] at h; simp only [RL]
    obtain ⟨fl, pl, cap, h1, _⟩ := h
    exact (List.getElem?_eq_some_iff.1 h1).1
theorem VRs.rl {γ : Places} {w : World} : ∀ (l : List AV) (vs : List Value), VRs γ w l vs -> RLs γ.length l
  | [], _, _ => by simp only [RLs]
  | a :: l, vs, h => by
    simp only [VRs] at h; simp only [RLs]
    obtain ⟨v, vs', _, h2, h3⟩ := h
    exact ⟨VR.rl a v h2.1, VRs.rl l vs' h3⟩
theorem VRt.rl {γ : Places} {w : World} : ∀ (l : List AV) (vs : List Value), VRt γ w l vs -> RLs γ.length l
  | [], _, _ => by simp only [RLs]
  | a :: l, vs, h => by
    simp only [VRt] at h; simp only [RLs]
    obtain ⟨v, vs', _, h2, h3⟩ := h
    exact ⟨VR.rl a v h2, VRt.rl l vs' h3⟩
theorem VRss.rl {γ : Places} {w : World} : ∀ (l : List (List AV)) (vs : List Value), VRss γ w l vs -> RLss γ.length l
  | [], _, _ => by simp only [RLss]
  | e :: l, vs, h => by
    simp only [VRss] at h; simp only [RLss]
    obtain ⟨v1, v2, _, h2, h3⟩ := h
    exact ⟨VRs.rl e v1 h2, VRss.rl l v2 h3⟩
end
theorem zhw {k : Nat} {l : List (List AV)} : RLss k l ↔ RLs k l.flatten := by
  rw [zda, RLs_iff]
  constructor
  · intro h a ha
    obtain ⟨e, he, hae⟩ := List.mem_flatten.1 ha
    exact RLs_iff.1 (h e he) a hae
  · intro h e he
    exact RLs_iff.2 fun a ha => h a (List.mem_flatten.2 ⟨e, he, ha⟩)
/-- All references of a store are below k. -/
def Wf (k : Nat) (O : Store) : Prop := ∀ (r : Nat) (o : AObj), O[r]? = some (some o) -> RLss k o
theorem Rel.wf {C : Ctx} {γ : Places} {O : Store} {w : World} (h : Rel C γ O w) : Wf O.length O := by
  intro r o hr
  obtain ⟨pl, h1, h2⟩ := h.alive r o hr
  obtain ⟨c, ty, fz, pre, mid, post, _, _, _, _, h5, _⟩ := h2.ex
  rw [zhw, <- h.len]
  exact VRs.rl _ _ h5

/-! Soundness. -/
theorem ObjOK.seg {γ : Places} {w : World} {pl : Place} {o : AObj} (h : ObjOK γ w pl o) {A B E : List AV} (he : o.flatten = A ++ B ++ E) : ∃ vals, Seg w pl.b (pl.base + A.length) vals /\ VRs γ w B vals := by
  obtain ⟨c, ty, fz, pre, mid, post, h1, h2, h3, h4, h5, _⟩ := h.ex
  rw [he] at h5
  obtain ⟨m12, m3, rfl, q1, q2⟩ := h5.append_inv
  obtain ⟨m1, m2, rfl, q3, q4⟩ := q1.append_inv
  exact ⟨m2, ⟨c, ty, fz, pre ++ m1, m3 ++ post, h1, by simp [h2, List.append_assoc], by rw [List.length_append, h3, q3.length]⟩, q4⟩
theorem ObjOK.none_at {γ : Places} {w : World} {pl : Place} {o : AObj} (h : ObjOK γ w pl o) {k : Nat} (hk : k <= pl.tot) : Seg w pl.b k [] := by
  obtain ⟨c, ty, fz, pre, mid, post, h1, h2, h3, h4, h5, _⟩ := h.ex
  exact ⟨c, ty, fz, c.toList.take k, c.toList.drop k, h1, by simp, by simp [h4, hk]⟩

structure DSnd (D : DC) (γ γ' : Places) (w : World) : Prop where
  ref : ∀ (r : Nat) (fl : Bool) (pl : Place), r < D.n -> γ[D.pre r]? = some (fl, pl) -> ∃ fl', γ'[r]? = some (fl', pl)
  imm : ∀ b, Imm γ w b -> Imm γ' w b
  fz : ∀ (r : Nat) (pl : Place), D.fz r = true -> γ[r]? = some (true, pl) -> ∀ (r' : Nat) (pl' : Place), γ'[r']? = some (true, pl') -> pl'.b ≠ pl.b

mutual
theorem DR.sound {C : Ctx} {D : DC} {γ γ' : Places} {w : World} (hR : Rel C γ D.O w) (hs : DSnd D γ γ' w) : ∀ (x a : AV) (v : Value), DR D x a -> VR γ w a v -> VR γ' w x v
  | .any, _, _, _, _ => by simp only [VR]
  | .undef, a, v, h, hv => by simp only [DR] at h; subst h; simpa only [VR] using hv
  | .bool _, a, v, h, hv => by simp only [DR] at h; subst h; simpa only [VR] using hv
  | .int _ _, a, v, h, hv => by simp only [DR] at h; subst h; simpa only [VR] using hv
  | .str _, a, v, h, hv => by simp only [DR] at h; subst h; simpa only [VR] using hv
  | .nilp, a, v, h, hv => by simp only [DR] at h; subst h; simpa only [VR] using hv
  | .ptr r i off, a, v, h, hv => by
    simp only [DR] at h
    obtain ⟨h1, rfl⟩ := h
    simp only [VR] at hv ⊢
    obtain ⟨fl, pl, h2, h3⟩ := hv
    obtain ⟨fl', h4⟩ := hs.ref r fl pl h1 h2
    exact ⟨fl', pl, h4, h3⟩
  | .vp cs, a, v, h, hv => by
    simp only [DR] at h
    rcases h with ⟨cs0, rfl, h⟩ | ⟨r, i, off, o, e, rfl, h1, h2, h3, h4, h5⟩
    · simp only [VR] at hv ⊢
      obtain ⟨b, o, vals, k1, k2, k3, k4⟩ := hv
      exact ⟨b, o, vals, k1, hs.imm b k2, k3, DRs.sound hR hs cs cs0 vals h k4⟩
    · simp only [VR] at hv ⊢
      obtain ⟨fl, pl, k1, rfl⟩ := hv
      obtain ⟨pl', k2, k3⟩ := hR.alive r o h2
      rw [k1] at k2; cases k2
      obtain ⟨hi, hei⟩ := List.getElem?_eq_some_iff.1 h3
      have hfl : o.flatten = ((o.take i).flatten ++ e.take off) ++ e.drop off ++ (o.drop (i + 1)).flatten := by
        conv => lhs; rw [<- List.take_append_drop i o, List.drop_eq_getElem_cons hi, hei]
        simp [List.append_assoc]
      obtain ⟨vals, q1, q2⟩ := k3.seg hfl
      have hlen : ((o.take i).flatten ++ e.take off).length = i * pl.esz + off := by
        rw [List.length_append, z1r (k := pl.esz) (fun e h => k3.esz e (List.mem_of_mem_take h)), List.length_take, List.length_take, Nat.min_eq_left (by omega), Nat.min_eq_left (by omega)]
      rw [hlen] at q1
      exact ⟨pl.b, pl.base + (i * pl.esz + off), vals, by rw [Nat.add_assoc], ⟨k3.lt, hs.fz r pl h1 k1⟩, q1, DRs.sound hR hs cs _ vals h5 q2⟩
  | .nilsl, a, v, h, hv => by simp only [DR] at h; subst h; simpa only [VR] using hv
  | .vsl esz es ex, a, v, h, hv => by
    simp only [DR] at h
    rcases h with ⟨es0, ex0, rfl, hex, h⟩ | ⟨r, off, lim, o, rfl, h1, h2, h3, h4, h5⟩
    · simp only [VR] at hv ⊢
      rcases hv with ⟨rfl, hv⟩ | ⟨b, o, cap, vals, k1, k2, k3, k4, k5, k6, k7⟩
      · refine .inl ⟨?_, hv⟩
        cases es with
        | nil => rfl
        | cons e es => simp [DRss] at h
      obtain ⟨q1, q2⟩ := DRss.sound hR hs es es0 vals h k7
      exact .inr ⟨b, o, cap, vals, by rw [q2.1]; exact k1, by rw [q2.1]; exact k2, fun e => by rw [q2.1]; exact k3 (hex e), hs.imm b k4, k5, q2.2 esz k6, q1⟩
    · simp only [VR] at hv ⊢
      obtain ⟨fl, pl, b, o_, cap, k1, k2, rfl, k3⟩ := hv
      obtain ⟨pl', k4, k5⟩ := hR.alive r o h2
      rw [k1] at k4; cases k4
      have hbb := k3.blk
      subst hbb
      have hfl : o.flatten = (o.take off).flatten ++ ((o.drop off).take es.length).flatten ++ ((o.drop off).drop es.length).flatten := by
        conv => lhs; rw [<- List.take_append_drop off o, <- List.take_append_drop es.length (o.drop off)]
        rw [List.flatten_append, List.flatten_append, List.append_assoc]
      obtain ⟨vals, q1, q2⟩ := k5.seg hfl
      have hlen : ((o.take off).flatten).length = off * pl.esz := by
        rw [z1r (k := pl.esz) (fun e h => k5.esz e (List.mem_of_mem_take h)), List.length_take, Nat.min_eq_left (by omega)]
      rw [hlen] at q1
      obtain ⟨q3, q4⟩ := DRss.sound hR hs es _ vals h5 (VRss.flat.2 q2)
      have hseg : Seg w pl.b o_ vals := by
        by_cases hc : cap = 0
        · have := k3.le
          have hz : es = [] := List.eq_nil_of_length_eq_zero (by omega)
          subst hz
          simp only [VRss] at q3
          subst q3
          exact k5.none_at k3.ole
        · rw [(k3.at_ hc).2]; exact q1
      right
      refine ⟨pl.b, o_, cap, vals, rfl, k3.le, fun e => k3.lim_ _ (h4 e), ⟨k5.lt, hs.fz r pl h1 k1⟩, hseg, q4.2 esz ?_, q3⟩
      intro e he
      rw [<- k2]
      exact k5.esz e (List.mem_of_mem_drop (List.mem_of_mem_take he))
  | .sl r off len lim esz, a, v, h, hv => by
    simp only [DR] at h
    obtain ⟨h1, rfl⟩ := h
    simp only [VR] at hv ⊢
    obtain ⟨fl, pl, b, o, cap, h2, h3⟩ := hv
    obtain ⟨fl', h4⟩ := hs.ref r fl pl h1 h2
    exact ⟨fl', pl, b, o, cap, h4, h3⟩
  | .asl r i off len cap esz, a, v, h, hv => by
    simp only [DR] at h
    obtain ⟨h1, rfl⟩ := h
    simp only [VR] at hv ⊢
    obtain ⟨fl, pl, b, o, h2, h3⟩ := hv
    obtain ⟨fl', h4⟩ := hs.ref r fl pl h1 h2
    exact ⟨fl', pl, b, o, h4, h3⟩
  | .fn f caps, a, v, h, hv => by
    simp only [DR] at h
    obtain ⟨caps0, rfl, h⟩ := h
    simp only [VR] at hv ⊢
    obtain ⟨vs, h1, h2⟩ := hv
    exact ⟨vs, h1, DRs.soundt hR hs caps caps0 vs h h2⟩
  | .nilfn, a, v, h, hv => by simp only [DR] at h; subst h; simpa only [VR] using hv
  | .agg cs, a, v, h, hv => by
    simp only [DR] at h
    obtain ⟨cs0, rfl, h⟩ := h
    simp only [VR] at hv ⊢
    obtain ⟨vs, h1, h2⟩ := hv
    exact ⟨vs, h1, DRs.sound hR hs cs cs0 vs h h2⟩
  | .tup cs, a, v, h, hv => by
    simp only [DR] at h
    obtain ⟨cs0, rfl, h⟩ := h
    simp only [VR] at hv ⊢
    obtain ⟨vs, h1, h2⟩ := hv
    exact ⟨vs, h1, DRs.soundt hR hs cs cs0 vs h h2⟩
  | .bld r, a, v, h, hv => by
    simp only [DR] at h
    obtain ⟨h1, rfl⟩ := h
    simp only [VR] at hv ⊢
    obtain ⟨fl, pl, h2, h3⟩ := hv
    obtain ⟨fl', h4⟩ := hs.ref r fl pl h1 h2
    exact ⟨fl', pl, h4, h3⟩
  | .bnil, a, v, h, hv => by simp only [DR] at h; subst h; simpa only [VR] using hv
  | .bsl r len, a, v, h, hv => by
    simp only [DR] at h
    obtain ⟨h1, rfl⟩ := h
    simp only [VR] at hv ⊢
    obtain ⟨fl, pl, cap, h2, h3⟩ := hv
    obtain ⟨fl', h4⟩ := hs.ref r fl pl h1 h2
    exact ⟨fl', pl, cap, h4, h3⟩
theorem DRs.sound {C : Ctx} {D : DC} {γ γ' : Places} {w : World} (hR : Rel C γ D.O w) (hs : DSnd D γ γ' w) : ∀ (xs as_ : List AV) (vs : List Value), DRs D xs as_ -> VRs γ w as_ vs -> VRs γ' w xs vs
  | [], as_, vs, h, hv => by simp only [DRs] at h; subst h; simpa only [VRs] using hv
  | x :: xs, as_, vs, h, hv => by
    simp only [DRs] at h
    obtain ⟨a, as', rfl, h1, h2⟩ := h
    simp only [VRs] at hv ⊢
    obtain ⟨v, vs', k1, k2, k3⟩ := hv
    exact ⟨v, vs', k1, ⟨DR.sound hR hs x a v h1 k2.1, k2.2⟩, DRs.sound hR hs xs as' vs' h2 k3⟩
theorem DRs.soundt {C : Ctx} {D : DC} {γ γ' : Places} {w : World} (hR : Rel C γ D.O w) (hs : DSnd D γ γ' w) : ∀ (xs as_ : List AV) (vs : List Value), DRs D xs as_ -> VRt γ w as_ vs -> VRt γ' w xs vs
  | [], as_, vs, h, hv => by simp only [DRs] at h; subst h; simpa only [VRt] using hv
  | x :: xs, as_, vs, h, hv => by
    simp only [DRs] at h
    obtain ⟨a, as', rfl, h1, h2⟩ := h
    simp only [VRt] at hv ⊢
    obtain ⟨v, vs', k1, k2, k3⟩ := hv
    exact ⟨v, vs', k1, DR.sound hR hs x a v h1 k2, DRs.soundt hR hs xs as' vs' h2 k3⟩
theorem DRss.sound {C : Ctx} {D : DC} {γ γ' : Places} {w : World} (hR : Rel C γ D.O w) (hs : DSnd D γ γ' w) : ∀ (xs as_ : List (List AV)) (vs : List Value), DRss D xs as_ -> VRss γ w as_ vs ->
    VRss γ' w xs vs /\ xs.length = as_.length /\ ∀ k, (∀ e ∈ as_, e.length = k) -> ∀ e ∈ xs, e.length = k
  | [], as_, vs, h, hv => by
    simp only [DRss] at h; subst h
    exact ⟨by simpa only [VRss] using hv, rfl, fun _ _ e he => by simp at he⟩
  | x :: xs, as_, vs, h, hv => by
    simp only [DRss] at h
    obtain ⟨a, as', rfl, h1, h2⟩ := h
    simp only [VRss] at hv ⊢
    obtain ⟨v1, v2, k1, k2, k3⟩ := hv
    obtain ⟨q1, q2, q3⟩ := DRss.sound hR hs xs as' v2 h2 k3
    have q4 := DRs.sound hR hs x a v1 h1 k2
    refine ⟨⟨v1, v2, k1, q4, q1⟩, by simp [q2], fun k hk e he => ?_⟩
    rcases List.mem_cons.1 he with rfl | he
    · rw [q4.length, <- k2.length]; exact hk a (by simp)
    · exact q3 k (fun e he => hk e (by simp [he])) e he
end

/-- The store part. -/
structure DownS (k : Nat) (D : DC) (O' : Store) : Prop where
  n : D.n = O'.length
  pin : ∀ r, r < k -> r < O'.length /\ D.pre r = r
  lt : ∀ r, r < O'.length -> D.pre r < D.O.length
  inj : ∀ r r', r < O'.length -> r' < O'.length -> D.pre r = D.pre r' -> r = r'
  obj : ∀ (r : Nat) (o' : AObj), O'[r]? = some (some o') -> ∃ o, D.O[D.pre r]? = some (some o) /\ DRss D o' o
  fz : ∀ r, D.fz r = true -> ∀ r', r' < O'.length -> D.pre r' = r -> O'[r']? = some none
def DownV (k : Nat) (v : AV) (O : Store) (v' : AV) (O' : Store) : Prop := ∃ D, D.O = O /\ DownS k D O' /\ DR D v' v
def Down (k : Nat) (Z : Env) (O : Store) (Z' : Env) (O' : Store) : Prop := ∃ D, D.O = O /\ DownS k D O' /\ ∀ t, DR D (Z' t) (Z t)

def Glob (C : Ctx) (γ : Places) (w : World) : Prop := ∀ (g : Nat) (cs : List AV), C.gl g = some cs -> VR γ w (.vp cs) (.pointer (some ⟨g, 0, none⟩))
theorem DownS.sound {C : Ctx} {k : Nat} {D : DC} {O' : Store} {γ0 γ : Places} {w0 w : World} (h : DownS k D O') (hR : Rel C γ D.O w) (hst : Step γ0 w0 γ w) (hgl : Glob C γ0 w0) (hk : γ0.length <= k) :
    ∃ γ', Step γ0 w0 γ' w /\ Rel C γ' O' w /\ ∀ x a v, DR D x a -> VR γ w a v -> VR γ' w x v := by
  let f : Nat -> Bool × Place := fun r => ((match O'[r]? with | some (some _) => true | _ => false), (γ[D.pre r]?.getD (true, ⟨0, 0, 0, 0, 0, 0⟩)).2)
  let γ' : Places := (List.range O'.length).map f
  have hlen : γ'.length = O'.length := by simp [γ']
  have hget : ∀ r, r < O'.length -> γ'[r]? = some (f r) := fun r hr => by simp [γ', hr]
  have hold : ∀ r, r < O'.length -> ∃ fl pl, γ[D.pre r]? = some (fl, pl) /\ (f r).2 = pl := fun r hr => by
    have h1 := h.lt r hr
    rw [<- hR.len] at h1
    refine ⟨γ[D.pre r].1, γ[D.pre r].2, List.getElem?_eq_getElem h1, ?_⟩
    simp only [f, List.getElem?_eq_getElem h1, Option.getD_some]
  have live : ∀ (r : Nat) (pl : Place), γ'[r]? = some (true, pl) -> r < O'.length /\ (∃ o', O'[r]? = some (some o')) /\ γ[D.pre r]? = some (true, pl) := by
    intro r pl hr
    have hl : r < O'.length := by rw [<- hlen]; exact (List.getElem?_eq_some_iff.1 hr).1
    rw [hget r hl] at hr
    simp only [Option.some.injEq] at hr
    obtain ⟨fl, pl', h1, h2⟩ := hold r hl
    have hf1 : (f r).1 = true := by rw [hr]
    have hf2 : pl = pl' := by rw [<- h2, hr]
    subst hf2
    have ho : ∃ o', O'[r]? = some (some o') := by
      simp only [f] at hf1
      split at hf1
      · rename_i o' ho; exact ⟨o', ho⟩
      · cases hf1
    obtain ⟨o', ho'⟩ := ho
    obtain ⟨o, h3, h4⟩ := h.obj r o' ho'
    obtain ⟨pl2, h5, h6⟩ := hR.alive _ o h3
    rw [h1] at h5; cases h5
    exact ⟨hl, ⟨o', ho'⟩, h1⟩
  have himm : ∀ b, Imm γ w b -> Imm γ' w b := fun b hb => ⟨hb.1, fun r pl hr e => by
    obtain ⟨_, _, h3⟩ := live r pl hr
    exact hb.2 _ pl h3 e⟩
  have hs : DSnd D γ γ' w := by
    refine ⟨fun r fl pl hr hg => ?_, himm, fun r pl hfz hg r' pl' hg' e => ?_⟩
    · rw [h.n] at hr
      obtain ⟨fl2, pl2, h1, h2⟩ := hold r hr
      rw [hg] at h1; cases h1
      exact ⟨(f r).1, by rw [hget r hr, <- h2]⟩
    · obtain ⟨hl, ⟨o', ho'⟩, h3⟩ := live r' pl' hg'
      have := hR.inj _ _ pl' pl h3 hg e
      rw [h.fz r hfz r' hl this] at ho'
      cases ho'
  have key := fun x a v => DR.sound hR hs x a v
  have st : Step γ0 w0 γ' w := by
    refine ⟨fun r fl pl hr => ?_, hst.size, hst.imm, fun r pl hr => ?_, hst.os, hst.tape, hst.output⟩
    · have hrk : r < k := Nat.lt_of_lt_of_le (List.getElem?_eq_some_iff.1 hr).1 hk
      obtain ⟨h1, h2⟩ := h.pin r hrk
      obtain ⟨fl', h3⟩ := hst.keep r fl pl hr
      exact hs.ref r fl' pl (by rw [h.n]; exact h1) (by rw [h2]; exact h3)
    · obtain ⟨_, _, h3⟩ := live r pl hr
      exact hst.new _ pl h3
  refine ⟨γ', st, ⟨hlen, fun r o' hr => ?_, fun r hr => ?_, fun r r' pl pl' hr hr' e => ?_, fun g cs hg => ?_⟩, key⟩
  · have hl : r < O'.length := (List.getElem?_eq_some_iff.1 hr).1
    obtain ⟨o, h1, h2⟩ := h.obj r o' hr
    obtain ⟨pl, h3, h4⟩ := hR.alive _ o h1
    obtain ⟨fl, pl2, h5, h6⟩ := hold r hl
    rw [h3] at h5; cases h5
    obtain ⟨c, ty, fz, pre, mid, post, q1, q2, q3, q4, q5, q6⟩ := h4.ex
    obtain ⟨k1, k2, k3⟩ := DRss.sound hR hs o' o mid h2 (VRss.flat.2 q5)
    refine ⟨pl, ?_, ⟨by rw [k2]; exact h4.len, k3 _ h4.esz, h4.tyk, c, ty, fz, pre, mid, post, q1, q2, q3, q4, VRss.flat.1 k1, q6⟩⟩
    rw [hget r hl]
    congr 1
    exact Prod.ext (by simp only [f, hr]) h6
  · have hl : r < O'.length := (List.getElem?_eq_some_iff.1 hr).1
    refine ⟨(f r).2, ?_⟩
    rw [hget r hl]
    congr 1
    exact Prod.ext (by simp only [f, hr]) rfl
  · obtain ⟨l1, _, h1⟩ := live r pl hr
    obtain ⟨l2, _, h2⟩ := live r' pl' hr'
    exact h.inj r r' l1 l2 (hR.inj _ _ pl pl' h1 h2 e)
  · exact (hgl g cs hg).mono st

theorem Down.sound {C : Ctx} {k : Nat} {Z Z' : Env} {O O' : Store} {γ0 γ : Places} {w0 w : World} {tmps : Array Value} (h : Down k Z O Z' O') (hR : Rel C γ O w) (hE : EnvR γ w Z tmps) (hst : Step γ0 w0 γ w) (hgl : Glob C γ0 w0) (hk : γ0.length <= k) :
    ∃ γ', Step γ0 w0 γ' w /\ Rel C γ' O' w /\ EnvR γ' w Z' tmps := by
  obtain ⟨D, rfl, h1, h2⟩ := h
  obtain ⟨γ', k1, k2, k3⟩ := h1.sound hR hst hgl hk
  exact ⟨γ', k1, k2, fun t => k3 _ _ _ (h2 t) (hE t)⟩
theorem DownV.sound {C : Ctx} {k : Nat} {v v' : AV} {cv : Value} {O O' : Store} {γ0 γ : Places} {w0 w : World} (h : DownV k v O v' O') (hR : Rel C γ O w) (hv : VR γ w v cv) (hst : Step γ0 w0 γ w) (hgl : Glob C γ0 w0) (hk : γ0.length <= k) :
    ∃ γ', Step γ0 w0 γ' w /\ Rel C γ' O' w /\ VR γ' w v' cv := by
  obtain ⟨D, rfl, h1, h2⟩ := h
  obtain ⟨γ', k1, k2, k3⟩ := h1.sound hR hst hgl hk
  exact ⟨γ', k1, k2, k3 _ _ _ h2 hv⟩
end Am
end Go.Proofs.YtncenefkbpelbaaDoor
end
section
/- THE ABSTRACT MACHINE, part 18: rules for code. -/
namespace Go.Proofs.YtncenefkbpelbaaDoor
namespace Am

/-- The abstract code from this state on: k elder objects keep their numbers. -/
def zW (C : Ctx) (n k : Nat) (ac : ACode) (Q : AExit -> Env -> Store -> Prop) (Z : Env) (O : Store) : Prop :=
  ∀ (c : Code), z16 C n c = some ac -> ∀ (γ0 : Places) (w0 : World), Glob C γ0 w0 -> γ0.length = k -> ∀ (γ : Places) (a : Act) (w : World), Step γ0 w0 γ w -> Rel C γ O w -> EnvR γ w Z a.tmps -> a.tmps.size = n ->
    c.wp C.P (fun e a' w' => ∃ ae Z' O' γ', e = AExit.out ae /\ Q ae Z' O' /\ Step γ0 w0 γ' w' /\ Rel C γ' O' w' /\ EnvR γ' w' Z' a'.tmps /\ a'.defers = a.defers /\ a'.tmps.size = n) a w

def z1i (K : Env -> Store -> Prop) (Q : AExit -> Env -> Store -> Prop) : AExit -> Env -> Store -> Prop
  | .normal => K
  | e => Q e
def blkQ (id : Nat) (Q : AExit -> Env -> Store -> Prop) : AExit -> Env -> Store -> Prop
  | .exit i => if i = id then Q .normal else Q (.exit i)
  | e => Q e

section inv
variable {C : Ctx} {n : Nat} {c : Code}
theorem zdo (hc : z16 C n c = some .skip) : c = .skip \/ ∃ l, c = .label l := by
  cases c
  case skip => exact .inl rfl
  case label l => exact .inr ⟨l, rfl⟩
  case region id ops draw => rcases z54 hc with ⟨_, h⟩ | ⟨_, _, h⟩ <;> cases h
  all_goals simp [z16, Option.bind_eq_some_iff, Option.map_eq_some_iff] at hc
theorem zis {id : Nat} (hc : z16 C n c = some (.exit id)) : c = .exit id := by
  cases c
  case exit i => simp only [z16, Option.some.injEq, ACode.exit.injEq] at hc; rw [hc]
  case region id ops draw => rcases z54 hc with ⟨_, h⟩ | ⟨_, _, h⟩ <;> cases h
  all_goals simp [z16, Option.bind_eq_some_iff, Option.map_eq_some_iff] at hc
theorem ziw (hc : z16 C n c = some .ret) : c = .ret := by
  cases c
  case ret => rfl
  case region id ops draw => rcases z54 hc with ⟨_, h⟩ | ⟨_, _, h⟩ <;> cases h
  all_goals simp [z16, Option.bind_eq_some_iff, Option.map_eq_some_iff] at hc
theorem z94 {x y : ACode} (hc : z16 C n c = some (.seq x y)) : ∃ c1 c2, c = .seq c1 c2 /\ z16 C n c1 = some x /\ z16 C n c2 = some y := by
  cases c
  case seq a b =>
    simp only [z16, Option.bind_eq_some_iff, Option.map_eq_some_iff, ACode.seq.injEq] at hc
    obtain ⟨a', h1, b', h2, rfl, rfl⟩ := hc
    exact ⟨_, _, rfl, h1, h2⟩
  case region id ops draw => rcases z54 hc with ⟨_, h⟩ | ⟨_, _, h⟩ <;> cases h
  all_goals simp [z16, Option.bind_eq_some_iff, Option.map_eq_some_iff] at hc
theorem zir {x : AX} {p q : ACode} (hc : z16 C n c = some (.cond x p q)) : ∃ o c1 c2, c = .cond o c1 c2 /\ cX C o = some x /\ z16 C n c1 = some p /\ z16 C n c2 = some q := by
  cases c
  case cond o a b =>
    simp only [z16, Option.bind_eq_some_iff, Option.map_eq_some_iff, ACode.cond.injEq] at hc
    obtain ⟨o', h0, a', h1, b', h2, rfl, rfl, rfl⟩ := hc
    exact ⟨_, _, _, rfl, h0, h1, h2⟩
  case region id ops draw => rcases z54 hc with ⟨_, h⟩ | ⟨_, _, h⟩ <;> cases h
  all_goals simp [z16, Option.bind_eq_some_iff, Option.map_eq_some_iff] at hc
theorem zaj {id : Nat} {x : ACode} (hc : z16 C n c = some (.block id x)) : ∃ c1, c = .block id c1 /\ z16 C n c1 = some x := by
  cases c
  case block i a =>
    simp only [z16, Option.map_eq_some_iff, ACode.block.injEq] at hc
    obtain ⟨a', h1, rfl, rfl⟩ := hc
    exact ⟨_, rfl, h1⟩
  case region id ops draw => rcases z54 hc with ⟨_, h⟩ | ⟨_, _, h⟩ <;> cases h
  all_goals simp [z16, Option.bind_eq_some_iff, Option.map_eq_some_iff] at hc
theorem zix {x : ACode} (hc : z16 C n c = some (.scope x)) : ∃ c1, c = .scope c1 /\ z16 C n c1 = some x := by
  cases c
  case scope a =>
    simp only [z16, Option.map_eq_some_iff, ACode.scope.injEq] at hc
    obtain ⟨a', h1, rfl⟩ := hc
    exact ⟨_, rfl, h1⟩
  case region id ops draw => rcases z54 hc with ⟨_, h⟩ | ⟨_, _, h⟩ <;> cases h
  all_goals simp [z16, Option.bind_eq_some_iff, Option.map_eq_some_iff] at hc
theorem zit {x : ACode} (hc : z16 C n c = some (.loop x)) : ∃ c1, c = .loop c1 /\ z16 C n c1 = some x := by
  cases c
  case loop a =>
    simp only [z16, Option.map_eq_some_iff, ACode.loop.injEq] at hc
    obtain ⟨a', h1, rfl⟩ := hc
    exact ⟨_, rfl, h1⟩
  case region id ops draw => rcases z54 hc with ⟨_, h⟩ | ⟨_, _, h⟩ <;> cases h
  all_goals simp [z16, Option.bind_eq_some_iff, Option.map_eq_some_iff] at hc
theorem zdn {l : List AIns} (hc : z16 C n c = some (.reg l)) : ∃ id os draw, c = .region id os draw := by
  cases c
  case region id ops draw => exact ⟨_, _, _, rfl⟩
  all_goals simp [z16, Option.bind_eq_some_iff, Option.map_eq_some_iff] at hc
end inv

section
variable {C : Ctx} {n k : Nat} {Q : AExit -> Env -> Store -> Prop} {Z : Env} {O : Store}

theorem zW.zk (h : Q .normal Z O) : zW C n k .skip Q Z O := by
  intro c hc γ0 w0 hgl hk γ a w hst hR hE hn
  have := zdo hc
  rcases this with rfl | ⟨l, rfl⟩
  · exact wp_skip ⟨.normal, Z, O, γ, rfl, h, hst, hR, hE, rfl, hn⟩
  · exact wp_label ⟨.normal, Z, O, γ, rfl, h, hst, hR, hE, rfl, hn⟩
theorem zW.ze {id : Nat} (h : Q (.exit id) Z O) : zW C n k (.exit id) Q Z O := by
  intro c hc γ0 w0 hgl hk γ a w hst hR hE hn
  have := zis hc
  subst this
  exact wp_exit ⟨.exit id, Z, O, γ, rfl, h, hst, hR, hE, rfl, hn⟩
theorem zW.zq (h : Q .ret Z O) : zW C n k .ret Q Z O := by
  intro c hc γ0 w0 hgl hk γ a w hst hR hE hn
  have := ziw hc
  subst this
  exact wp_ret ⟨.ret, Z, O, γ, rfl, h, hst, hR, hE, rfl, hn⟩
theorem zW.mono {ac : ACode} {Q' : AExit -> Env -> Store -> Prop} (h : zW C n k ac Q Z O) (hq : ∀ e Z O, Q e Z O -> Q' e Z O) : zW C n k ac Q' Z O := by
  intro c hc γ0 w0 hgl hk γ a w hst hR hE hn
  refine wp_mono (h c hc γ0 w0 hgl hk γ a w hst hR hE hn) ?_
  rintro e a' w' ⟨ae, Z', O', γ', h1, h2, h3⟩
  exact ⟨ae, Z', O', γ', h1, hq _ _ _ h2, h3⟩
theorem zW.zs {x y : ACode} (h : zW C n k x (z1i (zW C n k y Q) Q) Z O) : zW C n k (.seq x y) Q Z O := by
  intro c hc γ0 w0 hgl hk γ a w hst hR hE hn
  have := z94 hc
  obtain ⟨c1, c2, rfl, h1, h2⟩ := this
  refine wp_seq (wp_mono (h c1 h1 γ0 w0 hgl hk γ a w hst hR hE hn) ?_)
  rintro e a' w' ⟨ae, Z', O', γ', rfl, hq, q1, q2, q3, q4, q5⟩
  cases ae with
  | normal =>
    refine wp_mono (hq c2 h2 γ0 w0 hgl hk γ' a' w' q1 q2 q3 q5) ?_
    rintro e a2 w2 ⟨ae, Z2, O2, γ2, k1, k2, k3, k4, k5, k6, k7⟩
    exact ⟨ae, Z2, O2, γ2, k1, k2, k3, k4, k5, k6.trans q4, k7⟩
  | exit id => exact ⟨_, Z', O', γ', rfl, hq, q1, q2, q3, q4, q5⟩
  | ret => exact ⟨_, Z', O', γ', rfl, hq, q1, q2, q3, q4, q5⟩
theorem zW.cond {x : AX} {p q : ACode} {t : Bool} (hx : x.ev Z = .bool t) (h1 : t = true -> zW C n k p Q Z O) (h2 : t = false -> zW C n k q Q Z O) : zW C n k (.cond x p q) Q Z O := by
  intro c hc γ0 w0 hgl hk γ a w hst hR hE hn
  have := zir hc
  obtain ⟨o, c1, c2, rfl, k1, k2, k3⟩ := this
  have he := z9c hR hE o
  rw [<- z1b k1, hx] at he
  simp only [VR] at he
  refine wp_cond he ?_
  cases t
  · exact h2 rfl c2 k3 γ0 w0 hgl hk γ a w hst hR hE hn
  · exact h1 rfl c1 k2 γ0 w0 hgl hk γ a w hst hR hE hn
theorem zW.zb {id : Nat} {x : ACode} (h : zW C n k x (blkQ id Q) Z O) : zW C n k (.block id x) Q Z O := by
  intro c hc γ0 w0 hgl hk γ a w hst hR hE hn
  have := zaj hc
  obtain ⟨c1, rfl, h1⟩ := this
  refine wp_block (wp_mono (h c1 h1 γ0 w0 hgl hk γ a w hst hR hE hn) ?_)
  rintro e a' w' ⟨ae, Z', O', γ', rfl, hq, q⟩
  cases ae with
  | normal => exact ⟨.normal, Z', O', γ', rfl, hq, q⟩
  | exit id' =>
    simp only [AExit.out, Exit.inBlock]
    simp only [blkQ] at hq
    split at hq
    · rename_i he
      rw [if_pos he]
      exact ⟨.normal, Z', O', γ', rfl, hq, q⟩
    · rename_i he
      rw [if_neg he]
      exact ⟨.exit id', Z', O', γ', rfl, hq, q⟩
  | ret => exact ⟨.ret, Z', O', γ', rfl, hq, q⟩
theorem zW.zc {x : ACode} (h : zW C n k x Q Z O) : zW C n k (.scope x) Q Z O := by
  intro c hc γ0 w0 hgl hk γ a w hst hR hE hn
  have := zix hc
  obtain ⟨c1, rfl, h1⟩ := this
  refine wp_scope_straight (wp_mono (h c1 h1 γ0 w0 hgl hk γ a w hst hR hE hn) ?_)
  rintro e a' w' ⟨ae, Z', O', γ', rfl, hq, q⟩
  cases ae <;> exact ⟨_, Z', O', γ', rfl, hq, q⟩
theorem zW.loop {x : ACode} (I : Nat -> Env -> Store -> Prop) (m : Nat) (h0 : I m Z O) (h : ∀ m Z O, I m Z O -> zW C n k x (z1i (fun Z' O' => ∃ m', m' < m /\ I m' Z' O') Q) Z O) : zW C n k (.loop x) Q Z O := by
  intro c hc γ0 w0 hgl hk γ a w hst hR hE hn
  have := zit hc
  obtain ⟨c1, rfl, h1⟩ := this
  refine wp_loop_ghost (fun m a' w' => ∃ Z' O' γ', I m Z' O' /\ Step γ0 w0 γ' w' /\ Rel C γ' O' w' /\ EnvR γ' w' Z' a'.tmps /\ a'.defers = a.defers /\ a'.tmps.size = n) m ⟨Z, O, γ, h0, hst, hR, hE, rfl, hn⟩ ?_
  rintro m a1 w1 ⟨Z1, O1, γ1, hI, q1, q2, q3, q4, q5⟩
  refine wp_mono (h m Z1 O1 hI c1 h1 γ0 w0 hgl hk γ1 a1 w1 q1 q2 q3 q5) ?_
  rintro e a2 w2 ⟨ae, Z2, O2, γ2, rfl, hq, r1, r2, r3, r4, r5⟩
  cases ae with
  | normal =>
    obtain ⟨m', hm, hI'⟩ := hq
    exact ⟨m', hm, Z2, O2, γ2, hI', r1, r2, r3, r4.trans q4, r5⟩
  | exit id => exact ⟨.exit id, Z2, O2, γ2, rfl, hq, r1, r2, r3, r4.trans q4, r5⟩
  | ret => exact ⟨.ret, Z2, O2, γ2, rfl, hq, r1, r2, r3, r4.trans q4, r5⟩
theorem z86 {n : Nat} (i : Nat) : i ∈ List.range' 0 n ↔ i < n /\ (Array.replicate n false).getD i true = false := by
  simp only [List.mem_range', Array.getD_eq_getD_getElem?, Array.getElem?_replicate]
  constructor
  · rintro ⟨j, hj, rfl⟩
    have : 0 + 1 * j < n := by omega
    exact ⟨this, by simp [hj]⟩
  · rintro ⟨h1, _⟩
    exact ⟨i, h1, by omega⟩
theorem zas (ops : Array Oper) : z61 ops (fun i => (Array.replicate ops.size false).getD i false) := by
  intro i o ho hi
  simp only [Array.getD_eq_getD_getElem?, Array.getElem?_replicate] at hi
  split at hi <;> simp at hi
theorem zW.regH {ops : List AIns} {H : Hist} (h : zj C (Q .normal) ops H Z O) : zW C n k (.reg ops) Q Z O := by
  intro c hc γ0 w0 hgl hk γ a w hst hR hE hn
  have := zdn hc
  obtain ⟨id, os, draw, rfl⟩ := this
  obtain ⟨hd, hc'⟩ := z93 hc
  clear hc
  have hdst := zat hd
  rcases hc' with ⟨rfl, hc⟩ | ⟨rfl, p, q, hc⟩ | ⟨rfl, l, hl, h1⟩
  · obtain ⟨as_, e, hf, hok, hb, h1⟩ := z95 hc
    cases e
    have hrun := z7p (K := Q .normal) os.toList 0 ops (fun j => by simp) h1 H Hist.none Z O ⟨fun _ hs => hs.elim, fun _ _ => trivial⟩ h
    obtain ⟨s1, R1⟩ := hR.drawn (w' := { w with drawn := w.drawn + 1 }) rfl rfl rfl rfl
    refine wp_region_any hf ?_
    refine z9a hb hdst os.size (Array.replicate os.size false) (List.range' 0 os.size) (by simp) z86 List.pairwise_lt_range' (zas os) (by simp)
      (fun x i hx hi hxi => zf3 hok ((z86 i).1 hi).1 hxi) Hist.none Z O γ a _ (by simpa using hrun) R1 (hE.mono s1) hn ?_
    intro Z' O' γ' a' w' k1 k2 k3 k4 k5 k6
    exact ⟨.normal, Z', O', γ', rfl, k1, hst.trans (s1.trans k2), k3, k4, k5, k6⟩
  · rcases hc with hc | hc
    · obtain ⟨_, _, e, _⟩ := z98 hc
      cases e
    · obtain ⟨_, _, e, _⟩ := z97 hc
      cases e
  · cases hl
    have hrun := z7p (K := Q .normal) os.toList 0 ops (fun j => by simp) h1 H Hist.none Z O ⟨fun _ hs => hs.elim, fun _ _ => trivial⟩ h
    refine wp_region ?_
    refine zbk hdst (List.range os.size) Hist.none Z O γ a w (by rw [List.range_eq_range']; simpa using hrun) hR hE hn ?_
    intro Z' O' γ' a' w' k1 k2 k3 k4 k5 k6
    exact ⟨.normal, Z', O', γ', rfl, k1, hst.trans k2, k3, k4, k5, k6⟩
theorem ziv {c : Code} {l m : List AIns} (hc : z16 C n c = some (.reg2 l m)) : ∃ id os, c = .region id os true /\ z7t n os = true /\ ∃ p q, z7q C os p q = some (.reg2 l m) \/ z7r C os p q = some (.reg2 l m) := by
  cases c
  case region id ops draw =>
    obtain ⟨hd, h⟩ := z93 hc
    rcases h with ⟨rfl, h⟩ | ⟨rfl, p, q, h⟩ | ⟨rfl, l, h, _⟩
    · obtain ⟨_, h, _⟩ := z95 h; cases h
    · exact ⟨id, ops, rfl, hd, p, q, h⟩
    · cases h
  all_goals simp [z16, Option.bind_eq_some_iff, Option.map_eq_some_iff] at hc
/-- A region with two operations in no order that may not change places: both orders. -/
theorem zW.reg2H {l m : List AIns} {H H2 : Hist} (h : zj C (Q .normal) l H Z O) (h2 : zj C (Q .normal) m H2 Z O) : zW C n k (.reg2 l m) Q Z O := by
  intro c hc γ0 w0 hgl hk γ a w hst hR hE hn
  obtain ⟨id, os, rfl, hd, p, q, hc⟩ := ziv hc
  have hdst := zat hd
  rcases hc with hc | hc
  rotate_left
  · obtain ⟨as_, bs, e, _⟩ := z97 hc
    cases e
    exact (show False from h2).elim
  obtain ⟨as_, bs, e, hf, hok, hb, k1, k2⟩ := z98 hc
  cases e
  simp only [zbi, Bool.and_eq_true, decide_eq_true_eq, List.all_eq_true, List.mem_range] at hok
  obtain ⟨⟨⟨⟨hpq, hq⟩, o1⟩, o2⟩, o3⟩ := hok
  have e0 : List.range' 0 os.size = List.range' 0 p ++ p :: (List.range' (p + 1) (q - (p + 1)) ++ q :: List.range' (q + 1) (os.size - (q + 1))) := by
    have a1 : List.range' 0 os.size = List.range' 0 p ++ List.range' p (os.size - p) := by
      have := List.range'_append (s := 0) (m := p) (n := os.size - p) (step := 1)
      rw [show 0 + 1 * p = p by omega, show p + (os.size - p) = os.size by omega] at this
      exact this.symm
    have a2 : List.range' p (os.size - p) = p :: List.range' (p + 1) (os.size - (p + 1)) := by
      rw [show os.size - p = (os.size - (p + 1)) + 1 by omega]; rfl
    have a3 : List.range' (p + 1) (os.size - (p + 1)) = List.range' (p + 1) (q - (p + 1)) ++ List.range' q (os.size - q) := by
      have := List.range'_append (s := p + 1) (m := q - (p + 1)) (n := os.size - q) (step := 1)
      rw [show p + 1 + 1 * (q - (p + 1)) = q by omega, show q - (p + 1) + (os.size - q) = os.size - (p + 1) by omega] at this
      exact this.symm
    have a4 : List.range' q (os.size - q) = q :: List.range' (q + 1) (os.size - (q + 1)) := by
      rw [show os.size - q = (os.size - (q + 1)) + 1 by omega]; rfl
    rw [a1, a2, a3, a4]
  have hrun := zam (K := Q .normal) _ _ k1 H Hist.none Z O ⟨fun _ hs => hs.elim, fun _ _ => trivial⟩ h
  have hrun2 := zam (K := Q .normal) _ _ k2 H2 Hist.none Z O ⟨fun _ hs => hs.elim, fun _ _ => trivial⟩ h2
  rw [e0] at hrun
  have mem0 : ∀ i, i ∈ List.range' 0 p ++ p :: (List.range' (p + 1) (q - (p + 1)) ++ q :: List.range' (q + 1) (os.size - (q + 1))) ↔ i < os.size /\ (Array.replicate os.size false).getD i true = false := fun i => by rw [<- e0]; exact z86 i
  obtain ⟨s1, R1⟩ := hR.drawn (w' := { w with drawn := w.drawn + 1 }) rfl rfl rfl rfl
  refine wp_region_any hf ?_
  refine zjf (p := p) (q := q) hb hdst os.size (Array.replicate os.size false) _ _ _ (by simp) mem0 (by rw [<- e0]; exact List.pairwise_lt_range') (zas os) (by rw [<- e0]; simp)
    (fun x i hx hi hxi => ?_) (fun y hy => ?_) (fun y hy => ?_) Hist.none Z O γ a _ hrun hrun2 R1 (hE.mono s1) hn ?_
  · have := o1 i ((mem0 i).1 hi).1 x hxi
    simp only [Bool.or_eq_true, Bool.and_eq_true, decide_eq_true_eq] at this
    rcases this with (h | h) | h
    · exact .inl h
    · exact .inr (.inl h)
    · exact .inr (.inr h)
  · simp only [List.mem_range'] at hy
    obtain ⟨j, hj, rfl⟩ := hy
    have := o2 (p + 1 + 1 * j) (by omega)
    have e1 : (decide (p < p + 1 + 1 * j) && decide (p + 1 + 1 * j < q)) = true := by simp; omega
    rw [e1] at this
    simpa using this
  · have hm : y ∈ List.range' 0 p ++ p :: (List.range' (p + 1) (q - (p + 1)) ++ q :: List.range' (q + 1) (os.size - (q + 1))) := by
      simp only [List.mem_append, List.mem_cons] at hy ⊢
      rcases hy with h | h | h
      · exact .inl h
      · exact .inr (.inr (.inl h))
      · exact .inr (.inr (.inr (.inr h)))
    have hne : y ≠ p /\ y ≠ q := by
      simp only [List.mem_append, List.mem_range'] at hy
      rcases hy with ⟨j, hj, rfl⟩ | ⟨j, hj, rfl⟩ | ⟨j, hj, rfl⟩ <;> omega
    have := o3 y ((mem0 y).1 hm).1
    simp only [Bool.or_eq_true, decide_eq_true_eq] at this
    rcases this with (((h | h) | h) | h) | h
    · exact absurd h hne.1
    · exact absurd h hne.2
    · split at h
      · rename_i o ho
        exact .inl ⟨o, ho, by simpa using h⟩
      · simp at h
    · exact .inr (.inl h)
    · exact .inr (.inr h)
  · intro Z' O' γ' a' w' k1 k2 k3 k4 k5 k6
    exact ⟨.normal, Z', O', γ', rfl, k1, hst.trans (s1.trans k2), k3, k4, k5, k6⟩
theorem zW.reg2 {l m : List AIns} (h : zj C (Q .normal) l Hist.none Z O) (h2 : zj C (Q .normal) m Hist.none Z O) : zW C n k (.reg2 l m) Q Z O := zW.reg2H h h2
theorem zW.zr {ops : List AIns} (h : zj C (Q .normal) ops Hist.none Z O) : zW C n k (.reg ops) Q Z O := zW.regH h
theorem zW.regS {ops : List AIns} (h : zj C (Q .normal) ops (Hist.same O) Z O) : zW C n k (.reg ops) Q Z O := zW.regH h
theorem zW.seqReg {ops : List AIns} {y : ACode} (h : zj C (zW C n k y Q) ops Hist.none Z O) : zW C n k (.seq (.reg ops) y) Q Z O := zW.zs (zW.zr h)
theorem zW.down {ac : ACode} {Z' : Env} {O' : Store} (hd : Down k Z O Z' O') (h : zW C n k ac Q Z' O') : zW C n k ac Q Z O := by
  intro c hc γ0 w0 hgl hk γ a w hst hR hE hn
  obtain ⟨γ', h1, h2, h3⟩ := hd.sound hR hE hst hgl (by omega)
  exact h c hc γ0 w0 hgl hk γ' a w h1 h2 h3 hn
end
end Am
end Go.Proofs.YtncenefkbpelbaaDoor
end
section
/- THE ABSTRACT MACHINE, part 19: a Go function's contract from its code. -/
namespace Go.Proofs.YtncenefkbpelbaaDoor
namespace Am

/-- What is returned: a slot's value, or what lies where a slot points to. -/
inductive RV where
  | t (n : Nat)
  | c (a : Nat) (ag : Bool) (n : Nat)
def RV.val (Z : Env) (O : Store) : RV -> AV
  | .t n => Z n
  | .c a ag n => (z1p ag n O (Z a)).getD .any
def RV.ok (Z : Env) (O : Store) : RV -> Bool
  | .t _ => true
  | .c a ag n => (z1p ag n O (Z a)).isSome
def oks (Z : Env) (O : Store) : List RV -> Bool
  | [] => true
  | x :: l => x.ok Z O && oks Z O l
def z5v (C : Ctx) : List ResultVar -> Option (List RV)
  | [] => some []
  | .tmp t :: l => (z5v C l).map (.t t :: ·)
  | .cell a t :: l => (z21 C t).bind fun ag => (z1a C t).bind fun n => (z5v C l).map (.c a ag n :: ·)
def retV (ts : List RV) (Z : Env) (O : Store) : AV := match ts with
  | [t] => t.val Z O
  | ts => .tup (ts.map (RV.val Z O))
def z1j (args : List AV) : Env := fun t => args.getD t .undef
/-- A Go function, turned: how many slots, which are returned, its code. -/
def cFn (C : Ctx) (f : FuncId) : Option (Nat × List RV × ACode) :=
  (C.P.funcs[f]?).bind fun fn => if (fn.name == "runtime.NumGoroutine") = true then none else fn.body.bind fun c => (z5v C fn.results.toList).bind fun ts => (z16 C fn.ntmps c).map fun ac => (fn.ntmps, ts, ac)
def endQ (k : Nat) (ts : List RV) (v : AV) (O' : Store) : AExit -> Env -> Store -> Prop
  | .exit _ => fun _ _ => False
  | _ => fun Z O => oks Z O ts = true /\ DownV k (retV ts Z O) O v O'

theorem zc7 {C : Ctx} {γ : Places} {O : Store} {w : World} {Z : Env} {tmps : Array Value} (hR : Rel C γ O w) (hE : EnvR γ w Z tmps) (g : ResultVar -> Sem Value) (hg : ∀ t, g (.tmp t) = pure (tmps.getD t undef))
    (hg2 : ∀ a t, g (.cell a t) = do loadVar t (<- asAddr (tmps.getD a undef))) : ∀ (l : List ResultVar) (ts : List RV), z5v C l = some ts -> oks Z O ts = true ->
    ∃ vs, (l.mapM (m := Sem) g).run C.P w = .ok vs w /\ VRt γ w (ts.map (RV.val Z O)) vs
  | [], ts, h, _ => by simp only [z5v, Option.some.injEq] at h; subst h; exact ⟨[], by simp, VRt.nil⟩
  | .tmp t :: l, ts, h, hk => by
    simp only [z5v, Option.map_eq_some_iff] at h
    obtain ⟨ts', h1, rfl⟩ := h
    simp only [oks, Bool.and_eq_true] at hk
    obtain ⟨vs, k1, k2⟩ := zc7 hR hE g hg hg2 l ts' h1 hk.2
    exact ⟨tmps.getD t undef :: vs, by simp only [List.mapM_cons, Sem.run_bind, hg, Sem.run_pure, Result.andThen_ok, k1], VRt.cons (hE t) k2⟩
  | .cell a t :: l, ts, h, hk => by
    simp only [z5v, Option.bind_eq_some_iff, Option.map_eq_some_iff] at h
    obtain ⟨ag, hag, n, hn, ts', h1, rfl⟩ := h
    simp only [oks, Bool.and_eq_true, RV.ok] at hk
    obtain ⟨vs, k1, k2⟩ := zc7 hR hE g hg hg2 l ts' h1 hk.2
    obtain ⟨x, hx⟩ := Option.isSome_iff_exists.1 hk.1
    have hp := hE a
    have hx' : z6p C O t (Z a) = some x := by
      rw [<- hx]
      generalize Z a = p
      cases p <;> simp only [z6p, z1p, hag, hn, Option.bind_some]
      rfl
    obtain ⟨v, q1, q2⟩ := zeu hR hp hx'
    have hc : (do loadVar t (<- asAddr (tmps.getD a undef)) : Sem Value).run C.P w = .ok v w := by
      rw [<- q1]
      generalize Z a = p at *
      generalize tmps.getD a undef = cp at *
      cases p <;> simp only [z1p, reduceCtorEq] at hx
      · simp only [VR] at hp
        obtain ⟨_, pl, _, rfl⟩ := hp
        simp [Instr.loadAt, Instr.sureAddr, asAddr]
      · simp only [VR] at hp
        obtain ⟨b, o, vals, rfl, _⟩ := hp
        simp [Instr.loadAt, Instr.sureAddr, asAddr]
    refine ⟨v :: vs, ?_, VRt.cons ?_ k2⟩
    · simp only [List.mapM_cons, Sem.run_bind, hg2]
      simp only [Sem.run_bind] at hc
      rw [hc]
      simp only [Sem.run_pure, Result.andThen_ok, k1]
    · simp only [RV.val, hx, Option.getD_some]; exact q2
theorem z78 {C : Ctx} {γ : Places} {O : Store} {w : World} {Z : Env} {fn : Func} {tmps : Array Value} {ts : List RV} (hR : Rel C γ O w) (hE : EnvR γ w Z tmps) (h : z5v C fn.results.toList = some ts) (hk : oks Z O ts = true) :
    ∃ cv, (results fn tmps).run C.P w = .ok cv w /\ VR γ w (retV ts Z O) cv := by
  unfold results
  rw [Array.mapM_eq_mapM_toList]
  obtain ⟨vs, h1, h2⟩ := zc7 hR hE (fun | .tmp t => pure (tmps.getD t undef) | .cell a t => do loadVar t (<- asAddr (tmps.getD a undef))) (fun t => rfl) (fun a t => rfl) _ _ h hk
  simp only [Sem.run_bind, Sem.run_map]
  erw [h1]
  simp only [Result.andThen_ok, Sem.run_pure]
  unfold retV
  have hl := h2.length
  match ts with
  | [t] =>
    simp only [List.map_cons, List.map_nil, VRt] at h2
    obtain ⟨v, _, rfl, h3, rfl⟩ := h2
    exact ⟨v, by simp, h3⟩
  | [] =>
    simp only [List.map_nil, VRt] at h2
    subst h2
    exact ⟨.tuple #[], by simp, by simp only [VR]; exact ⟨[], rfl, by simp [VRt]⟩⟩
  | a :: b :: l =>
    have : ¬ (vs.toArray.size = 1) := by simp at hl ⊢; omega
    exact ⟨.tuple vs.toArray, by simp only [this, dif_neg, not_false_eq_true], by simp only [VR]; exact ⟨vs, rfl, h2⟩⟩

theorem z7z {γ : Places} {w : World} {args : List AV} {cargs : List Value} (h : VRt γ w args cargs) (n : Nat) : EnvR γ w (z1j args) (cargs.toArray ++ Array.replicate (n - cargs.toArray.size) undef) := by
  intro t
  have hl := h.length
  simp only [z1j, Array.getD_eq_getD_getElem?, List.getD_eq_getElem?_getD]
  by_cases ht : t < args.length
  · obtain ⟨v, h1, h2⟩ := h.get (List.getElem?_eq_getElem ht)
    rw [Array.getElem?_append_left (by simp; omega), List.getElem?_toArray, h1, List.getElem?_eq_getElem ht]
    exact h2
  · rw [List.getElem?_eq_none (by omega), Array.getElem?_append_right (by simp; omega)]
    simp only [Option.getD_none, VR, Array.getElem?_replicate]
    split <;> rfl

theorem ACallsTo.of_body {C : Ctx} {f : FuncId} {n : Nat} {ts : List RV} {ac : ACode} (hc : cFn C f = some (n, ts, ac)) {args : List AV} {O O' : Store} {v : AV} (hn : args.length <= n)
    (h : Wf O.length O -> RLs O.length args -> zW C n O.length ac (endQ O.length ts v O') (z1j args) O) : ACallsTo C f args O v O' := by
  simp only [cFn, Option.bind_eq_some_iff] at hc
  obtain ⟨fn, hf, hc⟩ := hc
  split at hc
  · cases hc
  · rename_i hname
    simp only [Option.bind_eq_some_iff, Option.map_eq_some_iff, Prod.mk.injEq] at hc
    obtain ⟨c, hb, ts', hts, ac', hac, rfl, rfl, rfl⟩ := hc
    intro γ w cargs hR ha
    left
    constructor
    · have hname' : (fn.name == "runtime.NumGoroutine") = false := by simpa using hname
      have h1 : fn.name ≠ "runtime.NumGoroutine" := by simpa using hname'
      simp [callFunc, hf, h1, hb]
    · have hl := ha.length
      refine calls_of_wp hf hb ?_
      have hw := h hR.wf (by rw [<- hR.len]; exact VRt.rl _ _ ha) c hac γ w hR.gl hR.len γ { tmps := cargs.toArray ++ Array.replicate (fn.ntmps - cargs.toArray.size) undef, defers := [] } w (Step.refl _ _) hR
        (z7z ha _) (by simp; omega)
      refine wp_mono hw ?_
      rintro e a' w' ⟨ae, Z', O2, γ', rfl, hq, q1, q2, q3, q4, q5⟩
      have fin : (oks Z' O2 ts' = true /\ DownV O.length (retV ts' Z' O2) O2 v O') -> a'.defers = [] /\ ∃ v_1, (results fn a'.tmps).run C.P w' = .ok v_1 w' /\ ∃ cv γ', Ending.returned v_1 = .returned cv /\ Step γ w γ' w' /\ Rel C γ' O' w' /\ VR γ' w' v cv := by
        rintro ⟨hk, hd⟩
        obtain ⟨rv, r1, r2⟩ := z78 q2 q3 hts hk
        obtain ⟨γ2, k1, k2, k3⟩ := hd.sound q2 r2 q1 hR.gl (by rw [hR.len]; exact Nat.le_refl _)
        exact ⟨q4, _, r1, _, γ2, rfl, k1, k2, k3⟩
      cases ae with
      | normal => exact fin hq
      | exit id => exact hq.elim
      | ret => exact fin hq

/-- What holds at a function's end, behind what is let go. -/
def endP (k : Nat) (ts : List RV) (P : AV -> Store -> Prop) : AExit -> Env -> Store -> Prop
  | .exit _ => fun _ _ => False
  | _ => fun Z O => oks Z O ts = true /\ ∃ v O', P v O' /\ DownV k (retV ts Z O) O v O'
theorem ACallsP.of_body {C : Ctx} {f : FuncId} {n : Nat} {ts : List RV} {ac : ACode} (hc : cFn C f = some (n, ts, ac)) {args : List AV} {O : Store} {P : AV -> Store -> Prop} (hn : args.length <= n)
    (h : Wf O.length O -> RLs O.length args -> zW C n O.length ac (endP O.length ts P) (z1j args) O) : ACallsP C f args O P := by
  simp only [cFn, Option.bind_eq_some_iff] at hc
  obtain ⟨fn, hf, hc⟩ := hc
  split at hc
  · cases hc
  · rename_i hname
    simp only [Option.bind_eq_some_iff, Option.map_eq_some_iff, Prod.mk.injEq] at hc
    obtain ⟨c, hb, ts', hts, ac', hac, rfl, rfl, rfl⟩ := hc
    intro γ w cargs hR ha
    left
    constructor
    · have hname' : (fn.name == "runtime.NumGoroutine") = false := by simpa using hname
      have h1 : fn.name ≠ "runtime.NumGoroutine" := by simpa using hname'
      simp [callFunc, hf, h1, hb]
    · have hl := ha.length
      refine calls_of_wp hf hb ?_
      have hw := h hR.wf (by rw [<- hR.len]; exact VRt.rl _ _ ha) c hac γ w hR.gl hR.len γ { tmps := cargs.toArray ++ Array.replicate (fn.ntmps - cargs.toArray.size) undef, defers := [] } w (Step.refl _ _) hR
        (z7z ha _) (by simp; omega)
      refine wp_mono hw ?_
      rintro e a' w' ⟨ae, Z', O2, γ', rfl, hq, q1, q2, q3, q4, q5⟩
      have fin : (oks Z' O2 ts' = true /\ ∃ v O', P v O' /\ DownV O.length (retV ts' Z' O2) O2 v O') -> a'.defers = [] /\ ∃ v_1, (results fn a'.tmps).run C.P w' = .ok v_1 w' /\ ∃ cv v γ' O', Ending.returned v_1 = .returned cv /\ P v O' /\ Step γ w γ' w' /\ Rel C γ' O' w' /\ VR γ' w' v cv := by
        rintro ⟨hk, v, O', hp, hd⟩
        obtain ⟨rv, r1, r2⟩ := z78 q2 q3 hts hk
        obtain ⟨γ2, k1, k2, k3⟩ := hd.sound q2 r2 q1 hR.gl (by rw [hR.len]; exact Nat.le_refl _)
        exact ⟨q4, _, r1, _, v, γ2, O', rfl, hp, k1, k2, k3⟩
      cases ae with
      | normal => exact fin hq
      | exit id => exact hq.elim
      | ret => exact fin hq
theorem ACallsP.mono {C : Ctx} {f : FuncId} {args : List AV} {O : Store} {P P' : AV -> Store -> Prop} (h : ACallsP C f args O P) (hp : ∀ v O', P v O' -> P' v O') : ACallsP C f args O P' := by
  intro γ w cargs hR ha
  rcases h γ w cargs hR ha with ⟨h1, h2⟩ | ⟨cv, v, γ', O', w', h1, h2, h3⟩
  · refine .inl ⟨h1, h2.mono ?_⟩
    rintro e w' ⟨cv, v, γ', O', rfl, k1, k2⟩
    exact ⟨cv, v, γ', O', rfl, hp _ _ k1, k2⟩
  · exact .inr ⟨cv, v, γ', O', w', h1, hp _ _ h2, h3⟩

def z5k (ts : List RV) (v : AV) (O' : Store) : AExit -> Env -> Store -> Prop
  | .exit _ => fun _ _ => False
  | _ => fun Z O => oks Z O ts = true /\ retV ts Z O = v /\ O = O'
theorem ACallsTo.of_body_keep {C : Ctx} {f : FuncId} {n : Nat} {ts : List RV} {ac : ACode} (hc : cFn C f = some (n, ts, ac)) {args : List AV} {O O' : Store} {v : AV} (hn : args.length <= n)
    (h : zW C n O.length ac (z5k ts v O') (z1j args) O) : ACallsTo C f args O v O' := by
  simp only [cFn, Option.bind_eq_some_iff] at hc
  obtain ⟨fn, hf, hc⟩ := hc
  split at hc
  · cases hc
  · rename_i hname
    simp only [Option.bind_eq_some_iff, Option.map_eq_some_iff, Prod.mk.injEq] at hc
    obtain ⟨c, hb, ts', hts, ac', hac, rfl, rfl, rfl⟩ := hc
    intro γ w cargs hR ha
    left
    constructor
    · have hname' : (fn.name == "runtime.NumGoroutine") = false := by simpa using hname
      have h1 : fn.name ≠ "runtime.NumGoroutine" := by simpa using hname'
      simp [callFunc, hf, h1, hb]
    · have hl := ha.length
      refine calls_of_wp hf hb ?_
      have hw := h c hac γ w hR.gl hR.len γ { tmps := cargs.toArray ++ Array.replicate (fn.ntmps - cargs.toArray.size) undef, defers := [] } w (Step.refl _ _) hR
        (z7z ha _) (by simp; omega)
      refine wp_mono hw ?_
      rintro e a' w' ⟨ae, Z', O2, γ', rfl, hq, q1, q2, q3, q4, q5⟩
      have fin : oks Z' O2 ts' = true /\ retV ts' Z' O2 = v /\ O2 = O' -> a'.defers = [] /\ ∃ v_1, (results fn a'.tmps).run C.P w' = .ok v_1 w' /\ ∃ cv γ', Ending.returned v_1 = .returned cv /\ Step γ w γ' w' /\ Rel C γ' O' w' /\ VR γ' w' v cv := by
        rintro ⟨hk, rfl, rfl⟩
        obtain ⟨rv, r1, r2⟩ := z78 q2 q3 hts hk
        exact ⟨q4, _, r1, _, γ', rfl, q1, q2, r2⟩
      cases ae with
      | normal => exact fin hq
      | exit id => exact hq.elim
      | ret => exact fin hq

/-! Letting go at a function's end. -/
section
variable {τ news : Store}
def z2g (τ news kept : Store) (idx : Nat -> Nat) (fzl : Nat -> Bool) : DC :=
  ⟨τ ++ news, τ.length + kept.length, fun r => if r < τ.length then r else τ.length + idx (r - τ.length), fun r => decide (τ.length <= r) && fzl (r - τ.length)⟩
theorem z68 (kept : Store) (idx : Nat -> Nat) (fzl : Nat -> Bool) : ∀ r, r < τ.length -> r < (z2g τ news kept idx fzl).n /\ (z2g τ news kept idx fzl).pre r = r := fun r hr => by
  exact ⟨by show r < τ.length + kept.length; omega, by simp [z2g, hr]⟩
theorem z80 {kept : Store} {idx : Nat -> Nat} {fzl : Nat -> Bool} (hτ : Wf τ.length τ) (h1 : ∀ j, j < kept.length -> idx j < news.length) (h2 : ∀ i j, i < kept.length -> j < kept.length -> idx i = idx j -> i = j)
    (h3 : ∀ (j : Nat) (o' : AObj), kept[j]? = some (some o') -> ∃ o, news[idx j]? = some (some o) /\ DRss (z2g τ news kept idx fzl) o' o) (h4 : ∀ j, j < kept.length -> fzl (idx j) = true -> kept[j]? = some none) :
    DownS τ.length (z2g τ news kept idx fzl) (τ ++ kept) := by
  refine ⟨by simp [z2g], fun r hr => ⟨by simp; omega, (z68 kept idx fzl r hr).2⟩, fun r hr => ?_, fun r r' hr hr' e => ?_, fun r o' hr => ?_, fun r hr r' hr' e => ?_⟩
  · simp only [z2g, List.length_append] at hr ⊢
    split
    · omega
    · have := h1 (r - τ.length) (by omega); omega
  · simp only [z2g, List.length_append] at hr hr' e
    split at e <;> split at e
    · exact e
    · omega
    · omega
    · have := h2 (r - τ.length) (r' - τ.length) (by omega) (by omega) (by omega); omega
  · by_cases hl : r < τ.length
    · rw [List.getElem?_append_left hl] at hr
      refine ⟨o', ?_, DRss.refl (z68 kept idx fzl) o' (hτ r o' hr)⟩
      simp only [z2g, hl, if_true]
      rw [List.getElem?_append_left hl]; exact hr
    · rw [List.getElem?_append_right (by omega)] at hr
      obtain ⟨o, q1, q2⟩ := h3 _ o' hr
      refine ⟨o, ?_, q2⟩
      simp only [z2g, hl, if_false]
      rw [List.getElem?_append_right (by omega), Nat.add_sub_cancel_left]; exact q1
  · simp only [z2g, Bool.and_eq_true, decide_eq_true_eq, List.length_append] at hr hr' e
    split at e
    · omega
    · subst e
      rw [List.getElem?_append_right (by omega)]
      rw [Nat.add_sub_cancel_left] at hr
      exact h4 _ (by omega) hr.2

/-- A result that leads into no new object. -/
theorem DownV.pure {v : AV} (hτ : Wf τ.length τ) (hv : RL τ.length v) : DownV τ.length v (τ ++ news) v τ := by
  refine ⟨z2g τ news [] id (fun _ => true), rfl, by simpa using z80 (kept := []) (idx := id) (fzl := fun _ => true) (news := news) hτ (by simp) (by simp) (by simp) (by simp), DR.refl (z68 _ _ _) v hv⟩
theorem DownV.same {v : AV} (hτ : Wf τ.length τ) (hv : RL τ.length v) : DownV τ.length v τ v τ := by
  simpa using DownV.pure (news := []) hτ hv
/-- A new row, that nobody writes any more. -/
theorem DownV.froze {j off len esz : Nat} {lim : Option Nat} {o : AObj} (hτ : Wf τ.length τ) (ho : news[j]? = some (some o)) (hl : off + len <= o.length) (hr : RLss τ.length ((o.drop off).take len)) :
    DownV τ.length (.sl (τ.length + j) off len lim esz) (τ ++ news) (.vsl esz ((o.drop off).take len) false) τ := by
  refine ⟨z2g τ news [] id (fun _ => true), rfl, by simpa using z80 (kept := []) (idx := id) (fzl := fun _ => true) (news := news) hτ (by simp) (by simp) (by simp) (by simp), ?_⟩
  have e : ((o.drop off).take len).length = len := by simp; omega
  simp only [DR, z2g]
  right
  refine ⟨τ.length + j, off, lim, o, by rw [e], by simp, ?_, by rw [e]; exact hl, by simp, ?_⟩
  · rw [List.getElem?_append_right (by omega), Nat.add_sub_cancel_left]; exact ho
  · rw [e]; exact DRss.refl (z68 [] id (fun _ => true)) _ hr
/-- A new row, handed on to its new owner. -/
theorem DownV.own {j off len esz : Nat} {lim : Option Nat} {o : AObj} (hτ : Wf τ.length τ) (ho : news[j]? = some (some o)) (hr : RLss τ.length o) :
    DownV τ.length (.sl (τ.length + j) off len lim esz) (τ ++ news) (.sl τ.length off len lim esz) (τ ++ [some o]) := by
  have hj : j < news.length := (List.getElem?_eq_some_iff.1 ho).1
  refine ⟨z2g τ news [some o] (fun _ => j) (fun i => !decide (i = j)), rfl, z80 hτ (by simp [hj]) (fun a b h1 h2 _ => by simp at h1 h2; omega) (fun i o' hi => ?_) (fun i hi h => by simp at h), ?_⟩
  · cases i with
    | zero =>
      simp at hi; subst hi
      exact ⟨o, ho, DRss.refl (z68 _ _ _) _ hr⟩
    | succ i => simp at hi
  · simp only [DR, z2g]
    simp
end
end Am
end Go.Proofs.YtncenefkbpelbaaDoor
end
section
/- THE ABSTRACT MACHINE, part 30: a range over a function: rounds; what turns that is no cells; the function's end. -/
namespace Go.Proofs.YtncenefkbpelbaaDoor
namespace Am
open Go.RowKit

/-! Where only what is no cells turns, all values stay. -/
structure Book (w w' : World) : Prop where
  size : w.heap.size <= w'.heap.size
  cells : ∀ (b : Nat) (c : Array Value) (ty : TypeId) (fz : Nat × Nat), w.heap[b]? = some (Obj.cells c ty fz) -> w'.heap[b]? = some (Obj.cells c ty fz)
  os : w'.os = w.os
  tape : w'.tape = w.tape
  output : w'.output = w.output
theorem Book.trans {a b c : World} (h : Book a b) (k : Book b c) : Book a c :=
  ⟨Nat.le_trans h.size k.size, fun i x ty fz hi => k.cells i x ty fz (h.cells i x ty fz hi), k.os.trans h.os, k.tape.trans h.tape, k.output.trans h.output⟩
theorem Book.putObj {w : World} {l : Nat} {o : Obj} (o' : Obj) (h : w.heap[l]? = some o) (ho : o.isCells = false) : Book w (w.putObj l o') :=
  ⟨by simp, fun b c ty fz hb => (by
    rw [World.putObj_heap_other]
    · exact hb
    · rintro rfl
      rw [h] at hb; cases hb
      cases ho), rfl, rfl, rfl⟩
theorem Book.alloc (w : World) (o : Obj) : Book w (w.alloc o) :=
  ⟨by simp, fun b c ty fz hb => (Below.heap_alloc w o b (Array.getElem?_eq_some_iff.1 hb).1).trans hb, rfl, rfl, rfl⟩
theorem Book.drew (w : World) : Book w w.drew := ⟨Nat.le_refl _, fun _ _ _ _ h => h, rfl, rfl, rfl⟩
section
variable {γ : Places} {w w' : World}
theorem Imm.book (h : Book w w') {b : Nat} (hb : Imm γ w b) : Imm γ w' b := ⟨Nat.lt_of_lt_of_le hb.1 h.size, hb.2⟩
theorem Seg.book (h : Book w w') {b o : Nat} {vals : List Value} (hs : Seg w b o vals) : Seg w' b o vals := by
  obtain ⟨c, ty, fz, pre, post, h1, h2⟩ := hs
  exact ⟨c, ty, fz, pre, post, h.cells _ _ _ _ h1, h2⟩
end
mutual
theorem VR.book {γ : Places} {w w' : World} (h : Book w w') : ∀ (a : AV) (v : Value), VR γ w a v -> VR γ w' a v
  | .any, _, _ => by simp only [VR]
  | .undef, _, hv => by simpa only [VR] using hv
  | .bool _, _, hv => by simpa only [VR] using hv
  | .int _ _, _, hv => by simpa only [VR] using hv
  | .str _, _, hv => by simpa only [VR] using hv
  | .nilp, _, hv => by simpa only [VR] using hv
  | .ptr r i off, v, hv => by simpa only [VR] using hv
  | .vp cs, v, hv => by
    simp only [VR] at hv ⊢
    obtain ⟨b, o, vals, h1, h2, h3, h4⟩ := hv
    exact ⟨b, o, vals, h1, h2.book h, h3.book h, VRs.book h cs vals h4⟩
  | .nilsl, _, hv => by simpa only [VR] using hv
  | .vsl esz es ex, v, hv => by
    simp only [VR] at hv ⊢
    rcases hv with hv | ⟨b, o, cap, vals, h1, h2, h3, h4, h5, h6, h7⟩
    · exact .inl hv
    · exact .inr ⟨b, o, cap, vals, h1, h2, h3, h4.book h, h5.book h, h6, VRss.book h es vals h7⟩
  | .sl r off len lim esz, v, hv => by simpa only [VR] using hv
  | .asl r i off len cap esz, v, hv => by simpa only [VR] using hv
  | .fn f caps, v, hv => by
    simp only [VR] at hv ⊢
    obtain ⟨vs, h1, h2⟩ := hv
    exact ⟨vs, h1, VRt.book h caps vs h2⟩
  | .nilfn, _, hv => by simpa only [VR] using hv
  | .agg cs, v, hv => by
    simp only [VR] at hv ⊢
    obtain ⟨vs, h1, h2⟩ := hv
    exact ⟨vs, h1, VRs.book h cs vs h2⟩
  | .tup cs, v, hv => by
    simp only [VR] at hv ⊢
    obtain ⟨vs, h1, h2⟩ := hv
    exact ⟨vs, h1, VRt.book h cs vs h2⟩
  | .bld r, v, hv => by simpa only [VR] using hv
  | .bnil, _, hv => by simpa only [VR] using hv
  | .bsl r len, v, hv => by simpa only [VR] using hv
theorem VRs.book {γ : Places} {w w' : World} (h : Book w w') : ∀ (as_ : List AV) (vs : List Value), VRs γ w as_ vs -> VRs γ w' as_ vs
  | [], _, hv => by simpa only [VRs] using hv
  | a :: as_, vs, hv => by
    simp only [VRs] at hv ⊢
    obtain ⟨v, vs', h1, h2, h3⟩ := hv
    exact ⟨v, vs', h1, ⟨VR.book h a v h2.1, h2.2⟩, VRs.book h as_ vs' h3⟩
theorem VRt.book {γ : Places} {w w' : World} (h : Book w w') : ∀ (as_ : List AV) (vs : List Value), VRt γ w as_ vs -> VRt γ w' as_ vs
  | [], _, hv => by simpa only [VRt] using hv
  | a :: as_, vs, hv => by
    simp only [VRt] at hv ⊢
    obtain ⟨v, vs', h1, h2, h3⟩ := hv
    exact ⟨v, vs', h1, VR.book h a v h2, VRt.book h as_ vs' h3⟩
theorem VRss.book {γ : Places} {w w' : World} (h : Book w w') : ∀ (es : List (List AV)) (vs : List Value), VRss γ w es vs -> VRss γ w' es vs
  | [], _, hv => by simpa only [VRss] using hv
  | e :: es, vs, hv => by
    simp only [VRss] at hv ⊢
    obtain ⟨v1, v2, h1, h2, h3⟩ := hv
    exact ⟨v1, v2, h1, VRs.book h e v1 h2, VRss.book h es v2 h3⟩
end
section
variable {C : Ctx} {γ γ0 : Places} {O : Store} {w w' w0 : World}
theorem ObjOK.book {pl : Place} {o : AObj} (h : ObjOK γ w pl o) (hb : Book w w') : ObjOK γ w' pl o := by
  obtain ⟨c, ty, fz, pre, mid, post, h1, h2, h3, h4, h5, h6⟩ := h.ex
  obtain ⟨c0, fz0, h0⟩ := h.tyk
  exact ⟨h.len, h.esz, ⟨c0, fz0, hb.cells _ _ _ _ h0⟩, c, ty, fz, pre, mid, post, hb.cells _ _ _ _ h1, h2, h3, h4, VRs.book hb _ _ h5, h6⟩
theorem Rel.book (h : Rel C γ O w) (hb : Book w w') : Rel C γ O w' :=
  ⟨h.len, fun r o hr => by obtain ⟨pl, h1, h2⟩ := h.alive r o hr; exact ⟨pl, h1, h2.book hb⟩, h.dead, h.inj, fun g cs hg => VR.book hb _ _ (h.gl g cs hg)⟩
theorem Step.book (h : Step γ0 w0 γ w) (hb : Book w w') (hlow : ∀ b, b < w0.heap.size -> w'.heap[b]? = w.heap[b]?) : Step γ0 w0 γ w' :=
  ⟨h.keep, Nat.le_trans h.size hb.size, fun b hb' hn => (hlow b hb').trans (h.imm b hb' hn), h.new, hb.os.trans h.os, hb.tape.trans h.tape, hb.output.trans h.output⟩
/-- What is no cells lies as_ it lay. -/
theorem Step.other {γ' : Places} (h : Step γ w γ' w') (hR : Rel C γ O w) {l : Nat} {o : Obj} (hl : w.heap[l]? = some o) (ho : o.isCells = false) : w'.heap[l]? = some o := by
  rw [h.imm l (Array.getElem?_eq_some_iff.1 hl).1, hl]
  intro r pl hr e
  subst e
  have hrl : r < O.length := by rw [<- hR.len]; exact (List.getElem?_eq_some_iff.1 hr).1
  cases hq : O[r] with
  | none =>
    obtain ⟨pl', h1⟩ := hR.dead r (by rw [List.getElem?_eq_getElem hrl, hq])
    rw [h1] at hr; cases hr
  | some ob =>
    obtain ⟨pl', h1, h2⟩ := hR.alive r ob (by rw [List.getElem?_eq_getElem hrl, hq])
    rw [h1] at hr; cases hr
    obtain ⟨c0, fz0, h0⟩ := h2.tyk
    rw [hl] at h0; cases h0; cases ho
end

/-! Code within a round. -/
def z5e (rd : Option Nat) : Fence := { Fence.wide with round := rd }
theorem zj2 {rd : Option Nat} {n : Nat} {P : Program} {f : FuncId} {args : Array Value} {w : World} {R : Ending -> World -> Prop} (h : Calls P f args w R) : CallsIn (z5e rd) n P f args w R :=
  (callsIn_wide (n := n)).2 h
theorem zns {rd : Option Nat} {n : Nat} {P : Program} {r : String} {args : Array Value} {w : World} {R : Value -> World -> Prop} (h : Rows P r args w R) : RowsIn (z5e rd) n P r args w R :=
  fun c cs _ => let ⟨v, w', q, s⟩ := h c cs; ⟨v, w', q, (stepsIn_wide (P := P)).2 s⟩
theorem zf7 {rd : Option Nat} {m : Nat} {P : Program} {o : Oper} {a : Act} {w : World} {K : Act -> World -> Prop} {Q : Exit -> Act -> World -> Prop} (hd : ∀ c, o.op ≠ .defer c) (h : o.wp P a w K Q) : o.wpIn (z5e rd) m P a w K Q := by
  refine ⟨fun _ _ => trivial, ?_⟩
  rw [Oper.semAt_eq _ _ _ hd]
  unfold Oper.wp at h
  generalize (execOp a.eval o).run P w = r at h ⊢
  have dn : (z5e rd).depth.isSome = true -> 1 <= m := fun h => by simp [z5e, Fence.wide] at h
  cases r with
  | ok x w' =>
    cases x <;> simp only [Oper.upon, Oper.uponIn] at h ⊢ <;>
      first
        | exact h
        | exact h.elim
        | exact ⟨dn, (zj2 h).mono fun e w'' he => by cases e <;> exact he⟩
        | exact ⟨dn, zns h⟩
  | halt x w' => cases x <;> simp only [Oper.upon, Oper.uponIn] at h ⊢ <;> first | exact h | exact h.elim
theorem za9 {rd : Option Nat} {m : Nat} {P : Program} {ops : Array Oper} {Q : Exit -> Act -> World -> Prop} (hnd : ∀ o ∈ ops, ∀ c, o.op ≠ .defer c) (hq : ¬ LetsOut Q) : ∀ (L : List Nat) (a : Act) (w : World), wpOps P ops Q L a w -> wpOpsIn (z5e rd) m P ops Q L a w
  | [], _, _, h => h
  | i :: L, a, w, h => by
    simp only [wpOps, wpOpsIn] at h ⊢
    cases ho : ops[i]? with
    | none => rw [ho] at h; exact za9 hnd hq L a w h
    | some o =>
      rw [ho] at h
      simp only at h ⊢
      have hm : o ∈ ops := by
        obtain ⟨hi, rfl⟩ := Array.getElem?_eq_some_iff.1 ho
        exact Array.getElem_mem hi
      split at h
      · rename_i hw
        rw [if_pos hw]
        exact Oper.wpIn_mono (fun a w hh => za9 hnd hq L a w hh) (zf7 (hnd o hm) (h.resolve_right fun k => hq k.2))
      · rename_i hw
        rw [if_neg hw]
        exact ⟨fun _ _ => trivial, za9 hnd hq L _ w h⟩
theorem zp7 {rd : Option Nat} {m : Nat} {P : Program} {ops : Array Oper} {Q : Exit -> Act -> World -> Prop} (hnd : ∀ o ∈ ops, ∀ c, o.op ≠ .defer c) (hq : ¬ LetsOut Q) {i : Nat} {K : Act -> World -> Prop} {a : Act} {w : World} (h : wpOp P ops Q i K a w) : wpOpIn (z5e rd) m P ops Q i K a w := by
  unfold wpOp at h
  unfold wpOpIn
  cases ho : ops[i]? with
  | none => rw [ho] at h; exact h
  | some o =>
    rw [ho] at h
    simp only at h ⊢
    have hm : o ∈ ops := by
      obtain ⟨hi, rfl⟩ := Array.getElem?_eq_some_iff.1 ho
      exact Array.getElem_mem hi
    split at h
    · rename_i hw
      rw [if_pos hw]
      exact zf7 (hnd o hm) (h.resolve_right fun k => hq k.2)
    · rename_i hw
      rw [if_neg hw]
      exact ⟨fun _ _ => trivial, h⟩
theorem zhd {rd : Option Nat} {m : Nat} {P : Program} {md : Region.Mode} {ops : Array Oper} {Q : Exit -> Act -> World -> Prop} (hnd : ∀ o ∈ ops, ∀ c, o.op ≠ .defer c) (hq : ¬ LetsOut Q) : ∀ (fuel : Nat) (listed : Array Bool) (a : Act) (w : World), wpAny P md ops Q fuel listed a w ->
    wpAnyIn (z5e rd) m P md ops Q fuel listed a w
  | 0, _, _, _, h => h
  | fuel + 1, listed, a, w, h => ⟨h.1, fun i hi => wpOpIn_mono (fun a w hh => zhd hnd hq fuel _ a w hh) (zp7 hnd hq (h.2 i hi))⟩
def AOp.stk : AOp -> Bool
  | .stuck => true
  | _ => false
def zbe (l : List AIns) : Bool := l.all fun i => !i.op.stk
theorem zak {C : Ctx} {ops : Array Oper} {need : Nat -> Nd} : ∀ (l : List Oper) (i : Nat) (as_ : List AIns), cOps C ops need l i = some as_ -> zbe as_ = true -> ∀ o ∈ l, ∀ c, o.op ≠ .defer c
  | [], _, _, _, _, o, ho, _ => by simp at ho
  | x :: l, i, as_, h, hn, o, ho, c => by
    simp only [cOps, Option.bind_eq_some_iff, Option.map_eq_some_iff] at h
    obtain ⟨a, ha, as', has, rfl⟩ := h
    simp only [zbe, List.all_cons, Bool.and_eq_true] at hn
    rcases List.mem_cons.1 ho with rfl | ho
    · intro e
      simp only [cIns, Option.map_eq_some_iff] at ha
      obtain ⟨g, hg, rfl⟩ := ha
      have h1 := hn.1
      rw [e] at h1
      simp [cOp, AOp.stk] at h1
    · exact zak l (i + 1) as' has hn.2 o ho c

def PostI (n : Nat) (Q : AExit -> Env -> Store -> Prop) (γ0 : Places) (w0 : World) (C : Ctx) (a : Act) : Exit -> Act -> World -> Prop :=
  fun e a' w' => ∃ ae Z' O' γ', e = AExit.out ae /\ Q ae Z' O' /\ Step γ0 w0 γ' w' /\ Rel C γ' O' w' /\ EnvR γ' w' Z' a'.tmps /\ a'.defers = a.defers /\ a'.tmps.size = n
theorem PostI.tight {n : Nat} {Q : AExit -> Env -> Store -> Prop} {γ0 : Places} {w0 : World} {C : Ctx} {a : Act} : ¬ LetsOut (PostI n Q γ0 w0 C a) := by
  rintro ⟨a', w', ae, Z', O', γ', h, _⟩
  cases ae <;> cases h
/-- The abstract code from this state on, in a round of the loop l (or in none). -/
def SWpI (rd : Option Nat) (C : Ctx) (n k : Nat) (ac : ACode) (Q : AExit -> Env -> Store -> Prop) (Z : Env) (O : Store) : Prop :=
  ∀ (c : Code), z16 C n c = some ac -> ∀ (m : Nat) (γ0 : Places) (w0 : World), Glob C γ0 w0 -> γ0.length = k -> ∀ (γ : Places) (a : Act) (w : World), Step γ0 w0 γ w -> Rel C γ O w -> EnvR γ w Z a.tmps -> a.tmps.size = n ->
    c.wpIn (z5e rd) m C.P (PostI n Q γ0 w0 C a) a w
section
variable {rd : Option Nat} {C : Ctx} {n k : Nat} {Q : AExit -> Env -> Store -> Prop} {Z : Env} {O : Store}
theorem SWpI.skip (h : Q .normal Z O) : SWpI rd C n k .skip Q Z O := by
  intro c hc m γ0 w0 hgl hk γ a w hst hR hE hn
  rcases zdo hc with rfl | ⟨l, rfl⟩
  · exact wpIn_skip ⟨.normal, Z, O, γ, rfl, h, hst, hR, hE, rfl, hn⟩
  · exact wpIn_label ⟨.normal, Z, O, γ, rfl, h, hst, hR, hE, rfl, hn⟩
theorem SWpI.seq {x y : ACode} (h : SWpI rd C n k x (z1i (SWpI rd C n k y Q) Q) Z O) : SWpI rd C n k (.seq x y) Q Z O := by
  intro c hc m γ0 w0 hgl hk γ a w hst hR hE hn
  obtain ⟨c1, c2, rfl, h1, h2⟩ := z94 hc
  refine wpIn_seq (wpIn_mono (h c1 h1 m γ0 w0 hgl hk γ a w hst hR hE hn) ?_)
  rintro e a' w' ⟨ae, Z', O', γ', rfl, hq, q1, q2, q3, q4, q5⟩
  cases ae with
  | normal =>
    refine wpIn_mono (hq c2 h2 m γ0 w0 hgl hk γ' a' w' q1 q2 q3 q5) ?_
    rintro e a2 w2 ⟨ae, Z2, O2, γ2, k1, k2, k3, k4, k5, k6, k7⟩
    exact ⟨ae, Z2, O2, γ2, k1, k2, k3, k4, k5, k6.trans q4, k7⟩
  | exit id => exact ⟨_, Z', O', γ', rfl, hq, q1, q2, q3, q4, q5⟩
  | ret => exact ⟨_, Z', O', γ', rfl, hq, q1, q2, q3, q4, q5⟩
theorem SWpI.block {id : Nat} {x : ACode} (h : SWpI rd C n k x (blkQ id Q) Z O) : SWpI rd C n k (.block id x) Q Z O := by
  intro c hc m γ0 w0 hgl hk γ a w hst hR hE hn
  obtain ⟨c1, rfl, h1⟩ := zaj hc
  refine wpIn_block (wpIn_mono (h c1 h1 m γ0 w0 hgl hk γ a w hst hR hE hn) ?_)
  rintro e a' w' ⟨ae, Z', O', γ', rfl, hq, q⟩
  cases ae with
  | normal => exact ⟨.normal, Z', O', γ', rfl, hq, q⟩
  | exit id' =>
    simp only [AExit.out, Exit.inBlock]
    simp only [blkQ] at hq
    split at hq
    · rename_i he
      rw [if_pos he]
      exact ⟨.normal, Z', O', γ', rfl, hq, q⟩
    · rename_i he
      rw [if_neg he]
      exact ⟨.exit id', Z', O', γ', rfl, hq, q⟩
  | ret => exact ⟨.ret, Z', O', γ', rfl, hq, q⟩
theorem SWpI.reg {ops : List AIns} (hs : zbe ops = true) (h : zj C (Q .normal) ops Hist.none Z O) : SWpI rd C n k (.reg ops) Q Z O := by
  intro c hc m γ0 w0 hgl hk γ a w hst hR hE hn
  obtain ⟨id, os, draw, rfl⟩ := zdn hc
  obtain ⟨hd, hc'⟩ := z93 hc
  clear hc
  have hdst := zat hd
  rcases hc' with ⟨rfl, hc⟩ | ⟨rfl, p, q, hc⟩ | ⟨rfl, l, hl, h1⟩
  · obtain ⟨as_, e, hf, hok, hb, h1⟩ := z95 hc
    cases e
    have hnd : ∀ o ∈ os, ∀ c, o.op ≠ .defer c := fun o ho => zak os.toList 0 ops h1 hs o (by simpa using ho)
    have hrun := z7p (K := Q .normal) os.toList 0 ops (fun j => by simp) h1 Hist.none Hist.none Z O ⟨fun _ hs => hs.elim, fun _ _ => trivial⟩ h
    obtain ⟨s1, R1⟩ := hR.drawn (w' := { w with drawn := w.drawn + 1 }) rfl rfl rfl rfl
    refine wpIn_region_any hf (zhd hnd PostI.tight _ _ _ _ ?_)
    refine z9a hb hdst os.size (Array.replicate os.size false) (List.range' 0 os.size) (by simp) z86 List.pairwise_lt_range' (zas os) (by simp)
      (fun x i hx hi hxi => zf3 hok ((z86 i).1 hi).1 hxi) Hist.none Z O γ a _ (by simpa using hrun) R1 (hE.mono s1) hn ?_
    intro Z' O' γ' a' w' k1 k2 k3 k4 k5 k6
    exact ⟨.normal, Z', O', γ', rfl, k1, hst.trans (s1.trans k2), k3, k4, k5, k6⟩
  · rcases hc with hc | hc
    · obtain ⟨_, _, e, _⟩ := z98 hc
      cases e
    · obtain ⟨_, _, e, _⟩ := z97 hc
      cases e
  · cases hl
    have hnd : ∀ o ∈ os, ∀ c, o.op ≠ .defer c := fun o ho => zak os.toList 0 ops h1 hs o (by simpa using ho)
    have hrun := z7p (K := Q .normal) os.toList 0 ops (fun j => by simp) h1 Hist.none Hist.none Z O ⟨fun _ hs => hs.elim, fun _ _ => trivial⟩ h
    refine wpIn_region (za9 hnd PostI.tight _ _ _ ?_)
    refine zbk hdst (List.range os.size) Hist.none Z O γ a w (by rw [List.range_eq_range']; simpa using hrun) hR hE hn ?_
    intro Z' O' γ' a' w' k1 k2 k3 k4 k5 k6
    exact ⟨.normal, Z', O', γ', rfl, k1, hst.trans k2, k3, k4, k5, k6⟩
end
end Am
end Go.Proofs.YtncenefkbpelbaaDoor
end
section
/- THE ABSTRACT MACHINE, part 31: code that holds one range over a function; the function's end. -/
namespace Go.Proofs.YtncenefkbpelbaaDoor
namespace Am
open Go.RowKit
/-- Of the deferred calls: none are new, or the mark of one loop. -/
def DefOK (w : World) (a : Act) (w' : World) (a' : Act) : Prop :=
  a'.defers = a.defers \/ ∃ D, w.heap.size <= D /\ a'.defers = { target := .collected D, args := #[] } :: a.defers /\ w'.heap[D]? = some (.deferred (some []))
def PostD (n : Nat) (Q : AExit -> Env -> Store -> Prop) (γ0 : Places) (w0 : World) (C : Ctx) (a : Act) : Exit -> Act -> World -> Prop :=
  fun e a' w' => ∃ ae Z' O' γ', e = AExit.out ae /\ Q ae Z' O' /\ Step γ0 w0 γ' w' /\ Rel C γ' O' w' /\ EnvR γ' w' Z' a'.tmps /\ DefOK w0 a w' a' /\ a'.tmps.size = n
def SWpD (C : Ctx) (n k : Nat) (ac : ACode) (Q : AExit -> Env -> Store -> Prop) (Z : Env) (O : Store) : Prop :=
  ∀ (c : Code), z16 C n c = some ac -> ∀ (γ0 : Places) (w0 : World), Glob C γ0 w0 -> γ0.length = k -> ∀ (γ : Places) (a : Act) (w : World), Step γ0 w0 γ w -> Rel C γ O w -> EnvR γ w Z a.tmps -> a.tmps.size = n ->
    c.wpIn Fence.wide 2 C.P (PostD n Q γ0 w0 C a) a w
section
variable {C : Ctx} {n k : Nat} {Q : AExit -> Env -> Store -> Prop} {Z : Env} {O : Store}
theorem SWpD.of {ac : ACode} (h : zW C n k ac Q Z O) : SWpD C n k ac Q Z O := by
  intro c hc γ0 w0 hgl hk γ a w hst hR hE hn
  refine wpIn_mono (wpIn_wide.2 (h c hc γ0 w0 hgl hk γ a w hst hR hE hn)) ?_
  rintro e a' w' ⟨ae, Z', O', γ', h1, h2, h3, h4, h5, h6, h7⟩
  exact ⟨ae, Z', O', γ', h1, h2, h3, h4, h5, .inl h6, h7⟩
/-- Plain code first. -/
theorem SWpD.seqS {x y : ACode} (h : zW C n k x (z1i (SWpD C n k y Q) Q) Z O) : SWpD C n k (.seq x y) Q Z O := by
  intro c hc γ0 w0 hgl hk γ a w hst hR hE hn
  obtain ⟨c1, c2, rfl, h1, h2⟩ := z94 hc
  refine wpIn_seq (wpIn_mono (wpIn_wide.2 (h c1 h1 γ0 w0 hgl hk γ a w hst hR hE hn)) ?_)
  rintro e a' w' ⟨ae, Z', O', γ', rfl, hq, q1, q2, q3, q4, q5⟩
  cases ae with
  | normal =>
    refine wpIn_mono (hq c2 h2 γ0 w0 hgl hk γ' a' w' q1 q2 q3 q5) ?_
    rintro e a2 w2 ⟨ae, Z2, O2, γ2, k1, k2, k3, k4, k5, k6, k7⟩
    refine ⟨ae, Z2, O2, γ2, k1, k2, k3, k4, k5, ?_, k7⟩
    rcases k6 with k6 | ⟨D, d1, d2, d3⟩
    · exact .inl (k6.trans q4)
    · exact .inr ⟨D, d1, by rw [d2, q4], d3⟩
  | exit id => exact ⟨_, Z', O', γ', rfl, hq, q1, q2, q3, .inl q4, q5⟩
  | ret => exact ⟨_, Z', O', γ', rfl, hq, q1, q2, q3, .inl q4, q5⟩
/-- Plain code behind. -/
theorem SWpD.seqR {x y : ACode} (h : SWpD C n k x (z1i (fun Z' O' => zW C n O'.length y Q Z' O') Q) Z O) : SWpD C n k (.seq x y) Q Z O := by
  intro c hc γ0 w0 hgl hk γ a w hst hR hE hn
  obtain ⟨c1, c2, rfl, h1, h2⟩ := z94 hc
  refine wpIn_seq (wpIn_mono (h c1 h1 γ0 w0 hgl hk γ a w hst hR hE hn) ?_)
  rintro e a' w' ⟨ae, Z', O', γ', rfl, hq, q1, q2, q3, q4, q5⟩
  cases ae with
  | normal =>
    refine wpIn_mono (wpIn_wide.2 (hq c2 h2 γ' w' q2.gl q2.len γ' a' w' (Step.refl _ _) q2 q3 q5)) ?_
    rintro e a2 w2 ⟨ae, Z2, O2, γ2, k1, k2, k3, k4, k5, k6, k7⟩
    refine ⟨ae, Z2, O2, γ2, k1, k2, q1.trans k3, k4, k5, ?_, k7⟩
    rcases q4 with q4 | ⟨D, d1, d2, d3⟩
    · exact .inl (k6.trans q4)
    · exact .inr ⟨D, d1, k6.trans d2, k3.other q2 d3 rfl⟩
  | exit id => exact ⟨_, Z', O', γ', rfl, hq, q1, q2, q3, q4, q5⟩
  | ret => exact ⟨_, Z', O', γ', rfl, hq, q1, q2, q3, q4, q5⟩
theorem SWpD.block {id : Nat} {x : ACode} (h : SWpD C n k x (blkQ id Q) Z O) : SWpD C n k (.block id x) Q Z O := by
  intro c hc γ0 w0 hgl hk γ a w hst hR hE hn
  obtain ⟨c1, rfl, h1⟩ := zaj hc
  refine wpIn_block (wpIn_mono (h c1 h1 γ0 w0 hgl hk γ a w hst hR hE hn) ?_)
  rintro e a' w' ⟨ae, Z', O', γ', rfl, hq, q⟩
  cases ae with
  | normal => exact ⟨.normal, Z', O', γ', rfl, hq, q⟩
  | exit id' =>
    simp only [AExit.out, Exit.inBlock]
    simp only [blkQ] at hq
    split at hq
    · rename_i he
      rw [if_pos he]
      exact ⟨.normal, Z', O', γ', rfl, hq, q⟩
    · rename_i he
      rw [if_neg he]
      exact ⟨.exit id', Z', O', γ', rfl, hq, q⟩
  | ret => exact ⟨.ret, Z', O', γ', rfl, hq, q⟩
end
theorem ziu {C : Ctx} {n : Nat} {c : Code} {g : AX} {ps : List Nat} {xa xb : ACode} (hc : z16 C n c = some (.rangef g ps xa xb)) : ∃ go p ca cb, c = .rangeFunc go p ca cb /\ cX C go = some g /\ p.toList = ps /\ z16 C n ca = some xa /\ z16 C n cb = some xb := by
  cases c
  case rangeFunc go p ca cb =>
    simp only [z16, Option.bind_eq_some_iff, Option.map_eq_some_iff, ACode.rangef.injEq] at hc
    obtain ⟨g', h1, a', h2, b', h3, rfl, rfl, rfl, rfl⟩ := hc
    exact ⟨_, _, _, _, rfl, h1, rfl, h2, h3⟩
  case region id ops draw => rcases z54 hc with ⟨_, h⟩ | ⟨_, _, h⟩ <;> cases h
  all_goals simp [z16, Option.bind_eq_some_iff, Option.map_eq_some_iff] at hc
theorem ACallsTo.of_bodyD {C : Ctx} {f : FuncId} {n : Nat} {ts : List RV} {ac : ACode} (hc : cFn C f = some (n, ts, ac)) {args : List AV} {O O' : Store} {v : AV} (hn : args.length <= n)
    (h : Wf O.length O -> RLs O.length args -> SWpD C n O.length ac (endQ O.length ts v O') (z1j args) O) : ACallsTo C f args O v O' := by
  simp only [cFn, Option.bind_eq_some_iff] at hc
  obtain ⟨fn, hf, hc⟩ := hc
  split at hc
  · cases hc
  · rename_i hname
    simp only [Option.bind_eq_some_iff, Option.map_eq_some_iff, Prod.mk.injEq] at hc
    obtain ⟨c, hb, ts', hts, ac', hac, rfl, rfl, rfl⟩ := hc
    intro γ w cargs hR ha
    left
    constructor
    · have h1 : fn.name ≠ "runtime.NumGoroutine" := by simpa using hname
      simp [callFunc, hf, h1, hb]
    · have hl := ha.length
      refine (callsIn_wide (n := 2)).1 (callsIn_of_wp_marks hf hb trivial ?_)
      have hw := h hR.wf (by rw [<- hR.len]; exact VRt.rl _ _ ha) c hac γ w hR.gl hR.len γ { tmps := cargs.toArray ++ Array.replicate (fn.ntmps - cargs.toArray.size) undef, defers := [] } w (Step.refl _ _) hR
        (z7z ha _) (by simp; omega)
      refine wpIn_mono hw ?_
      rintro e a' w' ⟨ae, Z', O2, γ', rfl, hq, q1, q2, q3, q4, q5⟩
      have fin : (oks Z' O2 ts' = true /\ DownV O.length (retV ts' Z' O2) O2 v O') -> LeavesInM Fence.wide 2 C.P fn a'.tmps (fun e w' => ∃ cv γ', e = .returned cv /\ Step γ w γ' w' /\ Rel C γ' O' w' /\ VR γ' w' v cv) a'.defers .returning w' := by
        rintro ⟨hk, hd⟩
        rcases q4 with q4 | ⟨D, d1, d2, d3⟩
        · simp only at q4
          rw [q4]
          obtain ⟨rv, r1, r2⟩ := z78 q2 q3 hts hk
          obtain ⟨γ2, k1, k2, k3⟩ := hd.sound q2 r2 q1 hR.gl (by rw [hR.len]; exact Nat.le_refl _)
          exact ⟨_, r1, _, γ2, rfl, k1, k2, k3⟩
        · simp only at d2
          rw [d2]
          have hbk := Book.putObj (.deferred none) d3 rfl
          have R2 := q2.book hbk
          have E2 : EnvR γ' (w'.putObj D (.deferred none)) Z' a'.tmps := fun t => VR.book hbk _ _ (q3 t)
          have S2 : Step γ w γ' (w'.putObj D (.deferred none)) := q1.book hbk fun b hb => World.putObj_heap_other (by omega)
          obtain ⟨rv, r1, r2⟩ := z78 R2 E2 hts hk
          obtain ⟨γ2, k1, k2, k3⟩ := hd.sound R2 r2 S2 hR.gl (by rw [hR.len]; exact Nat.le_refl _)
          exact ⟨by simp, .inl ⟨D, _, rfl, run_takeDeferred d3, ⟨_, r1, _, γ2, rfl, k1, k2, k3⟩⟩⟩
      cases ae with
      | normal => exact fin hq
      | exit id => exact hq.elim
      | ret => exact fin hq
theorem VRss.elem {γ : Places} {w : World} {k : Nat} : ∀ {es : List (List AV)} {vals : List Value}, VRss γ w es vals -> (∀ e ∈ es, e.length = k) -> ∀ {i : Nat} {e : List AV}, es[i]? = some e -> ∃ A v B, vals = A ++ v ++ B /\ A.length = i * k /\ VRs γ w e v
  | [], vals, h, _, i, e, hi => by simp at hi
  | x :: es, vals, h, hu, i, e, hi => by
    simp only [VRss] at h
    obtain ⟨v1, v2, rfl, h1, h2⟩ := h
    cases i with
    | zero =>
      simp at hi; subst hi
      exact ⟨[], v1, v2, by simp, by simp, h1⟩
    | succ i =>
      simp at hi
      obtain ⟨A, v, B, rfl, h3, h4⟩ := VRss.elem h2 (fun e he => hu e (by simp [he])) hi
      refine ⟨v1 ++ A, v, B, by simp [List.append_assoc], ?_, h4⟩
      rw [List.length_append, h3, <- h1.length, hu x (by simp), Nat.succ_mul, Nat.add_comm]
end Am
end Go.Proofs.YtncenefkbpelbaaDoor
end
section
/- THE ABSTRACT MACHINE, part 20: it runs: what is computed on given values holds of the model. -/
namespace Go.Proofs.YtncenefkbpelbaaDoor
namespace Am

/-! A number of rounds. -/
def zad (C : Ctx) (n k : Nat) (x : ACode) (Q : AExit -> Env -> Store -> Prop) : Nat -> Env -> Store -> Prop
  | 0, _, _ => False
  | m + 1, Z, O => zW C n k x (z1i (zad C n k x Q m) Q) Z O
theorem zox {K K' : Env -> Store -> Prop} {Q Q' : AExit -> Env -> Store -> Prop} (hk : ∀ Z O, K Z O -> K' Z O) (hq : ∀ e Z O, Q e Z O -> Q' e Z O) (e : AExit) (Z : Env) (O : Store) (h : z1i K Q e Z O) : z1i K' Q' e Z O := by
  cases e with
  | normal => exact hk _ _ h
  | exit id => exact hq _ _ _ h
  | ret => exact hq _ _ _ h
theorem zW.rounds {C : Ctx} {n k m : Nat} {x : ACode} {Q : AExit -> Env -> Store -> Prop} {Z : Env} {O : Store} (h : zad C n k x Q m Z O) : zW C n k (.loop x) Q Z O := by
  refine zW.loop (fun m Z O => zad C n k x Q m Z O) m h ?_
  intro m Z O hm
  cases m with
  | zero => exact hm.elim
  | succ m => exact zW.mono hm (zox (fun Z O h => ⟨m, Nat.lt_succ_self m, h⟩) fun _ _ _ h => h)

/-! The machine. -/
mutual
def rlB (k : Nat) : AV -> Bool
  | .ptr r _ _ => Nat.blt r k
  | .sl r _ _ _ _ => Nat.blt r k
  | .asl r _ _ _ _ _ => Nat.blt r k
  | .bld r => Nat.blt r k
  | .bsl r _ => Nat.blt r k
  | .vp cs => rlsB k cs
  | .vsl _ es _ => z9t k es
  | .fn _ caps => rlsB k caps
  | .agg cs => rlsB k cs
  | .tup vs => rlsB k vs
  | _ => true
def rlsB (k : Nat) : List AV -> Bool
  | [] => true
  | a :: as_ => rlB k a && rlsB k as_
def z9t (k : Nat) : List (List AV) -> Bool
  | [] => true
  | e :: es => rlsB k e && z9t k es
end
mutual
theorem z14 {k : Nat} : ∀ (a : AV), rlB k a = true -> RL k a
  | .ptr r _ _, h => by simpa [rlB, RL] using h
  | .sl r _ _ _ _, h => by simpa [rlB, RL] using h
  | .asl r _ _ _ _ _, h => by simpa [rlB, RL] using h
  | .bld r, h => by simpa [rlB, RL] using h
  | .bsl r _, h => by simpa [rlB, RL] using h
  | .vp cs, h => by simp only [rlB] at h; simp only [RL]; exact z71 cs h
  | .vsl _ es _, h => by simp only [rlB] at h; simp only [RL]; exact zfq es h
  | .fn _ caps, h => by simp only [rlB] at h; simp only [RL]; exact z71 caps h
  | .agg cs, h => by simp only [rlB] at h; simp only [RL]; exact z71 cs h
  | .tup vs, h => by simp only [rlB] at h; simp only [RL]; exact z71 vs h
  | .bnil, _ => by simp only [RL]
  | .any, _ => by simp only [RL]
  | .undef, _ => by simp only [RL]
  | .bool _, _ => by simp only [RL]
  | .int _ _, _ => by simp only [RL]
  | .str _, _ => by simp only [RL]
  | .nilp, _ => by simp only [RL]
  | .nilsl, _ => by simp only [RL]
  | .nilfn, _ => by simp only [RL]
theorem z71 {k : Nat} : ∀ (l : List AV), rlsB k l = true -> RLs k l
  | [], _ => by simp only [RLs]
  | a :: l, h => by simp only [rlsB, Bool.and_eq_true] at h; simp only [RLs]; exact ⟨z14 a h.1, z71 l h.2⟩
theorem zfq {k : Nat} : ∀ (l : List (List AV)), z9t k l = true -> RLss k l
  | [], _ => by simp only [RLss]
  | a :: l, h => by simp only [z9t, Bool.and_eq_true] at h; simp only [RLss]; exact ⟨z71 a h.1, zfq l h.2⟩
end
/-! Soundness. -/
section
variable {C : Ctx}
end
end Am
end Go.Proofs.YtncenefkbpelbaaDoor
end
section
/- THE ABSTRACT MACHINE, part 21: from a law's contract to its row. -/
namespace Go.Proofs.YtncenefkbpelbaaDoor
namespace Am
open Go.ChangeShapes Go.WideShapes Go.ChangeAt Go.RowKit

theorem Rel.empty {C : Ctx} (hg : ∀ g, C.gl g = none) (w : World) : Rel C [] [] w :=
  ⟨rfl, by simp, by simp, by simp, fun g cs h => by rw [hg] at h; cases h⟩

theorem ACallsTo.calls {C : Ctx} {f : FuncId} {e : Nat × List RV × ACode} (hc : cFn C f = some e) {args : List AV} {O' : Store} {b : Bool} (h : ACallsTo C f args [] (.bool b) O') {W : World} (hR : Rel C [] [] W) {cargs : List Value} (ha : VRt [] W args cargs) :
    Calls C.P f cargs.toArray W fun e w' => e = .returned (.bool b) /\ Below W.heap.size W w' := by
  rcases h [] W cargs hR ha with ⟨_, h⟩ | ⟨cv, γ', w', h, _⟩
  · refine h.mono ?_
    rintro e w' ⟨cv, γ', rfl, hs, _, hv⟩
    simp only [VR] at hv
    subst hv
    exact ⟨rfl, hs.os, hs.tape, hs.output, hs.size, fun k hk => hs.imm k hk (by simp)⟩
  · exfalso
    simp only [cFn, Option.bind_eq_some_iff] at hc
    obtain ⟨fn, hf, hc⟩ := hc
    split at hc
    · cases hc
    · rename_i hname
      simp only [Option.bind_eq_some_iff] at hc
      obtain ⟨c, hb, _⟩ := hc
      have h1 : fn.name ≠ "runtime.NumGoroutine" := by simpa using hname
      simp [callFunc, hf, h1, hb] at h

section
variable {H : Type} {enc : TypeId × Value -> H} {P : Program}
theorem zh4 (hl : laidOutB P = true) {W W' : World} (hb : Below W.heap.size W W') : ∀ {ts : List TypeId} {vs : List Value} {ds : List (DataW H)} {ps : List MemPlace}, (ts.all fun t => P.readableRec t && decide (t < P.types.size)) = true ->
    DataW.TrodAll enc P W 0 (fun _ => true) true ts vs ds ps -> (∀ x ∈ ps, x.block < W.heap.size) -> DataW.TrodAll enc P W' 0 (fun b => decide (b < W.heap.size)) true ts vs ds ps
  | [], [], [], _, _, h, _ => h
  | t :: ts, v :: vs, d :: ds, ps, ht, h, hlt => by
    obtain ⟨p, q, h1, h2, rfl⟩ := h
    simp only [List.all_cons, Bool.and_eq_true, decide_eq_true_eq] at ht
    exact ⟨p, q, Below.trod hl ht.1.1 ht.1.2 h1 hb (fun x hx => hlt x (by simp [hx])), zh4 hl hb ht.2 h2 (fun x hx => hlt x (by simp [hx])), rfl⟩
  | [], [], _ :: _, _, _, h, _ => h.elim
  | [], _ :: _, _, _, _, h, _ => h.elim
  | _ :: _, [], _, _, _, h, _ => h.elim
  | _ :: _, _ :: _, [], _, _, h, _ => h.elim

theorem zl9 {f : Func} {s : ChangeSpec} {W W' : World} {args : Array Value} {ds gs : List (DataW H)} {before : List MemPlace} {tb : TypeId}
    (hW : DataW.Whole enc P f.params.toList s.vars false W args.toList ds gs before) (hvars : s.vars = []) (hfn : ∀ gs, gs = [] -> (s.fn H (ds ++ gs)).results = [.lit (.bool true)] /\ (s.fn H (ds ++ gs)).args = ds /\ (s.fn H (ds ++ gs)).vars = [])
    (hres : f.resultTypes = #[tb]) (htb : P.underlying tb = some .bool) (hl : laidOutB P = true) (hpar : (f.params.toList.all fun t => P.readableRec t && decide (t < P.types.size)) = true) (hb : Below W.heap.size W W') :
    s.post enc P f false true false false W args (.bool true) W' := by
  have hlt : ∀ p ∈ before, p.block < W.heap.size := fun p hp => hW.lt p hp
  have hW0 := hW
  obtain ⟨p, q, hA, hV, rfl, hfz, hnd⟩ := hW
  have hgs : gs = [] /\ q = [] := by
    rw [hvars] at hV
    cases gs with
    | nil => exact ⟨rfl, hV⟩
    | cons a l => exact hV.elim
  obtain ⟨rfl, rfl⟩ := hgs
  obtain ⟨k1, k2, k3⟩ := hfn [] rfl
  refine ⟨ds, [], _, [], p, [], hW0, ?_, ?_, ?_, hb.frame _, fun h => by cases h⟩
  · rw [k1, hres]
    exact trodAll_cons_mk (shut_bool htb _) trodAll_mk0
  · rw [k2]
    exact zh4 hl hb hpar hA (fun x hx => hlt x (by simp [hx]))
  · rw [k3, hvars]; rfl
end
end Am
end Go.Proofs.YtncenefkbpelbaaDoor
end
section
/- THE ABSTRACT MACHINE, part 22: its steps as_ equations for simp. -/
namespace Go.Proofs.YtncenefkbpelbaaDoor
namespace Am
section
variable {C : Ctx} {K : Env -> Store -> Prop} {Z : Env} {O : Store} {d : Option Nat} {g : Option (Nat × Bool)} {nd : Nd} {is : List AIns} {H : Hist}
theorem z39 {x} : zj C K (⟨d, g, nd, .mv x⟩ :: is) H Z O = zo (zj C K is) H ⟨d, g, nd, .mv x⟩ Z O := rfl
theorem z3b {c} {a} {b} : zj C K (⟨d, g, nd, .pick c a b⟩ :: is) H Z O = zo (zj C K is) H ⟨d, g, nd, .pick c a b⟩ Z O := rfl
theorem z2k {z} : zj C K (⟨d, g, nd, .alloc z⟩ :: is) H Z O = zo (zj C K is) H ⟨d, g, nd, .alloc z⟩ Z O := rfl
theorem zmv : zj C K (⟨d, g, nd, .allB⟩ :: is) H Z O = zo (zj C K is) H ⟨d, g, nd, .allB⟩ Z O := rfl
theorem zmw {s} {x} : zj C K (⟨d, g, nd, .appB s x⟩ :: is) H Z O = zo (zj C K is) H ⟨d, g, nd, .appB s x⟩ Z O := rfl
theorem z2n {x} : zj C K (⟨d, g, nd, .box x⟩ :: is) H Z O = zo (zj C K is) H ⟨d, g, nd, .box x⟩ Z O := rfl
theorem z2o {z} {ps} : zj C K (⟨d, g, nd, .build z ps⟩ :: is) H Z O = zo (zj C K is) H ⟨d, g, nd, .build z ps⟩ Z O := rfl
theorem z33 {sz} {xs} : zj C K (⟨d, g, nd, .lit sz xs⟩ :: is) H Z O = zo (zj C K is) H ⟨d, g, nd, .lit sz xs⟩ Z O := rfl
theorem z34 {ag} {n} {x} : zj C K (⟨d, g, nd, .load ag n x⟩ :: is) H Z O = zo (zj C K is) H ⟨d, g, nd, .load ag n x⟩ Z O := rfl
theorem z3d {n} {a} {x} : zj C K (⟨d, g, nd, .store n a x⟩ :: is) H Z O = zo (zj C K is) H ⟨d, g, nd, .store n a x⟩ Z O := rfl
theorem z3a {x} : zj C K (⟨d, g, nd, .nilc x⟩ :: is) H Z O = zo (zj C K is) H ⟨d, g, nd, .nilc x⟩ Z O := rfl
theorem z2m {op} {bk} {x} {y} : zj C K (⟨d, g, nd, .bin op bk x y⟩ :: is) H Z O = zo (zj C K is) H ⟨d, g, nd, .bin op bk x y⟩ Z O := rfl
theorem z3e {op} {x} : zj C K (⟨d, g, nd, .un op x⟩ :: is) H Z O = zo (zj C K is) H ⟨d, g, nd, .un op x⟩ Z O := rfl
theorem z2q {c} {x} : zj C K (⟨d, g, nd, .conv c x⟩ :: is) H Z O = zo (zj C K is) H ⟨d, g, nd, .conv c x⟩ Z O := rfl
theorem z38 {f} {caps} : zj C K (⟨d, g, nd, .mkfn f caps⟩ :: is) H Z O = zo (zj C K is) H ⟨d, g, nd, .mkfn f caps⟩ Z O := rfl
theorem z35 {sz} {z} {l} {c} : zj C K (⟨d, g, nd, .make sz z l c⟩ :: is) H Z O = zo (zj C K is) H ⟨d, g, nd, .make sz z l c⟩ Z O := rfl
theorem z3c {k} {x} {lo} {hi} {mx} : zj C K (⟨d, g, nd, .slice k x lo hi mx⟩ :: is) H Z O = zo (zj C K is) H ⟨d, g, nd, .slice k x lo hi mx⟩ Z O := rfl
theorem z2t {k} {x} : zj C K (⟨d, g, nd, .fa k x⟩ :: is) H Z O = zo (zj C K is) H ⟨d, g, nd, .fa k x⟩ Z O := rfl
theorem z2u {ag} {n} {off} {x} : zj C K (⟨d, g, nd, .fld ag n off x⟩ :: is) H Z O = zo (zj C K is) H ⟨d, g, nd, .fld ag n off x⟩ Z O := rfl
theorem z2v {n} {sz} {x} {i} : zj C K (⟨d, g, nd, .iaArr n sz x i⟩ :: is) H Z O = zo (zj C K is) H ⟨d, g, nd, .iaArr n sz x i⟩ Z O := rfl
theorem z2w {sz} {x} {i} : zj C K (⟨d, g, nd, .iaSl sz x i⟩ :: is) H Z O = zo (zj C K is) H ⟨d, g, nd, .iaSl sz x i⟩ Z O := rfl
theorem z2x {n} {ag} {sz} {x} {i} : zj C K (⟨d, g, nd, .ixArr n ag sz x i⟩ :: is) H Z O = zo (zj C K is) H ⟨d, g, nd, .ixArr n ag sz x i⟩ Z O := rfl
theorem z2y {x} {i} : zj C K (⟨d, g, nd, .ixStr x i⟩ :: is) H Z O = zo (zj C K is) H ⟨d, g, nd, .ixStr x i⟩ Z O := rfl
theorem z2s {i} {x} : zj C K (⟨d, g, nd, .ext i x⟩ :: is) H Z O = zo (zj C K is) H ⟨d, g, nd, .ext i x⟩ Z O := rfl
theorem z31 {x} : zj C K (⟨d, g, nd, .lenStr x⟩ :: is) H Z O = zo (zj C K is) H ⟨d, g, nd, .lenStr x⟩ Z O := rfl
theorem z30 {x} : zj C K (⟨d, g, nd, .lenSl x⟩ :: is) H Z O = zo (zj C K is) H ⟨d, g, nd, .lenSl x⟩ Z O := rfl
theorem z2z {n} : zj C K (⟨d, g, nd, .lenArr n⟩ :: is) H Z O = zo (zj C K is) H ⟨d, g, nd, .lenArr n⟩ Z O := rfl
theorem z2l {sz} {s} {x} : zj C K (⟨d, g, nd, .app sz s x⟩ :: is) H Z O = zo (zj C K is) H ⟨d, g, nd, .app sz s x⟩ Z O := rfl
theorem z2r {sz} {e} {s} : zj C K (⟨d, g, nd, .copy sz e s⟩ :: is) H Z O = zo (zj C K is) H ⟨d, g, nd, .copy sz e s⟩ Z O := rfl
theorem z2p {z} {x} : zj C K (⟨d, g, nd, .clear z x⟩ :: is) H Z O = zo (zj C K is) H ⟨d, g, nd, .clear z x⟩ Z O := rfl
theorem z36 {mx} {x} {y} : zj C K (⟨d, g, nd, .minmax mx x y⟩ :: is) H Z O = zo (zj C K is) H ⟨d, g, nd, .minmax mx x y⟩ Z O := rfl
variable {lj mj : List AIns}
theorem oj_mv {x} : zx C K lj mj (⟨d, g, nd, .mv x⟩ :: is) H Z O = zo (zx C K lj mj is) H ⟨d, g, nd, .mv x⟩ Z O := rfl
theorem zmc {c} {a} {b} : zx C K lj mj (⟨d, g, nd, .pick c a b⟩ :: is) H Z O = zo (zx C K lj mj is) H ⟨d, g, nd, .pick c a b⟩ Z O := rfl
theorem zlt {z} : zx C K lj mj (⟨d, g, nd, .alloc z⟩ :: is) H Z O = zo (zx C K lj mj is) H ⟨d, g, nd, .alloc z⟩ Z O := rfl
theorem zls : zx C K lj mj (⟨d, g, nd, .allB⟩ :: is) H Z O = zo (zx C K lj mj is) H ⟨d, g, nd, .allB⟩ Z O := rfl
theorem zlu {s} {x} : zx C K lj mj (⟨d, g, nd, .appB s x⟩ :: is) H Z O = zo (zx C K lj mj is) H ⟨d, g, nd, .appB s x⟩ Z O := rfl
theorem oj_box {x} : zx C K lj mj (⟨d, g, nd, .box x⟩ :: is) H Z O = zo (zx C K lj mj is) H ⟨d, g, nd, .box x⟩ Z O := rfl
theorem zlv {z} {ps} : zx C K lj mj (⟨d, g, nd, .build z ps⟩ :: is) H Z O = zo (zx C K lj mj is) H ⟨d, g, nd, .build z ps⟩ Z O := rfl
theorem oj_lit {sz} {xs} : zx C K lj mj (⟨d, g, nd, .lit sz xs⟩ :: is) H Z O = zo (zx C K lj mj is) H ⟨d, g, nd, .lit sz xs⟩ Z O := rfl
theorem zm7 {ag} {n} {x} : zx C K lj mj (⟨d, g, nd, .load ag n x⟩ :: is) H Z O = zo (zx C K lj mj is) H ⟨d, g, nd, .load ag n x⟩ Z O := rfl
theorem zme {n} {a} {x} : zx C K lj mj (⟨d, g, nd, .store n a x⟩ :: is) H Z O = zo (zx C K lj mj is) H ⟨d, g, nd, .store n a x⟩ Z O := rfl
theorem zmb {x} : zx C K lj mj (⟨d, g, nd, .nilc x⟩ :: is) H Z O = zo (zx C K lj mj is) H ⟨d, g, nd, .nilc x⟩ Z O := rfl
theorem oj_bin {op} {bk} {x} {y} : zx C K lj mj (⟨d, g, nd, .bin op bk x y⟩ :: is) H Z O = zo (zx C K lj mj is) H ⟨d, g, nd, .bin op bk x y⟩ Z O := rfl
theorem oj_un {op} {x} : zx C K lj mj (⟨d, g, nd, .un op x⟩ :: is) H Z O = zo (zx C K lj mj is) H ⟨d, g, nd, .un op x⟩ Z O := rfl
theorem zly {c} {x} : zx C K lj mj (⟨d, g, nd, .conv c x⟩ :: is) H Z O = zo (zx C K lj mj is) H ⟨d, g, nd, .conv c x⟩ Z O := rfl
theorem zma {f} {caps} : zx C K lj mj (⟨d, g, nd, .mkfn f caps⟩ :: is) H Z O = zo (zx C K lj mj is) H ⟨d, g, nd, .mkfn f caps⟩ Z O := rfl
theorem zm8 {sz} {z} {l} {c} : zx C K lj mj (⟨d, g, nd, .make sz z l c⟩ :: is) H Z O = zo (zx C K lj mj is) H ⟨d, g, nd, .make sz z l c⟩ Z O := rfl
theorem zmd {k} {x} {lo} {hi} {mx} : zx C K lj mj (⟨d, g, nd, .slice k x lo hi mx⟩ :: is) H Z O = zo (zx C K lj mj is) H ⟨d, g, nd, .slice k x lo hi mx⟩ Z O := rfl
theorem oj_fa {k} {x} : zx C K lj mj (⟨d, g, nd, .fa k x⟩ :: is) H Z O = zo (zx C K lj mj is) H ⟨d, g, nd, .fa k x⟩ Z O := rfl
theorem oj_fld {ag} {n} {off} {x} : zx C K lj mj (⟨d, g, nd, .fld ag n off x⟩ :: is) H Z O = zo (zx C K lj mj is) H ⟨d, g, nd, .fld ag n off x⟩ Z O := rfl
theorem zm0 {n} {sz} {x} {i} : zx C K lj mj (⟨d, g, nd, .iaArr n sz x i⟩ :: is) H Z O = zo (zx C K lj mj is) H ⟨d, g, nd, .iaArr n sz x i⟩ Z O := rfl
theorem zm1 {sz} {x} {i} : zx C K lj mj (⟨d, g, nd, .iaSl sz x i⟩ :: is) H Z O = zo (zx C K lj mj is) H ⟨d, g, nd, .iaSl sz x i⟩ Z O := rfl
theorem zm2 {n} {ag} {sz} {x} {i} : zx C K lj mj (⟨d, g, nd, .ixArr n ag sz x i⟩ :: is) H Z O = zo (zx C K lj mj is) H ⟨d, g, nd, .ixArr n ag sz x i⟩ Z O := rfl
theorem zm3 {x} {i} : zx C K lj mj (⟨d, g, nd, .ixStr x i⟩ :: is) H Z O = zo (zx C K lj mj is) H ⟨d, g, nd, .ixStr x i⟩ Z O := rfl
theorem oj_ext {i} {x} : zx C K lj mj (⟨d, g, nd, .ext i x⟩ :: is) H Z O = zo (zx C K lj mj is) H ⟨d, g, nd, .ext i x⟩ Z O := rfl
theorem zm6 {x} : zx C K lj mj (⟨d, g, nd, .lenStr x⟩ :: is) H Z O = zo (zx C K lj mj is) H ⟨d, g, nd, .lenStr x⟩ Z O := rfl
theorem zm5 {x} : zx C K lj mj (⟨d, g, nd, .lenSl x⟩ :: is) H Z O = zo (zx C K lj mj is) H ⟨d, g, nd, .lenSl x⟩ Z O := rfl
theorem zm4 {n} : zx C K lj mj (⟨d, g, nd, .lenArr n⟩ :: is) H Z O = zo (zx C K lj mj is) H ⟨d, g, nd, .lenArr n⟩ Z O := rfl
theorem oj_app {sz} {s} {x} : zx C K lj mj (⟨d, g, nd, .app sz s x⟩ :: is) H Z O = zo (zx C K lj mj is) H ⟨d, g, nd, .app sz s x⟩ Z O := rfl
theorem zlz {sz} {e} {s} : zx C K lj mj (⟨d, g, nd, .copy sz e s⟩ :: is) H Z O = zo (zx C K lj mj is) H ⟨d, g, nd, .copy sz e s⟩ Z O := rfl
theorem zlx {z} {x} : zx C K lj mj (⟨d, g, nd, .clear z x⟩ :: is) H Z O = zo (zx C K lj mj is) H ⟨d, g, nd, .clear z x⟩ Z O := rfl
theorem zm9 {mx} {x} {y} : zx C K lj mj (⟨d, g, nd, .minmax mx x y⟩ :: is) H Z O = zo (zx C K lj mj is) H ⟨d, g, nd, .minmax mx x y⟩ Z O := rfl
theorem oj_nil : zx C K lj mj [] H Z O = (zj C K lj H Z O /\ zj C K mj H Z O) := rfl
theorem zlw {f} {xs} : zx C K lj mj (⟨d, g, nd, .call f xs⟩ :: is) H Z O = z3t C (zx C K lj mj is) H Z O d nd f xs (z1c Z g) := rfl
/-! Unsigned numbers as_ bit rows. -/
theorem zaa {k : IntKind} (hk : k.signed = false) (n : Int) : k.wrap n = n % 2 ^ k.bits := by simp [IntKind.wrap, hk]
theorem u_nat {k : IntKind} (hk : k.signed = false) (x : BitVec k.bits) : k.wrap (x.toNat : Int) = x.toNat := by
  rw [zaa hk]
  have := x.isLt
  rw [Int.emod_eq_of_lt (by omega)]
  exact_mod_cast this
theorem getElem?_app {O l : Store} {k : Nat} : (O ++ l)[O.length + k]? = l[k]? := by rw [List.getElem?_append_right (by omega), Nat.add_sub_cancel_left]
theorem getElem?_app0 {O l : Store} : (O ++ l)[O.length]? = l[0]? := getElem?_app (k := 0)
theorem z2a {O l : Store} {k : Nat} {x : Option AObj} : (O ++ l).set (O.length + k) x = O ++ l.set k x := by rw [List.set_append_right _ _ (by omega), Nat.add_sub_cancel_left]
theorem z3g {O l : Store} {x : Option AObj} : (O ++ l).set O.length x = O ++ l.set 0 x := z2a (k := 0)
end
end Am
end Go.Proofs.YtncenefkbpelbaaDoor
end
section
/- THE ABSTRACT MACHINE, part 23: what comes in, by its type, as_ abstract values. -/
namespace Go.Proofs.YtncenefkbpelbaaDoor
namespace Am
open Go.ChangeShapes Go.WideShapes Go.ChangeAt Go.RowKit

/-- Types of plain data. -/
inductive Ty where
  | int (k : IntKind)
  | bool
  | str
  | sl (sz : Nat) (e : Ty)
  | row (ts : List Ty)
  deriving Inhabited
def tile (P : Program) : List Field -> Nat -> Option Nat
  | [], n => some n
  | f :: l, n => if f.offset = n then tile P l (n + P.cellsOf f.type) else none
def tyOf (P : Program) : Nat -> TypeId -> Option Ty
  | 0, _ => none
  | d + 1, t => match P.underlying t with
    | some .bool => some .bool
    | some (.int k) => some (.int k)
    | some .string => some .str
    | some (.slice e) => if 0 < P.cellsOf e then (tyOf P d e).map (.sl (P.cellsOf e)) else none
    | some (.struct fs) => if tile P fs.toList 0 = some (P.cellsOf t) then (fs.toList.mapM fun f => tyOf P d f.type).map .row else none
    | some (.array n e) => if P.cellsOf t = n * P.cellsOf e then (tyOf P d e).map fun ty => .row (List.replicate n ty) else none
    | _ => none
mutual
/-- The cells of a value of a type. -/
def ShC : Ty -> List AV -> Prop
  | .int k, cs => ∃ n, cs = [.int k n] /\ k.min <= n /\ n <= k.max
  | .bool, cs => ∃ b, cs = [.bool b]
  | .str, cs => ∃ s : List UInt8, cs = [.str s] /\ s.length <= maxLen
  | .sl sz e, cs => cs = [.nilsl] \/ ∃ es, cs = [.vsl sz es false] /\ es.length <= maxLen /\ (∀ x ∈ es, x.length = sz) /\ ∀ x ∈ es, ShC e x
  | .row ts, cs => z43 ts cs
def z43 : List Ty -> List AV -> Prop
  | [], cs => cs = []
  | t :: ts, cs => ∃ a b, cs = a ++ b /\ ShC t a /\ z43 ts b
end
/-- An argument of a type. -/
def Sh : Ty -> AV -> Prop
  | .row ts, a => ∃ cs, a = .agg cs /\ z43 ts cs
  | t, a => ShC t [a]
def z62 : List Ty -> List AV -> Prop
  | [], avs => avs = []
  | t :: ts, avs => ∃ a avs', avs = a :: avs' /\ Sh t a /\ z62 ts avs'

section
variable {H : Type} {enc : TypeId × Value -> H} {P : Program} {w : World}

theorem zao {base : Nat} {a : Addr} {n : Nat} {cs : List Value} (h : w.cells? base a n = some cs) : cs.length = n /\ ∀ i, i < n -> w.cell? (a.add i) = cs[i]? :=
  ⟨(World.cells?_some h).2.1, (World.cells?_some h).2.2⟩
theorem zds {a : Addr} {v : Value} (h : w.cell? a = some v) : a.spot = none /\ ∃ c ty fz, w.heap[a.block]? = some (.cells c ty fz) /\ c[a.off]? = some v := by
  unfold World.cell? at h
  split at h
  · rename_i c ty fz hh
    split at h
    · cases h
    · rename_i hs
      exact ⟨by simpa using hs, c, ty, fz, hh, h⟩
  · cases h
theorem seg_of {b o n : Nat} {vals : List Value} (hn : 0 < n) (hl : vals.length <= n) (hall : ∀ k, k < n -> ∃ v, w.cell? ⟨b, o + k, none⟩ = some v) (hv : ∀ k, k < vals.length -> w.cell? ⟨b, o + k, none⟩ = vals[k]?) :
    b < w.heap.size /\ Seg w b o vals := by
  obtain ⟨v0, h0⟩ := hall 0 hn
  obtain ⟨_, c, ty, fz, hc, h0'⟩ := zds h0
  simp only [Nat.add_zero] at hc h0'
  have hget : ∀ k, w.cell? ⟨b, k, none⟩ = c[k]? := fun k => by simp [World.cell?, hc]
  have ho : o + vals.length <= c.size := by
    by_cases hz : vals.length = 0
    · have := (Array.getElem?_eq_some_iff.1 h0').1; omega
    · have := hv (vals.length - 1) (by omega)
      rw [hget, List.getElem?_eq_getElem (by omega)] at this
      have := (Array.getElem?_eq_some_iff.1 this).1; omega
  refine ⟨?_, c, ty, fz, c.toList.take o, c.toList.drop (o + vals.length), hc, ?_, by simp; omega⟩
  · rcases Nat.lt_or_ge b w.heap.size with h | h
    · exact h
    · simp [Array.getElem?_eq_none h] at hc
  · have e : vals = (c.toList.drop o).take vals.length := by
      apply List.ext_getElem?
      intro k
      simp only [List.getElem?_take, List.getElem?_drop]
      by_cases hk : k < vals.length
      · rw [if_pos hk, <- hv k hk, hget]; simp
      · rw [if_neg hk, List.getElem?_eq_none (by omega)]
    conv => lhs; rw [<- List.take_append_drop o c.toList, <- List.take_append_drop vals.length (c.toList.drop o), <- e]
    simp [List.append_assoc]

theorem zfi {n : Nat} {spare : Nat -> Bool} {held : Bool} {base : Nat} {cs : List Value} {d : Nat}
    (ih : ∀ (t : TypeId) (ty : Ty) (cs : List Value) (x : DataW H × List MemPlace), tyOf P d t = some ty -> DataW.trod enc P w base spare held n t cs = some x -> cs.length = P.cellsOf t -> ∃ avs, VRs [] w avs cs /\ ShC ty avs) :
    ∀ (l : List Field) (k : Nat) (tys : List Ty), tile P l k = some cs.length -> l.mapM (fun f => tyOf P d f.type) = some tys ->
      (∀ f ∈ l, ∃ x, DataW.trod enc P w base spare held n f.type ((cs.drop f.offset).take (P.cellsOf f.type)) = some x) -> k <= cs.length -> ∃ avs, VRs [] w avs (cs.drop k) /\ z43 tys avs
  | [], k, tys, hk, ht, _, _ => by
    simp only [tile, Option.some.injEq] at hk
    simp at ht
    subst ht
    exact ⟨[], by rw [hk]; simp [VRs], by simp [z43]⟩
  | f :: l, k, tys, hk, ht, hx, hle => by
    simp only [tile] at hk
    split at hk
    · rename_i hf
      simp only [List.mapM_cons, Option.bind_eq_bind, Option.bind_eq_some_iff, Option.pure_def, Option.some.injEq] at ht
      obtain ⟨ty, hty, tys', htys, rfl⟩ := ht
      have hle2 : k + P.cellsOf f.type <= cs.length := by
        have : ∀ (l : List Field) (a b : Nat), tile P l a = some b -> a <= b := by
          intro l
          induction l with
          | nil => intro a b h; simp [tile] at h; omega
          | cons f l ih => intro a b h; simp only [tile] at h; split at h; · have := ih _ _ h; omega
                           · cases h
        exact this l _ _ hk
      obtain ⟨x, hx1⟩ := hx f (by simp)
      obtain ⟨avs, h1, h2⟩ := ih f.type ty _ x hty hx1 (by simp; omega)
      obtain ⟨bs, h3, h4⟩ := zfi ih l (k + P.cellsOf f.type) tys' hk htys (fun g hg => hx g (by simp [hg])) hle2
      refine ⟨avs ++ bs, ?_, avs, bs, rfl, h2, h4⟩
      have e : cs.drop k = (cs.drop k).take (P.cellsOf f.type) ++ cs.drop (k + P.cellsOf f.type) := by
        rw [<- List.drop_drop, List.take_append_drop]
      rw [e]
      rw [hf] at h1
      exact h1.append h3
    · cases hk
theorem zfh {n : Nat} {spare : Nat -> Bool} {held : Bool} {base : Nat} {d : Nat} {e : TypeId} {ty : Ty} (hty : tyOf P d e = some ty)
    (ih : ∀ (t : TypeId) (ty : Ty) (cs : List Value) (x : DataW H × List MemPlace), tyOf P d t = some ty -> DataW.trod enc P w base spare held n t cs = some x -> cs.length = P.cellsOf t -> ∃ avs, VRs [] w avs cs /\ ShC ty avs) :
    ∀ (m : Nat) (cs : List Value), cs.length = m * P.cellsOf e -> (∀ i, i < m -> ∃ x, DataW.trod enc P w base spare held n e ((cs.drop (i * P.cellsOf e)).take (P.cellsOf e)) = some x) ->
      ∃ avs, VRs [] w avs cs /\ z43 (List.replicate m ty) avs
  | 0, cs, hl, _ => by
    have : cs = [] := List.eq_nil_of_length_eq_zero (by simpa using hl)
    subst this
    exact ⟨[], by simp [VRs], by simp [z43]⟩
  | m + 1, cs, hl, hx => by
    rw [Nat.succ_mul] at hl
    obtain ⟨x, h0⟩ := hx 0 (by omega)
    simp only [Nat.zero_mul, List.drop_zero] at h0
    obtain ⟨avs, h1, h2⟩ := ih e ty _ x hty h0 (by simp; omega)
    obtain ⟨bs, h3, h4⟩ := zfh hty ih m (cs.drop (P.cellsOf e)) (by simp; omega) (fun i hi => by
      obtain ⟨y, hy⟩ := hx (i + 1) (by omega)
      refine ⟨y, ?_⟩
      rw [List.drop_drop, Nat.add_comm, <- Nat.succ_mul]; exact hy)
    refine ⟨avs ++ bs, ?_, avs, bs, rfl, h2, h4⟩
    rw [<- List.take_append_drop (P.cellsOf e) cs]
    exact h1.append h3

theorem zbw {base : Nat} {held : Bool} : ∀ (fuel d : Nat) (t : TypeId) (ty : Ty) (cs : List Value) (x : DataW H × List MemPlace), tyOf P d t = some ty ->
    DataW.trod enc P w base (fun _ => true) held fuel t cs = some x -> ∃ avs, VRs [] w avs cs /\ ShC ty avs
  | 0, _, _, _, _, _, _, h => by simp [DataW.trod] at h
  | _ + 1, 0, _, _, _, _, ht, _ => by simp [tyOf] at ht
  | fuel + 1, d + 1, t, ty, cs, x, ht, h => by
    have ih := fun (t : TypeId) (ty : Ty) (cs : List Value) (x : DataW H × List MemPlace) (h1 : tyOf P d t = some ty) (h2 : DataW.trod enc P w base (fun _ => true) held fuel t cs = some x) (_ : cs.length = P.cellsOf t) => zbw fuel d t ty cs x h1 h2
    unfold tyOf at ht
    split at ht
    · rename_i hu
      simp only [Option.some.injEq] at ht; subst ht
      obtain ⟨b, rfl, _⟩ := DataW.trod_bool hu h
      exact ⟨[.bool b], .one ⟨VR.bool, rfl⟩, by simp [ShC]⟩
    · rename_i k hu
      simp only [Option.some.injEq] at ht; subst ht
      obtain ⟨n, rfl, _, hw⟩ := DataW.trod_int hu h
      simp only [Lit.wf, Bool.and_eq_true, decide_eq_true_eq] at hw
      exact ⟨[.int k n], .one ⟨VR.int, rfl⟩, by simp only [ShC]; exact ⟨n, rfl, hw.1, hw.2⟩⟩
    · rename_i hu
      simp only [Option.some.injEq] at ht; subst ht
      obtain ⟨s, rfl, _, hs⟩ := DataW.trod_string hu h
      refine ⟨[.str s.data.toList], .one ⟨by simp [VR], rfl⟩, by simp only [ShC]; exact ⟨_, rfl, by simpa using hs⟩⟩
    · rename_i e hu
      split at ht
      · rename_i hpos
        simp only [Option.map_eq_some_iff] at ht
        obtain ⟨te, hte, rfl⟩ := ht
        rcases DataW.trod_slice hu h with ⟨rfl, _⟩ | ⟨a, len, cap, elems, rest, n, hn, rfl, _, hb, hl, hm, hlen, hel, hsp, _⟩
        · exact ⟨[.nilsl], .one ⟨by simp [VR], rfl⟩, by simp [ShC]⟩
        · obtain ⟨hrl, hr⟩ := hsp rfl
          have hn' : n = fuel := by omega
          subst hn'
          -- each element's cells
          have each : ∀ i, i < cap -> ∃ cs y, w.cells? base (a.add (i * P.cellsOf e)) (P.cellsOf e) = some cs /\ DataW.trod enc P w base (fun _ => true) held n e cs = some y := by
            intro i hi
            have : ∃ y, (w.cells? base (a.add (i * P.cellsOf e)) (P.cellsOf e)).bind (DataW.trod enc P w base (fun _ => true) held n e) = some y := by
              by_cases hil : i < len
              · rw [hel i hil]; exact ⟨_, List.getElem?_eq_getElem (by omega)⟩
              · have := hr (i - len) (by omega)
                rw [show len + (i - len) = i by omega] at this
                rw [this]; exact ⟨_, List.getElem?_eq_getElem (by omega)⟩
            obtain ⟨y, hy⟩ := this
            rw [Option.bind_eq_some_iff] at hy
            obtain ⟨cs, h1, h2⟩ := hy
            exact ⟨cs, y, h1, h2⟩
          by_cases hc0 : cap = 0
          · subst hc0
            have : len = 0 := by omega
            subst this
            exact ⟨[.vsl (P.cellsOf e) [] false], .one ⟨by simp only [VR]; exact .inl ⟨by simp, a, rfl⟩, rfl⟩, by simp [ShC]⟩
          · have hspot : a.spot = none := by
              obtain ⟨cs, y, h1, _⟩ := each 0 (by omega)
              obtain ⟨hl1, hc1⟩ := zao h1
              have := hc1 0 hpos
              rw [List.getElem?_eq_getElem (by omega)] at this
              have := (zds this).1
              simpa [Addr.add] using this
            obtain ⟨b, o, spot⟩ := a
            simp only at hspot
            subst hspot
            have cellAt : ∀ i j, i < cap -> j < P.cellsOf e -> ∃ v, w.cell? ⟨b, o + (i * P.cellsOf e + j), none⟩ = some v := by
              intro i j hi hj
              obtain ⟨cs, y, h1, _⟩ := each i hi
              obtain ⟨hl1, hc1⟩ := zao h1
              have := hc1 j hj
              rw [List.getElem?_eq_getElem (by omega)] at this
              rw [add_plain, add_plain, Nat.add_assoc] at this
              exact ⟨_, this⟩
            -- the first m elements
            have firsts : ∀ m, m <= cap -> ∃ (es : List (List AV)) (vals : List Value), es.length = m /\ vals.length = m * P.cellsOf e /\ (∀ x ∈ es, x.length = P.cellsOf e) /\ (∀ x ∈ es, ShC te x) /\ VRss [] w es vals ∧
                ∀ k, k < vals.length -> w.cell? ⟨b, o + k, none⟩ = vals[k]? := by
              intro m
              induction m with
              | zero => intro _; exact ⟨[], [], rfl, by simp, by simp, by simp, by simp [VRss], by simp⟩
              | succ m ihm =>
                intro hm'
                obtain ⟨es, vals, k1, k2, k3, k4, k5, k6⟩ := ihm (by omega)
                obtain ⟨cs, y, h1, h2⟩ := each m (by omega)
                obtain ⟨hl1, hc1⟩ := zao h1
                obtain ⟨avs, q1, q2⟩ := zbw n d e te cs y hte h2
                refine ⟨es ++ [avs], vals ++ cs, by simp [k1], by simp [k2, hl1, Nat.succ_mul], ?_, ?_, ?_, ?_⟩
                · intro x hx
                  simp only [List.mem_append, List.mem_singleton] at hx
                  rcases hx with hx | rfl
                  · exact k3 x hx
                  · rw [q1.length, hl1]
                · intro x hx
                  simp only [List.mem_append, List.mem_singleton] at hx
                  rcases hx with hx | rfl
                  · exact k4 x hx
                  · exact q2
                · rw [VRss.flat, List.flatten_append]
                  refine (VRss.flat.1 k5).append ?_
                  simpa using q1
                · intro k hk
                  by_cases hk1 : k < vals.length
                  · rw [List.getElem?_append_left hk1]; exact k6 k hk1
                  · rw [List.getElem?_append_right (by omega)]
                    simp only [List.length_append] at hk
                    have := hc1 (k - vals.length) (by omega)
                    rw [add_plain, add_plain] at this
                    rw [<- this, k2]
                    congr 2
                    omega
            obtain ⟨es, vals, k1, k2, k3, k4, k5, k6⟩ := firsts len hl
            have hmul : len * P.cellsOf e <= cap * P.cellsOf e := Nat.mul_le_mul_right _ hl
            obtain ⟨hbl, hseg⟩ := seg_of (w := w) (b := b) (o := o) (n := cap * P.cellsOf e) (vals := vals) (Nat.mul_pos (by omega) hpos) (by omega) (by
              intro k hk
              have h1 : k / P.cellsOf e < cap := Nat.div_lt_of_lt_mul (by rw [Nat.mul_comm]; exact hk)
              obtain ⟨v, hv⟩ := cellAt (k / P.cellsOf e) (k % P.cellsOf e) h1 (Nat.mod_lt _ hpos)
              rw [Nat.mul_comm, Nat.div_add_mod] at hv
              exact ⟨v, hv⟩) k6
            refine ⟨[.vsl (P.cellsOf e) es false], .one ⟨?_, rfl⟩, ?_⟩
            · simp only [VR]
              right
              exact ⟨b, o, cap, vals, by rw [k1], by omega, by simp, ⟨hbl, by simp⟩, hseg, k3, k5⟩
            · simp only [ShC]
              right
              exact ⟨es, rfl, by omega, k3, k4⟩
      · cases ht
    · rename_i fs hu
      split at ht
      · rename_i htile
        simp only [Option.map_eq_some_iff] at ht
        obtain ⟨tys, htys, rfl⟩ := ht
        obtain ⟨xs, n, hn, _, hcl, hxl, hxs⟩ := DataW.trod_struct hu h
        have hn' : n = fuel := by omega
        subst hn'
        obtain ⟨avs, h1, h2⟩ := zfi (cs := cs) ih fs.toList 0 tys (by rw [hcl]; exact htile) htys (fun f hf => by
          obtain ⟨i, hi⟩ := List.getElem?_of_mem hf
          have hi' : fs[i]? = some f := by simpa using hi
          rw [hxs i f hi']
          have : i < xs.length := by rw [hxl]; exact (Array.getElem?_eq_some_iff.1 hi').1
          exact ⟨_, List.getElem?_eq_getElem this⟩) (Nat.zero_le _)
        exact ⟨avs, by simpa using h1, by simpa only [ShC] using h2⟩
      · cases ht
    · rename_i n e hu
      split at ht
      · rename_i hsz
        simp only [Option.map_eq_some_iff] at ht
        obtain ⟨te, hte, rfl⟩ := ht
        obtain ⟨xs, m, hm, _, hcl, hxl, hxs⟩ := DataW.trod_array hu h
        have hm' : m = fuel := by omega
        subst hm'
        obtain ⟨avs, h1, h2⟩ := zfh hte ih n cs (by rw [hcl, hsz]) (fun i hi => by
          rw [hxs i hi]; exact ⟨_, List.getElem?_eq_getElem (by omega)⟩)
        exact ⟨avs, h1, by simpa only [ShC] using h2⟩
      · cases ht
    · cases ht

theorem zml {r : Reach} {b0 base : Nat} {held : Bool} {d : Nat} {t : TypeId} {ty : Ty} {v : Value} {x : DataW H} {ps : List MemPlace} (ht : tyOf P d t = some ty) (hval : Value.okWide P w r b0 t v)
    (hd : DataW.Trod enc P w base (fun _ => true) held t v x ps) : ∃ a, VR [] w a v /\ Sh ty a := by
  obtain ⟨fuel, hf⟩ := hd
  obtain ⟨avs, h1, h2⟩ := zbw fuel d t ty _ _ ht hf
  have one : v.oneCell' = true -> (∀ ts, ty ≠ .row ts) -> ∃ a, VR [] w a v /\ Sh ty a := by
    intro hv hr
    rw [zap hv] at h1
    cases avs with
    | nil => simp [VRs] at h1
    | cons a avs =>
      simp only [VRs] at h1
      obtain ⟨v', vs', he, h3, h4⟩ := h1
      simp only [List.cons.injEq] at he
      obtain ⟨rfl, rfl⟩ := he
      have : avs = [] := by cases avs <;> simp [VRs] at h4 ⊢
      subst this
      refine ⟨a, h3.1, ?_⟩
      cases ty <;> first | exact h2 | exact absurd rfl (hr _)
  have agg : (∃ cs, v = .agg cs) -> (∃ ts, ty = .row ts) -> ∃ a, VR [] w a v /\ Sh ty a := by
    rintro ⟨cs, rfl⟩ ⟨ts, rfl⟩
    simp only [ShC] at h2
    refine ⟨.agg avs, ?_, avs, rfl, h2⟩
    simp only [VR]
    exact ⟨cs.toList, by simp, by simpa [Value.cells] using h1⟩
  cases d with
  | zero => simp [tyOf] at ht
  | succ d =>
    unfold tyOf at ht
    unfold Value.okWide at hval
    split at ht
    · rename_i hu
      simp only [Option.some.injEq] at ht; subst ht
      simp only [hu, Cell.okWide, Cell.ok] at hval
      refine one ?_ (by simp)
      cases v <;> simp_all <;> rfl
    · rename_i k hu
      simp only [Option.some.injEq] at ht; subst ht
      simp only [hu, Cell.okWide, Cell.ok] at hval
      refine one ?_ (by simp)
      cases v <;> simp_all <;> rfl
    · rename_i hu
      simp only [Option.some.injEq] at ht; subst ht
      simp only [hu, Cell.okWide, Cell.ok] at hval
      refine one ?_ (by simp)
      cases v <;> simp_all <;> rfl
    · rename_i e hu
      split at ht
      · simp only [Option.map_eq_some_iff] at ht
        obtain ⟨te, _, rfl⟩ := ht
        simp only [hu, Cell.okWide, Cell.ok] at hval
        refine one ?_ (by simp)
        cases v <;> simp_all <;> rfl
      · cases ht
    · rename_i fs hu
      split at ht
      · simp only [Option.map_eq_some_iff] at ht
        obtain ⟨te, _, rfl⟩ := ht
        simp only [hu] at hval
        obtain ⟨cs, hcs, _⟩ := hval
        exact agg ⟨cs, hcs⟩ ⟨_, rfl⟩
      · cases ht
    · rename_i n e hu
      split at ht
      · simp only [Option.map_eq_some_iff] at ht
        obtain ⟨te, _, rfl⟩ := ht
        simp only [hu] at hval
        obtain ⟨cs, hcs, _⟩ := hval
        exact agg ⟨cs, hcs⟩ ⟨_, rfl⟩
      · cases ht
    · cases ht

def z8h (P : Program) (d : Nat) : List TypeId -> Option (List Ty)
  | [] => some []
  | t :: ts => (tyOf P d t).bind fun ty => (z8h P d ts).map (ty :: ·)
theorem zf6 {r : Reach} {b0 base : Nat} {held : Bool} {d : Nat} : ∀ {ts : List TypeId} {tys : List Ty} {vs : List Value} {xs : List (DataW H)} {ps : List MemPlace}, z8h P d ts = some tys ->
    (∀ (j : Nat) t v, ts[j]? = some t -> vs[j]? = some v -> Value.okWide P w r b0 t v) -> DataW.TrodAll enc P w base (fun _ => true) held ts vs xs ps -> ∃ avs, VRt [] w avs vs /\ z62 tys avs
  | [], tys, vs, xs, ps, ht, _, h => by
    simp only [z8h, Option.some.injEq] at ht; subst ht
    obtain ⟨rfl, _⟩ := trodAll_nil h
    exact ⟨[], VRt.nil, rfl⟩
  | t :: ts, tys, vs, xs, ps, ht, hval, h => by
    simp only [z8h, Option.bind_eq_some_iff, Option.map_eq_some_iff] at ht
    obtain ⟨ty, h1, tys', h2, rfl⟩ := ht
    obtain ⟨v, vs', x, xs', p, q, rfl, rfl, rfl, h3, h4⟩ := trodAll_cons h
    obtain ⟨a, k1, k2⟩ := zml h1 (hval 0 t v rfl rfl) h3
    obtain ⟨avs, k3, k4⟩ := zf6 h2 (fun j t' v' hj hv => hval (j + 1) t' v' (by simpa using hj) (by simpa using hv)) h4
    exact ⟨a :: avs, VRt.cons k1 k3, a, avs, rfl, k2, k4⟩
end
end Am
end Go.Proofs.YtncenefkbpelbaaDoor
end
section
/- THE ABSTRACT MACHINE, part 24: a law's contract at the empty store gives its row's. -/
namespace Go.Proofs.YtncenefkbpelbaaDoor
namespace Am
open Go.ChangeShapes Go.WideShapes Go.ChangeAt Go.RowKit
section
variable {H : Type} {enc : TypeId × Value -> H} {P : Program} {w : World}
theorem zh5 {base : Nat} {spare : Nat -> Bool} {held : Bool} : ∀ {ts : List TypeId} {vs : List Value} {ds : List (DataW H)} {ps : List MemPlace}, DataW.TrodAll enc P w base spare held ts vs ds ps -> ds.length = ts.length
  | [], [], [], _, _ => rfl
  | t :: ts, v :: vs, d :: ds, ps, h => by
    obtain ⟨p, q, h1, h2, rfl⟩ := h
    simp [zh5 h2]
  | [], [], _ :: _, _, h => h.elim
  | [], _ :: _, _, _, h => h.elim
  | _ :: _, [], _, _, h => h.elim
  | _ :: _, _ :: _, [], _, h => h.elim

end
end Am
end Go.Proofs.YtncenefkbpelbaaDoor
end
section
/- THE ABSTRACT MACHINE, part 26: a contract at the empty store serves at every store: rows are lent as_ values, new objects lie behind the others. -/
namespace Go.Proofs.YtncenefkbpelbaaDoor
namespace Am

mutual
/-- References are counted from k on. -/
def sh (k : Nat) : AV -> AV
  | .ptr r i off => .ptr (k + r) i off
  | .sl r off len lim esz => .sl (k + r) off len lim esz
  | .asl r i off len cap esz => .asl (k + r) i off len cap esz
  | .fn f caps => .fn f (shs k caps)
  | .agg cs => .agg (shs k cs)
  | .tup vs => .tup (shs k vs)
  | .any => .any
  | .undef => .undef
  | .bool b => .bool b
  | .int i n => .int i n
  | .str s => .str s
  | .nilp => .nilp
  | .vp _ => .any
  | .nilsl => .nilsl
  | .vsl _ _ _ => .any
  | .nilfn => .nilfn
  | .bld r => .bld (k + r)
  | .bnil => .bnil
  | .bsl r len => .bsl (k + r) len
def shs (k : Nat) : List AV -> List AV
  | [] => []
  | a :: l => sh k a :: shs k l
end
def shss (k : Nat) (es : List (List AV)) : List (List AV) := es.map (shs k)
def shS (k : Nat) (O : Store) : Store := O.map (·.map (shss k))
theorem zgf (k : Nat) : ∀ l, (shs k l).length = l.length
  | [] => rfl
  | _ :: l => by simp [shs, zgf k l]
theorem zgd (k : Nat) : ∀ l m, shs k (l ++ m) = shs k l ++ shs k m
  | [], _ => rfl
  | a :: l, m => by simp [shs, zgd k l m]
theorem zgg (k : Nat) : ∀ es : List (List AV), (shss k es).flatten = shs k es.flatten
  | [] => rfl
  | e :: es => by
    have := zgg k es
    simp only [shss] at this
    simp only [shss, List.map_cons, List.flatten_cons, zgd, this]
mutual
theorem z9y {γ γ' : Places} {w : World} : ∀ (a : AV) (v : Value), VR γ' w a v -> VR (γ ++ γ') w (sh γ.length a) v
  | .any, _, _ => by simp only [sh, VR]
  | .undef, _, h => by simpa only [sh, VR] using h
  | .bool _, _, h => by simpa only [sh, VR] using h
  | .int _ _, _, h => by simpa only [sh, VR] using h
  | .str _, _, h => by simpa only [sh, VR] using h
  | .nilp, _, h => by simpa only [sh, VR] using h
  | .nilsl, _, h => by simpa only [sh, VR] using h
  | .nilfn, _, h => by simpa only [sh, VR] using h
  | .vp _, _, _ => by simp only [sh, VR]
  | .vsl _ _ _, _, _ => by simp only [sh, VR]
  | .ptr r i off, v, h => by
    simp only [sh, VR] at h ⊢
    obtain ⟨fl, pl, h1, h2⟩ := h
    exact ⟨fl, pl, by rw [List.getElem?_append_right (by omega), Nat.add_sub_cancel_left]; exact h1, h2⟩
  | .sl r off len lim esz, v, h => by
    simp only [sh, VR] at h ⊢
    obtain ⟨fl, pl, b, o, cap, h1, h2⟩ := h
    exact ⟨fl, pl, b, o, cap, by rw [List.getElem?_append_right (by omega), Nat.add_sub_cancel_left]; exact h1, h2⟩
  | .asl r i off len cap esz, v, h => by
    simp only [sh, VR] at h ⊢
    obtain ⟨fl, pl, b, o, h1, h2⟩ := h
    exact ⟨fl, pl, b, o, by rw [List.getElem?_append_right (by omega), Nat.add_sub_cancel_left]; exact h1, h2⟩
  | .fn f caps, v, h => by
    simp only [sh, VR] at h ⊢
    obtain ⟨vs, h1, h2⟩ := h
    exact ⟨vs, h1, zcf caps vs h2⟩
  | .agg cs, v, h => by
    simp only [sh, VR] at h ⊢
    obtain ⟨vs, h1, h2⟩ := h
    exact ⟨vs, h1, zce cs vs h2⟩
  | .tup cs, v, h => by
    simp only [sh, VR] at h ⊢
    obtain ⟨vs, h1, h2⟩ := h
    exact ⟨vs, h1, zcf cs vs h2⟩
  | .bld r, v, h => by
    simp only [sh, VR] at h ⊢
    obtain ⟨fl, pl, h1, h2⟩ := h
    exact ⟨fl, pl, by rw [List.getElem?_append_right (by omega), Nat.add_sub_cancel_left]; exact h1, h2⟩
  | .bnil, _, h => by simpa only [sh, VR] using h
  | .bsl r len, v, h => by
    simp only [sh, VR] at h ⊢
    obtain ⟨fl, pl, cap, h1, h2⟩ := h
    exact ⟨fl, pl, cap, by rw [List.getElem?_append_right (by omega), Nat.add_sub_cancel_left]; exact h1, h2⟩
theorem zce {γ γ' : Places} {w : World} : ∀ (l : List AV) (vs : List Value), VRs γ' w l vs -> VRs (γ ++ γ') w (shs γ.length l) vs
  | [], vs, h => by simpa only [shs, VRs] using h
  | a :: l, vs, h => by
    simp only [shs, VRs] at h ⊢
    obtain ⟨v, vs', h1, h2, h3⟩ := h
    exact ⟨v, vs', h1, ⟨z9y a v h2.1, h2.2⟩, zce l vs' h3⟩
theorem zcf {γ γ' : Places} {w : World} : ∀ (l : List AV) (vs : List Value), VRt γ' w l vs -> VRt (γ ++ γ') w (shs γ.length l) vs
  | [], vs, h => by simpa only [shs, VRt] using h
  | a :: l, vs, h => by
    simp only [shs, VRt] at h ⊢
    obtain ⟨v, vs', h1, h2, h3⟩ := h
    exact ⟨v, vs', h1, z9y a v h2, zcf l vs' h3⟩
end

/-- All objects are lent. -/
def z5m (O : Store) : DC := ⟨O, 0, id, fun _ => true⟩
theorem zes {O : Store} {γ : Places} {w : World} : DSnd (z5m O) γ [] w where
  ref r _ _ h := by simp [z5m] at h
  imm b h := ⟨h.1, by simp⟩
  fz r pl _ _ r' pl' h := by simp at h
theorem zcr {γ γ' : Places} {w w' : World} (h : Step [] w γ' w') (hlt : ∀ (r : Nat) (pl : Place), γ[r]? = some (true, pl) -> pl.b < w.heap.size) : Step γ w (γ ++ γ') w' where
  keep r fl pl hr := ⟨fl, by rw [List.getElem?_append_left (List.getElem?_eq_some_iff.1 hr).1]; exact hr⟩
  size := h.size
  imm b hb _ := h.imm b hb (by simp)
  new r pl hr := by
    by_cases hl : r < γ.length
    · rw [List.getElem?_append_left hl] at hr
      exact .inl ⟨r, pl, hr, rfl⟩
    · rw [List.getElem?_append_right (by omega)] at hr
      rcases h.new _ pl hr with ⟨r', pl', h1, _⟩ | h1
      · simp at h1
      · exact .inr h1
  os := h.os
  tape := h.tape
  output := h.output

def GlOK (C : Ctx) : Prop := ∀ g cs, C.gl g = some cs -> RLs 0 cs
theorem Rel.lent {C : Ctx} {γ : Places} {O : Store} {w : World} (hg : GlOK C) (hR : Rel C γ O w) : Rel C [] [] w :=
  ⟨rfl, by simp, by simp, by simp, fun g cs h => DR.sound hR zes (.vp cs) (.vp cs) _ (DR.refl (D := z5m O) (k := 0) (by omega) _ (by simpa only [RL] using hg g cs h)) (hR.gl g cs h)⟩
theorem Rel.back {C : Ctx} {γ γ' : Places} {O O1 : Store} {w w' : World} (hR : Rel C γ O w) (hst : Step [] w γ' w') (h : Rel C γ' O1 w') : Rel C (γ ++ γ') (O ++ shS O.length O1) w' := by
  have hlt : ∀ (r : Nat) (pl : Place), γ[r]? = some (true, pl) -> pl.b < w.heap.size := fun r pl hr => hR.place_lt hr
  have hs := zcr (γ := γ) hst hlt
  have hge : ∀ (r : Nat) (pl : Place), γ'[r]? = some (true, pl) -> w.heap.size <= pl.b := fun r pl hr => by
    rcases hst.new r pl hr with ⟨r', pl', h1, _⟩ | h1
    · simp at h1
    · exact h1
  refine ⟨by simp [shS, hR.len, h.len], fun r o hr => ?_, fun r hr => ?_, fun r r' pl pl' h1 h2 h3 => ?_, fun g cs hg => (hR.gl g cs hg).mono hs⟩
  · by_cases hl : r < O.length
    · rw [List.getElem?_append_left hl] at hr
      obtain ⟨pl, h1, h2⟩ := hR.alive r o hr
      exact ⟨pl, by rw [List.getElem?_append_left (by rw [hR.len]; exact hl)]; exact h1, h2.mono hs (hst.imm _ h2.lt (by simp))⟩
    · rw [List.getElem?_append_right (by omega)] at hr
      simp only [shS, List.getElem?_map, Option.map_eq_some_iff] at hr
      obtain ⟨x, hx, he⟩ := hr
      cases x with
      | none => simp at he
      | some o0 =>
        simp only [Option.map_some, Option.some.injEq] at he
        obtain ⟨_, rfl, rfl⟩ := he
        obtain ⟨pl, h1, h2⟩ := h.alive _ o0 hx
        refine ⟨pl, by rw [List.getElem?_append_right (by rw [hR.len]; omega), hR.len]; exact h1, ?_⟩
        obtain ⟨c, ty, fz, pre, mid, post, k1, k2, k3, k4, k5, k6⟩ := h2.ex
        refine ⟨by simp [shss, h2.len], fun e he => ?_, h2.tyk, c, ty, fz, pre, mid, post, k1, k2, k3, k4, ?_, k6⟩
        · simp only [shss, List.mem_map] at he
          obtain ⟨e0, he0, rfl⟩ := he
          rw [zgf]; exact h2.esz e0 he0
        · rw [zgg, <- hR.len]
          exact zce _ _ k5
  · by_cases hl : r < O.length
    · rw [List.getElem?_append_left hl] at hr
      obtain ⟨pl, h1⟩ := hR.dead r hr
      exact ⟨pl, by rw [List.getElem?_append_left (by rw [hR.len]; exact hl)]; exact h1⟩
    · rw [List.getElem?_append_right (by omega)] at hr
      simp only [shS, List.getElem?_map, Option.map_eq_some_iff] at hr
      obtain ⟨x, hx, he⟩ := hr
      cases x with
      | some o0 => simp at he
      | none =>
        obtain ⟨pl, h1⟩ := h.dead _ hx
        exact ⟨pl, by rw [List.getElem?_append_right (by rw [hR.len]; omega), hR.len]; exact h1⟩
  · have get : ∀ (r : Nat) (pl : Place), (γ ++ γ')[r]? = some (true, pl) -> (r < γ.length /\ γ[r]? = some (true, pl)) \/ (γ.length <= r /\ γ'[r - γ.length]? = some (true, pl)) := fun r pl hr => by
      by_cases hl : r < γ.length
      · rw [List.getElem?_append_left hl] at hr; exact .inl ⟨hl, hr⟩
      · rw [List.getElem?_append_right (by omega)] at hr; exact .inr ⟨by omega, hr⟩
    rcases get r pl h1 with ⟨k1, k2⟩ | ⟨k1, k2⟩ <;> rcases get r' pl' h2 with ⟨q1, q2⟩ | ⟨q1, q2⟩
    · exact hR.inj r r' pl pl' k2 q2 h3
    · have := hlt r pl k2; have := hge _ pl' q2; omega
    · have := hge _ pl k2; have := hlt r' pl' q2; omega
    · have := h.inj _ _ pl pl' k2 q2 h3; omega

theorem ACallsTo.lend {C : Ctx} (hg : GlOK C) {f : FuncId} {xs args : List AV} {v : AV} {O O1 : Store} (h : ACallsTo C f xs [] v O1) (hd : DRs (z5m O) xs args) : ACallsTo C f args O (sh O.length v) (O ++ shS O.length O1) := by
  intro γ w cargs hR ha
  have hx : VRt [] w xs cargs := DRs.soundt hR zes xs args cargs hd ha
  have hlt : ∀ (r : Nat) (pl : Place), γ[r]? = some (true, pl) -> pl.b < w.heap.size := fun r pl hr => hR.place_lt hr
  rcases h [] w cargs (hR.lent hg) hx with ⟨h1, h2⟩ | ⟨cv, γ', w', h1, h2, h3, h4⟩
  · refine .inl ⟨h1, h2.mono ?_⟩
    rintro e w' ⟨cv, γ', rfl, k1, k2, k3⟩
    exact ⟨cv, γ ++ γ', rfl, zcr k1 hlt, hR.back k1 k2, by rw [<- hR.len]; exact z9y v cv k3⟩
  · exact .inr ⟨cv, γ ++ γ', w', h1, zcr h2 hlt, hR.back h2 h3, by rw [<- hR.len]; exact z9y v cv h4⟩
/-- A contract at the empty store, of values alone, at every store. -/
theorem ACallsTo.frame {C : Ctx} (hg : GlOK C) {f : FuncId} {xs : List AV} {v : AV} (h : ACallsTo C f xs [] v []) (hx : RLs 0 xs) (O : Store) : ACallsTo C f xs O (sh O.length v) O := by
  have := ACallsTo.lend hg (O := O) h (DRs.refl (D := z5m O) (k := 0) (by omega) xs hx)
  simpa [shS] using this
end Am
end Go.Proofs.YtncenefkbpelbaaDoor
end
