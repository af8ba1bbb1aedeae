import Derived.Test.YtjgljhbmljgaeaaDoorK1371eeee5
import Derived.Deep.LoopGhost
import Derived.Scope
import Derived.OrdersIn
import Derived.RangeFuncFrom
import Derived.RangeFuncLeaves
import Derived.Test.YtjgljhbmljgaeaaDoorRows
import Derived.ProofKit
import Derived.OpenShut
import Derived.JoinedCond
import Derived.Carry
set_option linter.unusedSimpArgs false
set_option linter.unusedVariables false
open Nat (reduceEqDiff reduceAdd reduceMul reduceSub reduceLeDiff)
open Int (reduceToNat reducePow)
section
/- THE ABSTRACT MACHINE, part 13: regions, in whatever order. -/
namespace Go.Proofs.YtjgljhbmljgaeaaDoor
namespace Am

/-! What an operation leans on. -/
theorem zku (C : Ctx) {e e' : Operand -> AV} (Y : Store) (op : Op) (h : ∀ x ∈ op.operands, e x = e' x) : z1h C e Y op = z1h C e' Y op := by
  have pairs : ∀ ps : Array (Nat × Operand), (∀ x ∈ ps.map (·.2), e x = e' x) -> (ps.toList.map fun p => (p.1, e p.2)) = (ps.toList.map fun p => (p.1, e' p.2)) := fun ps hp =>
    List.map_congr_left fun p hm => by
      rw [hp p.2 (Array.mem_map.2 ⟨p, by simpa using hm, rfl⟩)]
  cases op <;> simp only [Op.operands] at h <;> simp only [z1h]
  case build t ps => rw [pairs ps fun x hx => h x (by simpa using hx)]
  case buildSlice t n ps => rw [pairs ps fun x hx => h x (by simpa using hx)]
  case makeFunc fn first captured =>
    cases fn <;> simp only [reduceCtorEq]
    rw [List.map_congr_left (l := captured.toList) fun x hx => h x (by simp at hx; simp [hx])]
  case call c =>
    obtain ⟨callee, args, ats⟩ := c
    cases callee <;> simp only []
    rw [List.map_congr_left (l := args.toList) fun x hx => h x (by simp at hx; simp [Call.operands, hx])]
  case slice t x lo hi mx => cases lo <;> cases hi <;> cases mx <;> simp_all
  all_goals (first | rfl | (simp_all; done))

theorem zej {op : Op} {f : Operand} {args : Array Operand} (h : z1p op = some (f, args)) : f ∈ op.operands /\ ∀ x ∈ args, x ∈ op.operands := by
  cases op <;> simp only [z1p, reduceCtorEq] at h
  rename_i c
  obtain ⟨callee, cargs, ats⟩ := c
  cases callee <;> simp only [reduceCtorEq, Option.some.injEq, Prod.mk.injEq] at h
  obtain ⟨rfl, rfl⟩ := h
  simp [Op.operands, Call.operands]
  intro x hx
  exact .inr hx

theorem zdk {C : Ctx} {e e' : Operand -> AV} {Y Y' : Store} {op : Op} {v : AV} (h : ∀ x ∈ op.operands, e x = e' x) (ho : OpTo C e Y op v Y') : OpTo C e' Y op v Y' := by
  unfold OpTo at ho ⊢
  cases hc : z1p op with
  | none =>
    rw [hc] at ho
    simp only at ho ⊢
    rw [<- zku C Y op h]; exact ho
  | some fa =>
    obtain ⟨f, args⟩ := fa
    rw [hc] at ho
    simp only at ho ⊢
    obtain ⟨h1, h2⟩ := zej hc
    obtain ⟨fid, caps, h3, h4⟩ := ho
    refine ⟨fid, caps, by rw [<- h f h1]; exact h3, ?_⟩
    rw [<- List.map_congr_left (l := args.toList) fun x hx => h x (h2 x (by simpa using hx))]
    exact h4

theorem zdj {C : Ctx} {e e' : Operand -> AV} {Y : Store} {op : Op} {P : AV -> Store -> Prop} (h : ∀ x ∈ op.operands, e x = e' x) (ho : OpP C e Y op P) : OpP C e' Y op P := by
  obtain ⟨⟨f, args⟩, hc, fid, caps, h3, h4⟩ := ho
  obtain ⟨h1, h2⟩ := zej hc
  refine ⟨(f, args), hc, fid, caps, by rw [<- h f h1]; exact h3, ?_⟩
  rw [<- List.map_congr_left (l := args.toList) fun x hx => h x (h2 x (by simpa using hx))]
  exact h4

/-- Operations that neither look at the store nor turn it. -/
def opN (C : Ctx) : Op -> Bool
  | .move _ | .assign _ | .pick _ _ _ | .build _ _ | .buildSlice _ _ _ | .nilCheck _ | .binOp _ _ _ _ _ | .unOp _ _ _ | .makeFunc _ _ _ | .fieldAddr _ _ _ | .field _ _ _ | .indexAddr _ _ _ | .index _ _ _ | .extract _ _ | .slice _ _ _ _ _ => true
  | .call c => match c.callee with | .builtin .len => true | .builtin .min => true | .builtin .max => true | _ => false
  | .convert s d _ => (z65 C s).isSome && (z65 C d).isSome
  | _ => false
theorem z6y {C : Ctx} {e : Operand -> AV} {Y Y' : Store} {op : Op} {v : AV} (hn : opN C op = true) (h : OpTo C e Y op v Y') : Y' = Y /\ ∀ Y2, OpTo C e Y2 op v Y2 := by
  have key : z1p op = none := by
    cases op <;> simp only [opN, Bool.false_eq_true] at hn <;> simp only [z1p]
    rename_i c
    obtain ⟨callee, cargs, ats⟩ := c
    cases callee <;> simp_all
  unfold OpTo at h ⊢
  rw [key] at h ⊢
  simp only at h ⊢
  have mp : ∀ {r : Option AV} {Y Y' : Store} {v : AV}, r.map (fun v => (v, Y)) = some (v, Y') -> Y' = Y /\ ∀ Y2 : Store, r.map (fun v => (v, Y2)) = some (v, Y2) := by
    intro r Y Y' v h
    simp only [Option.map_eq_some_iff, Prod.mk.injEq] at h
    obtain ⟨v', rfl, rfl, rfl⟩ := h
    exact ⟨rfl, fun _ => rfl⟩
  cases op <;> simp only [opN, Bool.false_eq_true] at hn <;> simp only [z1h] at h ⊢
  case move x => simp only [Option.some.injEq, Prod.mk.injEq] at h ⊢; exact ⟨h.2.symm, fun _ => ⟨h.1, trivial⟩⟩
  case assign x => simp only [Option.some.injEq, Prod.mk.injEq] at h ⊢; exact ⟨h.2.symm, fun _ => ⟨h.1, trivial⟩⟩
  case pick c x y => split at h
                     · simp only [Option.some.injEq, Prod.mk.injEq] at h ⊢; exact ⟨h.2.symm, fun _ => ⟨h.1, trivial⟩⟩
                     · cases h
  case nilCheck x => split at h
                     · simp only [Option.some.injEq, Prod.mk.injEq] at h ⊢; exact ⟨h.2.symm, fun _ => ⟨h.1, trivial⟩⟩
                     · simp only [Option.some.injEq, Prod.mk.injEq] at h ⊢; exact ⟨h.2.symm, fun _ => ⟨h.1, trivial⟩⟩
                     · simp only [Option.some.injEq, Prod.mk.injEq] at h ⊢; exact ⟨h.2.symm, fun _ => ⟨h.1, trivial⟩⟩
                     · cases h
  case makeFunc fn first captured =>
    cases fn <;> simp only [reduceCtorEq] at h ⊢
    split at h
    · rename_i hz
      simp only [hz, if_true, Option.some.injEq, Prod.mk.injEq] at h ⊢; exact ⟨h.2.symm, fun _ => ⟨h.1, trivial⟩⟩
    · cases h
  case extract x i => split at h
                      · exact mp h
                      · cases h
  case call c =>
    obtain ⟨callee, cargs, ats⟩ := c
    cases callee <;> simp only [Bool.false_eq_true, reduceCtorEq] at hn h ⊢
    rename_i b
    unfold z35 at h ⊢
    split at h <;> simp only [Bool.false_eq_true, reduceCtorEq] at hn h ⊢
    · exact mp h
    · exact mp h
    · exact mp h
  case convert s d x =>
    simp only [Bool.and_eq_true] at hn
    obtain ⟨ks, hks⟩ := Option.isSome_iff_exists.1 hn.1
    obtain ⟨kd, hkd⟩ := Option.isSome_iff_exists.1 hn.2
    unfold z5t at h ⊢
    simp only [hks, hkd] at h ⊢
    have nostr : ¬ tyStr C d = true := by
      intro hh
      have := z5p hh
      rw [zai hkd] at this; cases this
    have nou8 : ¬ z66 C d = true := by
      intro hh
      obtain ⟨_, this, _⟩ := zde hh
      rw [zai hkd] at this; cases this
    split at h
    · simp only [Option.bind_some, Option.map_some, Option.some.injEq, Prod.mk.injEq] at h ⊢; exact ⟨h.2.symm, fun _ => ⟨h.1, trivial⟩⟩
    · simp [nostr, nou8] at h
    · simp [nostr] at h
  all_goals exact mp h

/-! Guards. -/
def z2n (ops : Array Oper) (O : Env) (o : Oper) : Option Bool :=
  match o.guard with
  | none => some true
  | some g => match (ops[g.1]?).bind (·.dst) with
    | some d => (match O d with | .bool b => some (b == g.2) | .undef => some false | _ => none)
    | none => some false
theorem zi0 {J : Places} {w : World} {O : Env} {a : Act} {ops : Array Oper} {o : Oper} {b : Bool} (hE : EnvR J w O a.tmps) (h : z2n ops O o = some b) : Region.wanted o (yielded ops a.tmps) = b := by
  unfold z2n at h
  unfold Region.wanted
  cases hg : o.guard with
  | none => rw [hg] at h; simp only [Option.some.injEq] at h; simpa using h
  | some g =>
    obtain ⟨j, want⟩ := g
    rw [hg] at h
    simp only at h ⊢
    unfold yielded
    cases hd : (ops[j]?).bind (·.dst) with
    | none => rw [hd] at h; simp only [Option.some.injEq] at h; subst h; simp
    | some d =>
      rw [hd] at h
      simp only at h
      have hr := hE d
      simp only [Option.bind_some]
      split at h
      · rename_i b' hb
        rw [hb] at hr
        simp only [VR] at hr
        simp only [Option.some.injEq] at h; subst h
        have : a.tmps[d]? = some (.bool b') := by
          rw [Array.getD_eq_getD_getElem?] at hr
          cases hq : a.tmps[d]? with
          | none => rw [hq] at hr; simp [undef] at hr
          | some v => rw [hq] at hr; simp at hr; rw [hr]
        rw [this]
        cases b' <;> cases want <;> rfl
      · rename_i hb
        rw [hb] at hr
        simp only [VR] at hr
        simp only [Option.some.injEq] at h; subst h
        rw [Array.getD_eq_getD_getElem?] at hr
        cases hq : a.tmps[d]? with
        | none => simp
        | some v => rw [hq] at hr; simp at hr; subst hr; simp [undef]
      · cases h

/-- Operations that read the store and leave it. -/
def opR : Op -> Bool
  | .load _ _ => true
  | _ => false
theorem zg8 {op : Op} (hn : opR op = true) : z1p op = none := by
  cases op <;> simp only [opR, Bool.false_eq_true] at hn <;> rfl
theorem z4k {C : Ctx} {e : Operand -> AV} {Y Y' : Store} {op : Op} {v : AV} (hn : opR op = true) (h : OpTo C e Y op v Y') : Y' = Y := by
  have hc := zg8 hn
  unfold OpTo at h
  rw [hc] at h
  simp only at h
  cases op <;> simp only [opR, Bool.false_eq_true] at hn <;> simp only [z1h, Option.map_eq_some_iff, Prod.mk.injEq] at h <;> obtain ⟨_, _, _, rfl⟩ := h <;> rfl
theorem zfz {C : Ctx} {e : Operand -> AV} {Y s1 s2 : Store} {op : Op} {v1 v2 : AV} (hn : opR op = true) (h1 : OpTo C e Y op v1 s1) (h2 : OpTo C e Y op v2 s2) : v1 = v2 := by
  have hc := zg8 hn
  unfold OpTo at h1 h2
  rw [hc] at h1 h2
  simp only at h1 h2
  rw [h1] at h2
  simp only [Option.some.injEq, Prod.mk.injEq] at h2
  exact h2.1
theorem zbx {C : Ctx} {e : Operand -> AV} {Y : Store} {op : Op} {P : AV -> Store -> Prop} (hn : opN C op = true) (h : OpP C e Y op P) : False := by
  obtain ⟨⟨f, args⟩, hc, _⟩ := h
  cases op <;> simp only [opN, Bool.false_eq_true] at hn <;> simp only [z1p, reduceCtorEq] at hc
  rename_i c
  obtain ⟨callee, cargs, ats⟩ := c
  cases callee <;> simp_all
theorem opR_call {C : Ctx} {e : Operand -> AV} {Y : Store} {op : Op} {P : AV -> Store -> Prop} (hn : opR op = true) (h : OpP C e Y op P) : False := by
  obtain ⟨⟨f, args⟩, hc, _⟩ := h
  cases op <;> simp only [opR, Bool.false_eq_true] at hn <;> simp only [z1p, reduceCtorEq] at hc
theorem zny {C : Ctx} {e : Operand -> AV} {Y1 Y2 s1 s2 : Store} {op : Op} {v1 v2 : AV} (hn : opN C op = true) (h1 : OpTo C e Y1 op v1 s1) (h2 : OpTo C e Y2 op v2 s2) : v1 = v2 := by
  obtain ⟨rfl, k1⟩ := z6y hn h1
  obtain ⟨rfl, k2⟩ := z6y hn h2
  have key : z1p op = none := by
    cases op <;> simp only [opN, Bool.false_eq_true] at hn <;> simp only [z1p]
    rename_i c
    obtain ⟨callee, cargs, ats⟩ := c
    cases callee <;> simp_all
  have q1 := k1 []
  have q2 := k2 []
  unfold OpTo at q1 q2
  rw [key] at q1 q2
  simp only at q1 q2
  rw [q1] at q2
  simp only [Option.some.injEq, Prod.mk.injEq] at q2
  exact q2.1

/-! One operation with its guard. -/
/-- What a region has seen: the stores ahead of its effects; what its reads ask of a store; what its late reads ask (those in no order with an effect that other reads are ahead of). -/
structure Hist where
  pre : Store -> Prop
  rds : Store -> Prop
  rd2 : Store -> Prop
def Hist.none : Hist := ⟨fun _ => False, fun _ => True, fun _ => True⟩
/-- What an operation owes those that stand in no order with it: nothing; to leave the store; a reader: to read the same ahead of each effect; an effect: to let each read read the same; a call that leaves the store: as_ a reader. -/
inductive Nd where
  | no
  | same
  | rd
  | ef
  | pu
  | rd2
  | ef2
  deriving DecidableEq, Inhabited
def Nd.ok (n : Nd) (C : Ctx) (e : Operand -> AV) (op : Op) (v : AV) (H : Hist) (Y Y' : Store) : Prop := match n with
  | .no => True
  | .same => Y' = Y
  | .rd => Y' = Y /\ ∀ h, H.pre h -> OpTo C e h op v h
  | .ef => H.rds Y'
  | .pu => Y' = Y /\ ∀ h, H.pre h -> OpTo C e h op v h
  | .rd2 => Y' = Y /\ ∀ h, H.pre h -> OpTo C e h op v h
  | .ef2 => H.rd2 Y'
def Nd.next (n : Nd) (C : Ctx) (e : Operand -> AV) (op : Op) (v : AV) (H : Hist) (Y : Store) : Hist := match n with
  | .no => H
  | .same => H
  | .rd => ⟨H.pre, fun s => H.rds s /\ OpTo C e s op v s, H.rd2⟩
  | .ef => ⟨fun s => H.pre s \/ s = Y, H.rds, H.rd2⟩
  | .pu => ⟨H.pre, fun s => H.rds s /\ OpTo C e s op v s, H.rd2⟩
  | .rd2 => ⟨H.pre, fun s => H.rds s /\ OpTo C e s op v s, fun s => H.rd2 s /\ OpTo C e s op v s⟩
  | .ef2 => ⟨fun s => H.pre s \/ s = Y, H.rds, H.rd2⟩
/-- A call told by a property. -/
def zb1 (C : Ctx) (need : Nd) (o : Oper) (K : Hist -> Env -> Store -> Prop) (H : Hist) (O : Env) (Y : Store) : Prop :=
  ∃ P : AV -> Store -> Prop, OpP C (ev C O) Y o.op P /\ (∃ v Y', P v Y') /\ ∀ v Y', P v Y' -> need.ok C (ev C O) o.op v H Y Y' /\ K (need.next C (ev C O) o.op v H Y) (putE O o.dst v) Y'
def z1v (C : Ctx) (ops : Array Oper) (need : Nd) (o : Oper) (K : Hist -> Env -> Store -> Prop) (H : Hist) (O : Env) (Y : Store) : Prop :=
  match z2n ops O o with
  | some true => (∃ v Y', OpTo C (ev C O) Y o.op v Y' /\ need.ok C (ev C O) o.op v H Y Y' /\ K (need.next C (ev C O) o.op v H Y) (putE O o.dst v) Y') \/ ((need = .no \/ need = .ef) /\ zb1 C need o K H O Y)
  | some false => K H (putE O o.dst .undef) Y
  | none => False

theorem z3e {C : Ctx} {J : Places} {Y : Store} {w : World} {ops : Array Oper} {i : Nat} {o : Oper} {need : Nd} {H : Hist} {O : Env} {a : Act} {K : Hist -> Env -> Store -> Prop} {KK : Act -> World -> Prop} {Q : Exit -> Act -> World -> Prop} (hi : ops[i]? = some o)
    (hd : ∀ x, o.dst = some x -> x < a.tmps.size) (hR : Rel C J Y w) (hE : EnvR J w O a.tmps) (h : z1v C ops need o K H O Y)
    (hK : ∀ H' O' Y' J' a' w', K H' O' Y' -> Step J w J' w' -> Rel C J' Y' w' -> EnvR J' w' O' a'.tmps -> a'.defers = a.defers -> a'.tmps.size = a.tmps.size -> KK a' w') : wpOp C.P ops Q i KK a w := by
  unfold z1v at h
  unfold wpOp
  rw [hi]
  simp only
  have put_size : ∀ (d : Option Nat) (v : Value), (a.put d v).tmps.size = a.tmps.size := by intro d v; cases d <;> simp [Act.put]
  have put_def : ∀ (d : Option Nat) (v : Value), (a.put d v).defers = a.defers := by intro d v; cases d <;> rfl
  split at h
  · rename_i hw
    rw [zi0 hE hw, if_pos rfl]
    left
    rcases h with ⟨v, Y', h1, _, h2⟩ | ⟨_, P, h1, _, h2⟩
    · refine op_ok hR hE h1 fun cv J' w' k1 k2 k3 => ?_
      exact hK _ _ _ J' _ w' h2 k1 k2 ((hE.mono k1).put hd k3) (put_def _ _) (put_size _ _)
    · refine opP_ok hR hE h1 fun v Y' cv J' w' hp k1 k2 k3 => ?_
      exact hK _ _ _ J' _ w' (h2 v Y' hp).2 k1 k2 ((hE.mono k1).put hd k3) (put_def _ _) (put_size _ _)
  · rename_i hw
    rw [zi0 hE hw, if_neg (by simp)]
    exact hK _ _ _ J _ w h (Step.refl _ _) hR (hE.put hd (by simp only [VR])) (put_def _ _) (put_size _ _)
  · exact h.elim

/-! Two operations change places. -/
theorem zex {C : Ctx} {O : Env} {d : Option Nat} {v : AV} {x : Operand} (h : ∀ t, d = some t -> x ≠ .tmp t) : ev C (putE O d v) x = ev C O x := by
  cases d with
  | none => rfl
  | some d =>
    cases x with
    | tmp t =>
      have hne : t ≠ d := fun e => h d rfl (by rw [e])
      simp [ev, putE, upd, hne]
    | _ => rfl
theorem zga {ops : Array Oper} {o : Oper} {t : Nat} (h : (Operand.tmp t) ∈ o.op.operands) : t ∈ o.looksAt ops := by
  unfold Oper.looksAt
  exact List.mem_append_left _ (List.mem_filterMap.2 ⟨.tmp t, by simpa using h, rfl⟩)
theorem z33 {C : Ctx} {O : Env} {Y Y' : Store} {ops : Array Oper} {o : Oper} {d : Option Nat} {u v : AV} (h : ∀ t, d = some t -> t ∉ o.looksAt ops) :
    OpTo C (ev C (putE O d u)) Y o.op v Y' ↔ OpTo C (ev C O) Y o.op v Y' := by
  have e : ∀ x ∈ o.op.operands, ev C (putE O d u) x = ev C O x := fun x hx => zex fun t ht hxt => h t ht (zga (by rw [<- hxt]; exact hx))
  exact ⟨zdk e, zdk fun x hx => (e x hx).symm⟩
theorem z94 {C : Ctx} {O : Env} {Y : Store} {P : AV -> Store -> Prop} {ops : Array Oper} {o : Oper} {d : Option Nat} {u : AV} (h : ∀ t, d = some t -> t ∉ o.looksAt ops) :
    OpP C (ev C (putE O d u)) Y o.op P ↔ OpP C (ev C O) Y o.op P := by
  have e : ∀ x ∈ o.op.operands, ev C (putE O d u) x = ev C O x := fun x hx => zex fun t ht hxt => h t ht (zga (by rw [<- hxt]; exact hx))
  exact ⟨zdj e, zdj fun x hx => (e x hx).symm⟩
theorem zhz {O : Env} {ops : Array Oper} {o : Oper} {d : Option Nat} {u : AV} (h : ∀ t, d = some t -> t ∉ o.looksAt ops) : z2n ops (putE O d u) o = z2n ops O o := by
  cases d with
  | none => rfl
  | some t =>
    unfold z2n
    cases hg : o.guard with
    | none => rfl
    | some g =>
      simp only
      cases hd : (ops[g.1]?).bind (·.dst) with
      | none => rfl
      | some d' =>
        simp only
        have hne : d' ≠ t := fun e => h t rfl (by
          unfold Oper.looksAt
          refine List.mem_append_right _ ?_
          rw [hg]
          simp only
          rw [hd, e]; simp)
        simp [putE, upd, hne]
theorem zom {O : Env} {x y : Option Nat} {u v : AV} (h : ∀ d, x = some d -> y ≠ some d) : putE (putE O x u) y v = putE (putE O y v) x u := by
  cases x with
  | none => rfl
  | some d =>
    cases y with
    | none => rfl
    | some e =>
      have hne : d ≠ e := fun e' => h d rfl (by rw [e'])
      funext t
      simp only [putE, upd]
      by_cases h1 : t = e
      · subst h1
        have : ¬ t = d := fun e' => hne e'.symm
        simp [this]
      · simp [h1]

theorem z60 {C : Ctx} {O : Env} {Y Y' : Store} {ops : Array Oper} {o : Oper} {d : Option Nat} {u v : AV} {n : Nd} {H : Hist} (h : ∀ t, d = some t -> t ∉ o.looksAt ops) :
    n.ok C (ev C (putE O d u)) o.op v H Y Y' ↔ n.ok C (ev C O) o.op v H Y Y' := by
  cases n <;> simp only [Nd.ok]
  · exact ⟨fun k => ⟨k.1, fun s hs => (z33 h).1 (k.2 s hs)⟩, fun k => ⟨k.1, fun s hs => (z33 h).2 (k.2 s hs)⟩⟩
  · exact ⟨fun k => ⟨k.1, fun s hs => (z33 h).1 (k.2 s hs)⟩, fun k => ⟨k.1, fun s hs => (z33 h).2 (k.2 s hs)⟩⟩
  · exact ⟨fun k => ⟨k.1, fun s hs => (z33 h).1 (k.2 s hs)⟩, fun k => ⟨k.1, fun s hs => (z33 h).2 (k.2 s hs)⟩⟩
theorem z5z {C : Ctx} {O : Env} {Y : Store} {ops : Array Oper} {o : Oper} {d : Option Nat} {u v : AV} {n : Nd} {H : Hist} (h : ∀ t, d = some t -> t ∉ o.looksAt ops) :
    n.next C (ev C (putE O d u)) o.op v H Y = n.next C (ev C O) o.op v H Y := by
  cases n <;> simp only [Nd.next]
  all_goals
    congr 1
    all_goals
      funext s
      exact propext ⟨fun k => ⟨k.1, (z33 h).1 k.2⟩, fun k => ⟨k.1, (z33 h).2 k.2⟩⟩
/-- Readers: an operation that reads; a call that leaves the store. -/
def rdK (n : Nd) (o : Op) : Bool := (opR o && (n == .rd || n == .rd2)) || n == .pu
/-- May a reader change places with the other one? -/
def matesP (nx ni : Nd) (x i : Op) : Bool :=
  (rdK nx x && ni == .ef) || (rdK nx x && nx == .rd2 && ni == .ef2) || (rdK ni i && nx == .ef && (z1p x).isNone) || (rdK ni i && nx == .ef2) || (rdK nx x && ni == .same) || (rdK ni i && nx == .same) || (rdK nx x && rdK ni i) || (opR i && ni == .rd2 && nx == .ef)
/-- May two change places, by what they do and owe? -/
def zbo (C : Ctx) (nx ni : Nd) (x i : Op) : Bool :=
  (opN C x && nx == .no) || (opN C i && ni == .no) || (nx == .same && ni == .same) || (opR x && nx == .rd && ni == .ef) || (opR i && ni == .rd && nx == .ef) || (opR x && opR i && nx == .rd && ni == .rd) || (opR x && nx == .rd && ni == .same) || (opR i && ni == .rd && nx == .same) || matesP nx ni x i

theorem zhg {C : Ctx} {ops : Array Oper} {nx ni : Nd} {x i : Oper} {K : Hist -> Env -> Store -> Prop} {H : Hist} {O : Env} {Y : Store} (hap : x.apart ops i = true) (hh : zbo C nx ni x.op i.op = true)
    (h : z1v C ops nx x (z1v C ops ni i K) H O Y) : z1v C ops ni i (z1v C ops nx x K) H O Y := by
  obtain ⟨a1, a2, a3⟩ := Oper.apart_spec hap
  have wi : ∀ u, z2n ops (putE O x.dst u) i = z2n ops O i := fun u => zhz a1
  have wx : ∀ u, z2n ops (putE O i.dst u) x = z2n ops O x := fun u => zhz a3
  have pc : ∀ u v, putE (putE O x.dst u) i.dst v = putE (putE O i.dst v) x.dst u := fun u v => zom a2
  -- the second one behind the first, by cases of its guard
  have inner : ∀ (n : Nd) (o : Oper) (K' : Hist -> Env -> Store -> Prop) (H' : Hist) (O' : Env) (Y' : Store), z1v C ops n o K' H' O' Y' =
    (match z2n ops O' o with
      | some true => (∃ v s, OpTo C (ev C O') Y' o.op v s /\ n.ok C (ev C O') o.op v H' Y' s /\ K' (n.next C (ev C O') o.op v H' Y') (putE O' o.dst v) s) \/ ((n = .no \/ n = .ef) /\ zb1 C n o K' H' O' Y')
      | some false => K' H' (putE O' o.dst .undef) Y'
      | none => False) := fun _ _ _ _ _ _ => rfl
  cases hwx : z2n ops O x with
  | none => rw [inner, hwx] at h; exact h.elim
  | some bx =>
    cases hwi : z2n ops O i with
    | none =>
      exfalso
      rw [inner, hwx] at h
      cases bx with
      | false => simp only at h; rw [inner, wi, hwi] at h; exact h
      | true =>
        rcases h with ⟨v, s, _, _, h3⟩ | ⟨_, P, _, ⟨v, s, hp⟩, h3⟩
        · rw [inner, wi, hwi] at h3; exact h3
        · have h4 := (h3 v s hp).2
          rw [inner, wi, hwi] at h4; exact h4
    | some bi =>
      cases bx with
      | false =>
        rw [inner, hwx] at h
        simp only at h
        rw [inner, wi, hwi] at h
        rw [inner, hwi]
        cases bi with
        | false => simp only at h ⊢; rw [inner, wx, hwx]; simp only; rw [<- pc]; exact h
        | true =>
          simp only at h ⊢
          rcases h with ⟨v, s, h1, h2, h3⟩ | ⟨h0, P, h1, hne, h2⟩
          · refine .inl ⟨v, s, (z33 a1).1 h1, (z60 a1).1 h2, ?_⟩
            rw [inner, wx, hwx]; simp only; rw [<- pc]
            rw [z5z a1] at h3; exact h3
          · refine .inr ⟨h0, P, (z94 a1).1 h1, hne, fun v s hp => ⟨(z60 a1).1 (h2 v s hp).1, ?_⟩⟩
            rw [inner, wx, hwx]; simp only; rw [<- pc]
            have h4 := (h2 v s hp).2
            rw [z5z a1] at h4; exact h4
      | true =>
        rw [inner, hwx] at h
        simp only at h
        rw [inner, hwi]
        cases bi with
        | false =>
          simp only
          rw [inner, wx, hwx]; simp only
          rcases h with ⟨v, s, h1, h2, h3⟩ | ⟨h0, P, h1, hne, h3⟩
          · rw [inner, wi, hwi] at h3
            exact .inl ⟨v, s, (z33 a3).2 h1, (z60 a3).2 h2, by rw [z5z a3, <- pc]; exact h3⟩
          · refine .inr ⟨h0, P, (z94 a3).2 h1, hne, fun v s hp => ⟨(z60 a3).2 (h3 v s hp).1, ?_⟩⟩
            have h4 := (h3 v s hp).2
            rw [inner, wi, hwi] at h4
            rw [z5z a3, <- pc]; exact h4
        | true =>
          simp only
          -- what x gives; what i gives behind it
          have second : ∀ {v : AV} {H' : Hist} {s : Store}, z1v C ops ni i K H' (putE O x.dst v) s ->
              (∃ v2 s2, OpTo C (ev C O) s i.op v2 s2 /\ ni.ok C (ev C O) i.op v2 H' s s2 /\ K (ni.next C (ev C O) i.op v2 H' s) (putE (putE O i.dst v2) x.dst v) s2) ∨
              ((ni = .no \/ ni = .ef) /\ ∃ P, OpP C (ev C O) s i.op P /\ (∃ v s, P v s) /\ ∀ v2 s2, P v2 s2 -> ni.ok C (ev C O) i.op v2 H' s s2 /\ K (ni.next C (ev C O) i.op v2 H' s) (putE (putE O i.dst v2) x.dst v) s2) := by
            intro v H' s h4
            rw [inner, wi, hwi] at h4
            rcases h4 with ⟨v2, s2, k1, k2, k3⟩ | ⟨h0, P, k1, k2, k3⟩
            · rw [z5z a1, pc] at k3
              exact .inl ⟨v2, s2, (z33 a1).1 k1, (z60 a1).1 k2, k3⟩
            · refine .inr ⟨h0, P, (z94 a1).1 k1, k2, fun v2 s2 hp => ?_⟩
              have k4 := (k3 v2 s2 hp).2
              rw [z5z a1, pc] at k4
              exact ⟨(z60 a1).1 (k3 v2 s2 hp).1, k4⟩
          have first : ∀ {v2 : AV} {H' : Hist} {s : Store}, ((∃ v s2, OpTo C (ev C O) s x.op v s2 /\ nx.ok C (ev C O) x.op v H' s s2 /\ K (nx.next C (ev C O) x.op v H' s) (putE (putE O i.dst v2) x.dst v) s2) ∨
              ((nx = .no \/ nx = .ef) /\ ∃ P, OpP C (ev C O) s x.op P /\ (∃ v s, P v s) /\ ∀ v s2, P v s2 -> nx.ok C (ev C O) x.op v H' s s2 /\ K (nx.next C (ev C O) x.op v H' s) (putE (putE O i.dst v2) x.dst v) s2)) ->
              z1v C ops nx x K H' (putE O i.dst v2) s := by
            intro v2 H' s h4
            rw [inner, wx, hwx]
            rcases h4 with ⟨v, s2, k1, k2, k3⟩ | ⟨h0, P, k1, k2, k3⟩
            · exact .inl ⟨v, s2, (z33 a3).2 k1, (z60 a3).2 k2, by rw [z5z a3]; exact k3⟩
            · exact .inr ⟨h0, P, (z94 a3).2 k1, k2, fun v s2 hp => ⟨(z60 a3).2 (k3 v s2 hp).1, by rw [z5z a3]; exact (k3 v s2 hp).2⟩⟩
          simp only [zbo, Bool.or_eq_true, Bool.and_eq_true, beq_iff_eq] at hh
          rcases hh with (((((((⟨hn, rfl⟩ | ⟨hn, rfl⟩) | ⟨rfl, rfl⟩) | ⟨⟨hr, rfl⟩, rfl⟩) | ⟨⟨hr, rfl⟩, rfl⟩) | ⟨⟨⟨hrx, hri⟩, rfl⟩, rfl⟩) | ⟨⟨hr, rfl⟩, rfl⟩) | ⟨⟨hr, rfl⟩, rfl⟩) | hh
          · -- x neither reads nor writes
            rcases h with ⟨v, s, h1, _, h3⟩ | ⟨_, P, h1, _⟩
            · obtain ⟨rfl, k1⟩ := z6y hn h1
              rcases second h3 with ⟨v2, s2, q1, q2, q3⟩ | ⟨h0, P, q1, q2, q3⟩
              · exact .inl ⟨v2, s2, q1, q2, first (.inl ⟨v, s2, k1 s2, trivial, q3⟩)⟩
              · exact .inr ⟨h0, P, q1, q2, fun v2 s2 hp => ⟨(q3 v2 s2 hp).1, first (.inl ⟨v, s2, k1 s2, trivial, (q3 v2 s2 hp).2⟩)⟩⟩
            · exact (zbx hn h1).elim
          · -- i neither reads nor writes
            rcases h with ⟨v, s, h1, h2, h3⟩ | ⟨h0, P, h1, ⟨v0, s0, hp0⟩, h3⟩
            · rcases second h3 with ⟨v2, s2, q1, _, q3⟩ | ⟨_, P, q1, _⟩
              · obtain ⟨rfl, k2⟩ := z6y hn q1
                exact .inl ⟨v2, Y, k2 Y, trivial, first (.inl ⟨v, s2, h1, h2, q3⟩)⟩
              · exact (zbx hn q1).elim
            · have get : ∀ v s, P v s -> ∃ v2, OpTo C (ev C O) s i.op v2 s /\ K (nx.next C (ev C O) x.op v H Y) (putE (putE O i.dst v2) x.dst v) s := by
                intro v s hp
                rcases second (h3 v s hp).2 with ⟨v2, s2, q1, _, q3⟩ | ⟨_, P, q1, _⟩
                · obtain ⟨rfl, _⟩ := z6y hn q1
                  exact ⟨v2, q1, q3⟩
                · exact (zbx hn q1).elim
              obtain ⟨v2, q1, _⟩ := get v0 s0 hp0
              obtain ⟨_, k2⟩ := z6y hn q1
              refine .inl ⟨v2, Y, k2 Y, trivial, first (.inr ⟨h0, P, h1, ⟨v0, s0, hp0⟩, fun v s hp => ⟨(h3 v s hp).1, ?_⟩⟩)⟩
              obtain ⟨v2', q2, q3⟩ := get v s hp
              have := zny hn q1 q2
              subst this
              exact q3
          · -- both leave the store
            rcases h with ⟨v, s, h1, h2, h3⟩ | ⟨h0, _⟩
            · rcases second h3 with ⟨v2, s2, q1, q2, q3⟩ | ⟨h0, _⟩
              · simp only [Nd.ok] at h2 q2
                subst h2; subst q2
                exact .inl ⟨v2, s2, q1, rfl, first (.inl ⟨v, s2, h1, rfl, q3⟩)⟩
              · rcases h0 with h0 | h0 <;> cases h0
            · rcases h0 with h0 | h0 <;> cases h0
          · -- a read, an effect
            rcases h with ⟨v, s, h1, h2, h3⟩ | ⟨h0, _⟩
            · have := z4k hr h1
              subst this
              simp only [Nd.ok] at h2
              rcases second h3 with ⟨v2, s2, q1, q2, q3⟩ | ⟨h0, P, q1, q2, q3⟩
              · simp only [Nd.ok, Nd.next] at q2 q3
                refine .inl ⟨v2, s2, q1, q2.1, first (.inl ⟨v, s2, q2.2, ⟨rfl, fun g hg => ?_⟩, q3⟩)⟩
                rcases hg with hg | rfl
                · exact h2.2 g hg
                · exact h1
              · refine .inr ⟨h0, P, q1, q2, fun v2 s2 hp => ?_⟩
                have q4 := q3 v2 s2 hp
                simp only [Nd.ok, Nd.next] at q4
                refine ⟨q4.1.1, first (.inl ⟨v, s2, q4.1.2, ⟨rfl, fun g hg => ?_⟩, q4.2⟩)⟩
                rcases hg with hg | rfl
                · exact h2.2 g hg
                · exact h1
            · rcases h0 with h0 | h0 <;> cases h0
          · -- an effect, a read
            rcases h with ⟨v, s, h1, h2, h3⟩ | ⟨h0, P, h1, ⟨v0, s0, hp0⟩, h3⟩
            · rcases second h3 with ⟨v2, s2, q1, q2, q3⟩ | ⟨h0, _⟩
              · have := z4k hr q1
                subst this
                simp only [Nd.ok, Nd.next] at q2 q3 h2
                exact .inl ⟨v2, Y, q2.2 Y (.inr rfl), ⟨rfl, fun g hg => q2.2 g (.inl hg)⟩, first (.inl ⟨v, s2, h1, ⟨h2, q1⟩, q3⟩)⟩
              · rcases h0 with h0 | h0 <;> cases h0
            · have get : ∀ v s, P v s -> ∃ v2, OpTo C (ev C O) s i.op v2 s /\ OpTo C (ev C O) Y i.op v2 Y /\ (∀ g, H.pre g -> OpTo C (ev C O) g i.op v2 g) ∧
                  K ⟨fun s => H.pre s \/ s = Y, fun s => H.rds s /\ OpTo C (ev C O) s i.op v2 s, H.rd2⟩ (putE (putE O i.dst v2) x.dst v) s := by
                intro v s hp
                rcases second (h3 v s hp).2 with ⟨v2, s2, q1, q2, q3⟩ | ⟨h0, _⟩
                · have := z4k hr q1
                  subst this
                  simp only [Nd.ok, Nd.next] at q2 q3
                  exact ⟨v2, q1, q2.2 Y (.inr rfl), fun g hg => q2.2 g (.inl hg), q3⟩
                · rcases h0 with h0 | h0 <;> cases h0
              obtain ⟨v2, _, q2, q3, _⟩ := get v0 s0 hp0
              refine .inl ⟨v2, Y, q2, ⟨rfl, q3⟩, first (.inr ⟨h0, P, h1, ⟨v0, s0, hp0⟩, fun v s hp => ?_⟩)⟩
              obtain ⟨v2', k1, k2, _, k4⟩ := get v s hp
              have := zfz hr q2 k2
              subst this
              have h4 := (h3 v s hp).1
              simp only [Nd.ok] at h4
              exact ⟨⟨h4, k1⟩, k4⟩
          · -- two reads
            rcases h with ⟨v, s, h1, h2, h3⟩ | ⟨h0, _⟩
            · have := z4k hrx h1
              subst this
              rcases second h3 with ⟨v2, s2, q1, q2, q3⟩ | ⟨h0, _⟩
              · have := z4k hri q1
                subst this
                simp only [Nd.ok, Nd.next] at q2 q3 h2
                refine .inl ⟨v2, s2, q1, ⟨rfl, q2.2⟩, first (.inl ⟨v, s2, h1, ⟨rfl, h2.2⟩, ?_⟩)⟩
                simp only [Nd.next]
                have e : (fun s => (H.rds s /\ OpTo C (ev C O) s i.op v2 s) /\ OpTo C (ev C O) s x.op v s) = (fun s => (H.rds s /\ OpTo C (ev C O) s x.op v s) /\ OpTo C (ev C O) s i.op v2 s) := by
                  funext s
                  exact propext ⟨fun k => ⟨⟨k.1.1, k.2⟩, k.1.2⟩, fun k => ⟨⟨k.1.1, k.2⟩, k.1.2⟩⟩
                rw [e]; exact q3
              · rcases h0 with h0 | h0 <;> cases h0
            · rcases h0 with h0 | h0 <;> cases h0
          · -- a read, what leaves the store
            rcases h with ⟨v, s, h1, h2, h3⟩ | ⟨h0, _⟩
            · have := z4k hr h1
              subst this
              rcases second h3 with ⟨v2, s2, q1, q2, q3⟩ | ⟨h0, _⟩
              · simp only [Nd.ok] at q2
                subst q2
                exact .inl ⟨v2, s2, q1, rfl, first (.inl ⟨v, s2, h1, h2, q3⟩)⟩
              · rcases h0 with h0 | h0 <;> cases h0
            · rcases h0 with h0 | h0 <;> cases h0
          · -- what leaves the store, a read
            rcases h with ⟨v, s, h1, h2, h3⟩ | ⟨h0, _⟩
            · simp only [Nd.ok] at h2
              subst h2
              rcases second h3 with ⟨v2, s2, q1, q2, q3⟩ | ⟨h0, _⟩
              · have := z4k hr q1
                subst this
                exact .inl ⟨v2, s2, q1, q2, first (.inl ⟨v, s2, h1, rfl, q3⟩)⟩
              · rcases h0 with h0 | h0 <;> cases h0
            · rcases h0 with h0 | h0 <;> cases h0
          · -- readers
            simp only [matesP, Bool.or_eq_true, Bool.and_eq_true, beq_iff_eq] at hh
            have okR : ∀ {n : Nd} {o : Op} {v : AV} {H : Hist} {s s' : Store}, rdK n o = true -> n.ok C (ev C O) o v H s s' -> s' = s /\ ∀ h, H.pre h -> OpTo C (ev C O) h o v h := by
              intro n o v H s s' hk h1
              cases n <;> first | exact h1 | (simp [rdK] at hk)
            have mkR : ∀ {n : Nd} {o : Op} {v : AV} {H : Hist} {s : Store}, rdK n o = true -> (∀ h, H.pre h -> OpTo C (ev C O) h o v h) -> n.ok C (ev C O) o v H s s := by
              intro n o v H s hk h1
              cases n <;> first | exact ⟨rfl, h1⟩ | (simp [rdK] at hk)
            have nxR : ∀ {n : Nd} {o : Op} {v : AV} {H : Hist} {s : Store}, rdK n o = true -> n.next C (ev C O) o v H s = ⟨H.pre, fun s => H.rds s /\ OpTo C (ev C O) s o v s, if n = .rd2 then (fun s => H.rd2 s /\ OpTo C (ev C O) s o v s) else H.rd2⟩ := by
              intro n o v H s hk
              cases n <;> first | rfl | (simp [rdK] at hk)
            have noP : ∀ {n : Nd} {o : Op}, rdK n o = true -> n = .no \/ n = .ef -> False := by
              intro n o hk h0
              rcases h0 with rfl | rfl <;> simp [rdK] at hk
            rcases hh with ((((((⟨hk, rfl⟩ | ⟨⟨hk, rfl⟩, rfl⟩) | ⟨⟨hk, rfl⟩, hcn⟩) | ⟨hk, rfl⟩) | ⟨hk, rfl⟩) | ⟨hk, rfl⟩) | ⟨hk, hk2⟩) | ⟨⟨hr, rfl⟩, rfl⟩
            · -- a reader, an effect
              rcases h with ⟨v, s, h1, h2, h3⟩ | ⟨h0, _⟩
              · obtain ⟨rfl, h2'⟩ := okR hk h2
                rw [nxR hk] at h3
                rcases second h3 with ⟨v2, s2, q1, q2, q3⟩ | ⟨h0, P, q1, q2, q3⟩
                · simp only [Nd.ok, Nd.next] at q2 q3
                  refine .inl ⟨v2, s2, q1, q2.1, first (.inl ⟨v, s2, q2.2, mkR hk fun g hg => ?_, by rw [nxR hk]; exact q3⟩)⟩
                  rcases hg with hg | rfl
                  · exact h2' g hg
                  · exact h1
                · refine .inr ⟨h0, P, q1, q2, fun v2 s2 hp => ?_⟩
                  have q4 := q3 v2 s2 hp
                  simp only [Nd.ok, Nd.next] at q4
                  refine ⟨q4.1.1, first (.inl ⟨v, s2, q4.1.2, mkR hk fun g hg => ?_, by rw [nxR hk]; exact q4.2⟩)⟩
                  rcases hg with hg | rfl
                  · exact h2' g hg
                  · exact h1
              · exact (noP hk h0).elim
            · -- a late reader, an effect that asks those alone
              rcases h with ⟨v, s, h1, h2, h3⟩ | ⟨h0, _⟩
              · obtain ⟨rfl, h2'⟩ := okR hk h2
                rcases second h3 with ⟨v2, s2, q1, q2, q3⟩ | ⟨h0, _⟩
                · simp only [Nd.ok, Nd.next] at q2 q3
                  refine .inl ⟨v2, s2, q1, q2.1, first (.inl ⟨v, s2, q2.2, mkR hk fun g hg => ?_, q3⟩)⟩
                  rcases hg with hg | rfl
                  · exact h2' g hg
                  · exact h1
                · rcases h0 with h0 | h0 <;> cases h0
              · exact (noP hk h0).elim
            · -- an effect that is no call, a reader
              rcases h with ⟨v, s, h1, h2, h3⟩ | ⟨_, P, h1, _⟩
              · rcases second h3 with ⟨v2, s2, q1, q2, q3⟩ | ⟨h0, _⟩
                · obtain ⟨rfl, q2'⟩ := okR hk q2
                  rw [nxR hk] at q3
                  simp only [Nd.next] at q2' q3
                  simp only [Nd.ok] at h2
                  exact .inl ⟨v2, Y, q2' Y (.inr rfl), mkR hk fun g hg => q2' g (.inl hg), first (.inl ⟨v, s2, h1, by rw [nxR hk]; exact ⟨h2, q1⟩, by rw [nxR hk]; exact q3⟩)⟩
                · exact (noP hk h0).elim
              · obtain ⟨fa, hc, _⟩ := h1
                rw [hc] at hcn; simp at hcn
            · -- an effect that asks late readers, a reader
              rcases h with ⟨v, s, h1, h2, h3⟩ | ⟨h0, _⟩
              · rcases second h3 with ⟨v2, s2, q1, q2, q3⟩ | ⟨h0, _⟩
                · obtain ⟨rfl, q2'⟩ := okR hk q2
                  rw [nxR hk] at q3
                  simp only [Nd.next] at q2' q3
                  simp only [Nd.ok] at h2
                  refine .inl ⟨v2, Y, q2' Y (.inr rfl), mkR hk fun g hg => q2' g (.inl hg), first (.inl ⟨v, s2, h1, ?_, by rw [nxR hk]; exact q3⟩)⟩
                  rw [nxR hk]
                  simp only [Nd.ok]
                  split
                  · exact ⟨h2, q1⟩
                  · exact h2
                · exact (noP hk h0).elim
              · rcases h0 with h0 | h0 <;> cases h0
            · -- a reader, what leaves the store
              rcases h with ⟨v, s, h1, h2, h3⟩ | ⟨h0, _⟩
              · obtain ⟨rfl, h2'⟩ := okR hk h2
                rcases second h3 with ⟨v2, s2, q1, q2, q3⟩ | ⟨h0, _⟩
                · simp only [Nd.ok] at q2
                  subst q2
                  exact .inl ⟨v2, s2, q1, rfl, first (.inl ⟨v, s2, h1, h2, q3⟩)⟩
                · rcases h0 with h0 | h0 <;> cases h0
              · exact (noP hk h0).elim
            · -- what leaves the store, a reader
              rcases h with ⟨v, s, h1, h2, h3⟩ | ⟨h0, _⟩
              · simp only [Nd.ok] at h2
                subst h2
                rcases second h3 with ⟨v2, s2, q1, q2, q3⟩ | ⟨h0, _⟩
                · obtain ⟨rfl, _⟩ := okR hk q2
                  exact .inl ⟨v2, s2, q1, q2, first (.inl ⟨v, s2, h1, rfl, q3⟩)⟩
                · exact (noP hk h0).elim
              · rcases h0 with h0 | h0 <;> cases h0
            · -- two readers
              rcases h with ⟨v, s, h1, h2, h3⟩ | ⟨h0, _⟩
              · obtain ⟨rfl, h2'⟩ := okR hk h2
                rw [nxR hk] at h3
                rcases second h3 with ⟨v2, s2, q1, q2, q3⟩ | ⟨h0, _⟩
                · obtain ⟨rfl, q2'⟩ := okR hk2 q2
                  rw [nxR hk2] at q3
                  refine .inl ⟨v2, s2, q1, mkR hk2 q2', first (.inl ⟨v, s2, h1, mkR hk (by rw [nxR hk2]; exact h2'), ?_⟩)⟩
                  rw [nxR hk2, nxR hk]
                  have e : ∀ R : Store -> Prop, (fun s => (R s /\ OpTo C (ev C O) s i.op v2 s) /\ OpTo C (ev C O) s x.op v s) = (fun s => (R s /\ OpTo C (ev C O) s x.op v s) /\ OpTo C (ev C O) s i.op v2 s) := fun R => by
                    funext s
                    exact propext ⟨fun k => ⟨⟨k.1.1, k.2⟩, k.1.2⟩, fun k => ⟨⟨k.1.1, k.2⟩, k.1.2⟩⟩
                  simp only at q3 ⊢
                  rw [e]
                  by_cases a : nx = .rd2 <;> by_cases b : ni = .rd2
                  · simp only [a, b, if_true] at q3 ⊢
                    rw [e]; exact q3
                  · simp only [if_pos a, if_neg b] at q3 ⊢; exact q3
                  · simp only [if_neg a, if_pos b] at q3 ⊢; exact q3
                  · simp only [if_neg a, if_neg b] at q3 ⊢; exact q3
                · exact (noP hk2 h0).elim
              · exact (noP hk h0).elim
            · -- an effect, a late read
              rcases h with ⟨v, s, h1, h2, h3⟩ | ⟨h0, P, h1, ⟨v0, s0, hp0⟩, h3⟩
              · rcases second h3 with ⟨v2, s2, q1, q2, q3⟩ | ⟨h0, _⟩
                · have := z4k hr q1
                  subst this
                  simp only [Nd.ok, Nd.next] at q2 q3 h2
                  exact .inl ⟨v2, Y, q2.2 Y (.inr rfl), ⟨rfl, fun g hg => q2.2 g (.inl hg)⟩, first (.inl ⟨v, s2, h1, ⟨h2, q1⟩, q3⟩)⟩
                · rcases h0 with h0 | h0 <;> cases h0
              · have get : ∀ v s, P v s -> ∃ v2, OpTo C (ev C O) s i.op v2 s /\ OpTo C (ev C O) Y i.op v2 Y /\ (∀ g, H.pre g -> OpTo C (ev C O) g i.op v2 g) ∧
                    K ⟨fun s => H.pre s \/ s = Y, fun s => H.rds s /\ OpTo C (ev C O) s i.op v2 s, fun s => H.rd2 s /\ OpTo C (ev C O) s i.op v2 s⟩ (putE (putE O i.dst v2) x.dst v) s := by
                  intro v s hp
                  rcases second (h3 v s hp).2 with ⟨v2, s2, q1, q2, q3⟩ | ⟨h0, _⟩
                  · have := z4k hr q1
                    subst this
                    simp only [Nd.ok, Nd.next] at q2 q3
                    exact ⟨v2, q1, q2.2 Y (.inr rfl), fun g hg => q2.2 g (.inl hg), q3⟩
                  · rcases h0 with h0 | h0 <;> cases h0
                obtain ⟨v2, _, q2, q3, _⟩ := get v0 s0 hp0
                refine .inl ⟨v2, Y, q2, ⟨rfl, q3⟩, first (.inr ⟨h0, P, h1, ⟨v0, s0, hp0⟩, fun v s hp => ?_⟩)⟩
                obtain ⟨v2', k1, k2, _, k4⟩ := get v s hp
                have := zfz hr q2 k2
                subst this
                have h4 := (h3 v s hp).1
                simp only [Nd.ok] at h4
                exact ⟨⟨h4, k1⟩, k4⟩

/-! A list of operations, by their numbers. -/
def z1l (C : Ctx) (ops : Array Oper) (need : Nat -> Nd) (K : Env -> Store -> Prop) : List Nat -> Hist -> Env -> Store -> Prop
  | [], _, O, Y => K O Y
  | i :: rest, H, O, Y => match ops[i]? with
    | none => False
    | some o => z1v C ops (need i) o (z1l C ops need K rest) H O Y

theorem z5l {C : Ctx} {ops : Array Oper} {n : Nd} {o : Oper} {K K' : Hist -> Env -> Store -> Prop} {H : Hist} {O : Env} {Y : Store} (hk : ∀ H O Y, K H O Y -> K' H O Y) (h : z1v C ops n o K H O Y) : z1v C ops n o K' H O Y := by
  unfold z1v at *
  split at h
  · rcases h with ⟨v, Y', h1, h2, h3⟩ | ⟨h0, P, h1, hne, h3⟩
    · exact .inl ⟨v, Y', h1, h2, hk _ _ _ h3⟩
    · exact .inr ⟨h0, P, h1, hne, fun v Y' hp => ⟨(h3 v Y' hp).1, hk _ _ _ (h3 v Y' hp).2⟩⟩
  · exact hk _ _ _ h
  · exact h.elim

/-- May x and i change places? -/
def free2 (C : Ctx) (ops : Array Oper) (need : Nat -> Nd) (x i : Nat) : Bool :=
  match ops[x]?, ops[i]? with
  | some ox, some oi => ox.apart ops oi && zbo C (need x) (need i) ox.op oi.op
  | _, _ => false

theorem z2e {C : Ctx} {ops : Array Oper} {need : Nat -> Nd} {K : Env -> Store -> Prop} {i : Nat} {post : List Nat} : ∀ (pre : List Nat), (∀ x ∈ pre, free2 C ops need x i = true) -> ∀ H O Y, z1l C ops need K (pre ++ i :: post) H O Y ->
    z1l C ops need K (i :: (pre ++ post)) H O Y
  | [], _, H, O, Y, h => h
  | x :: pre, hf, H, O, Y, h => by
    have hx := hf x (by simp)
    have ih := z2e (C := C) (K := K) (post := post) pre (fun y hy => hf y (by simp [hy]))
    unfold free2 at hx
    cases hox : ops[x]? with
    | none => simp [hox] at hx
    | some ox =>
      cases hoi : ops[i]? with
      | none => simp [hox, hoi] at hx
      | some oi =>
        simp only [hox, hoi, Bool.and_eq_true] at hx
        simp only [List.cons_append, z1l, hox, hoi] at h ⊢
        have h' := z5l (fun H O Y hh => ih H O Y hh) h
        have h'' : z1v C ops (need x) ox (z1v C ops (need i) oi (z1l C ops need K (pre ++ post))) H O Y := z5l (fun H O Y hh => by simpa only [z1l, hoi] using hh) h'
        exact zhg hx.1 hx.2 h''

/-! Which operation stands ahead of which. -/
def z2a (acc : List Nat) : List Oper -> List Nat
  | [] => acc
  | o :: os => z2a (acc ++ [o.after.toList.foldl (fun s e => if Region.binds .any e then s ||| 2 ^ e.on ||| acc.getD e.on 0 else s) 0]) os
def ahead_ (cl : List Nat) (x i : Nat) : Bool := (cl.getD i 0).testBit x

def z5r (ops : Array Oper) (L : Nat -> Bool) : Prop := ∀ (i : Nat) (o : Oper), ops[i]? = some o -> L i = true -> ∀ e ∈ o.after, Region.binds .any e = true -> L e.on = true

theorem zf2 (acc : List Nat) (x : Nat) : ∀ (l : List Edge) (s : Nat), (l.foldl (fun s e => if Region.binds .any e then s ||| 2 ^ e.on ||| acc.getD e.on 0 else s) s).testBit x = true ->
    s.testBit x = true \/ ∃ e ∈ l, Region.binds .any e = true /\ (e.on = x \/ (acc.getD e.on 0).testBit x = true)
  | [], s, h => .inl h
  | e :: l, s, h => by
    simp only [List.foldl_cons] at h
    rcases zf2 acc x l _ h with h1 | ⟨e', he', h1⟩
    · split at h1
      · rename_i hb
        simp only [Nat.testBit_or, Bool.or_eq_true, Nat.testBit_two_pow, decide_eq_true_eq] at h1
        rcases h1 with (h1 | h1) | h1
        · exact .inl h1
        · exact .inr ⟨e, by simp, hb, .inl h1⟩
        · exact .inr ⟨e, by simp, hb, .inr h1⟩
      · exact .inl h1
    · exact .inr ⟨e', by simp [he'], h1⟩

theorem zeq {ops : Array Oper} {L : Nat -> Bool} (hL : z5r ops L) : ∀ (os : List Oper) (acc : List Nat), (∀ j, os[j]? = ops[acc.length + j]?) ->
    (∀ (i x : Nat), i < acc.length -> (∀ (o : Oper), ops[i]? = some o -> ∀ e ∈ o.after, Region.binds .any e = true -> L e.on = true) -> (acc.getD i 0).testBit x = true -> L x = true) ->
    ∀ (i x : Nat), (∀ (o : Oper), ops[i]? = some o -> ∀ e ∈ o.after, Region.binds .any e = true -> L e.on = true) -> ((z2a acc os).getD i 0).testBit x = true -> L x = true
  | [], acc, hs, hacc, i, x, hi, h => by
    simp only [z2a] at h
    rcases Nat.lt_or_ge i acc.length with hl | hl
    · exact hacc i x hl hi h
    · rw [List.getD_eq_getElem?_getD, List.getElem?_eq_none hl] at h; simp at h
  | o :: os, acc, hs, hacc, i, x, hi, h => by
    simp only [z2a] at h
    have h0 : ops[acc.length]? = some o := by have := hs 0; simpa using this.symm
    refine zeq hL os _ (fun j => ?_) (fun k y hk hk2 hb => ?_) i x hi h
    · have := hs (j + 1)
      simp only [List.getElem?_cons_succ] at this
      rw [this, List.length_append, List.length_singleton]
      congr 1; omega
    · rcases Nat.lt_or_ge k acc.length with hl | hl
      · rw [List.getD_eq_getElem?_getD, List.getElem?_append_left hl, <- List.getD_eq_getElem?_getD] at hb
        exact hacc k y hl hk2 hb
      · have hke : k = acc.length := by simp at hk; omega
        subst hke
        rw [List.getD_eq_getElem?_getD, List.getElem?_concat_length] at hb
        simp only [Option.getD_some] at hb
        rcases zf2 acc y _ 0 hb with h1 | ⟨e, he, hbd, h1⟩
        · simp at h1
        · have hLe : L e.on = true := hk2 o h0 e (by simpa using he) hbd
          rcases h1 with rfl | h1
          · exact hLe
          · rcases Nat.lt_or_ge e.on acc.length with hl2 | hl2
            · exact hacc e.on y hl2 (fun o' ho' e' he' hb' => hL e.on o' ho' hLe e' he' hb') h1
            · rw [List.getD_eq_getElem?_getD, List.getElem?_eq_none hl2] at h1; simp at h1

/-- A region whose order is drawn may be gone through in the text's order. -/
def zbu (C : Ctx) (ops : Array Oper) (need : Nat -> Nd) : Bool :=
  let cl := z2a [] ops.toList
  (List.range ops.size).all fun i => (List.range i).all fun x => ahead_ cl x i || free2 C ops need x i
def z3y (ops : Array Oper) : Bool := (List.range ops.size).all fun i => match ops[i]? with | some o => o.after.toList.all fun e => !Region.binds .any e || decide (e.on < i) | none => true

/-- The least one that is left is ready. -/
theorem zc9 {ops : Array Oper} (hback : z3y ops = true) {listed : Array Bool} {i : Nat} {L : List Nat} (hls : listed.size = ops.size) (hL : ∀ j, j ∈ i :: L ↔ j < ops.size /\ listed.getD j true = false)
    (hpw : (i :: L).Pairwise (· < ·)) : i ∈ Region.ready .any ops listed := by
  have hi := (hL i).1 (by simp)
  unfold Region.ready
  simp only [List.mem_filter, List.mem_range, Bool.and_eq_true, Bool.not_eq_true']
  refine ⟨hi.1, hi.2, ?_⟩
  have ho : ops[i]? = some ops[i] := Array.getElem?_eq_getElem hi.1
  rw [ho]
  simp only [Option.map_some, Option.getD_some]
  rw [Array.all_eq_true_iff_forall_mem]
  intro e he
  by_cases hb : Region.binds .any e = true
  · have hb2 := List.all_eq_true.1 hback i (by simpa using hi.1)
    rw [ho] at hb2
    simp only at hb2
    have hb3 := List.all_eq_true.1 hb2 e (by simpa using he)
    simp only [hb, Bool.not_true, Bool.false_or, decide_eq_true_eq] at hb3
    -- what stands ahead of the least one that is left is listed
    have : listed.getD e.on false = true := by
      rcases hl : listed.getD e.on false with _ | _
      · have hsz : e.on < listed.size := by omega
        have hf : listed.getD e.on true = false := by
          simp only [Array.getD_eq_getD_getElem?, Array.getElem?_eq_getElem hsz, Option.getD_some] at hl ⊢
          exact hl
        have hin := (hL e.on).2 ⟨by omega, hf⟩
        rcases List.mem_cons.1 hin with h1 | h1
        · omega
        · have := (List.pairwise_cons.1 hpw).1 e.on h1
          omega
      · rfl
    simp [this]
  · simp [hb]
/-- What is ready: it is left, and what stands ahead of it is not. -/
theorem za3 {ops : Array Oper} {listed : Array Bool} {i : Nat} (hi : i ∈ Region.ready .any ops listed) :
    i < ops.size /\ listed.getD i true = false /\ ∀ (o : Oper), ops[i]? = some o -> ∀ e ∈ o.after, Region.binds .any e = true -> listed.getD e.on false = true := by
  unfold Region.ready at hi
  simp only [List.mem_filter, List.mem_range, Bool.and_eq_true, Bool.not_eq_true'] at hi
  obtain ⟨hi1, hi2, hi3⟩ := hi
  have ho : ops[i]? = some ops[i] := Array.getElem?_eq_getElem hi1
  rw [ho] at hi3
  simp only [Option.map_some, Option.getD_some, Array.all_eq_true_iff_forall_mem] at hi3
  refine ⟨hi1, hi2, ?_⟩
  intro o ho' e he hb
  rw [ho] at ho'; cases ho'
  have := hi3 e he
  simpa [hb] using this
/-- .. so none that is left stands ahead of it. -/
theorem z6g {ops : Array Oper} {listed : Array Bool} {i x : Nat} (hdown : z5r ops (fun i => listed.getD i false)) (hdeps : ∀ (o : Oper), ops[i]? = some o -> ∀ e ∈ o.after, Region.binds .any e = true -> listed.getD e.on false = true)
    (hsz : x < listed.size) (hx : listed.getD x true = false) : ¬ ahead_ (z2a [] ops.toList) x i = true := by
  intro h1
  have := zeq (L := fun i => listed.getD i false) hdown ops.toList [] (fun j => by simp) (by simp) i x hdeps h1
  simp only [Array.getD_eq_getD_getElem?, Array.getElem?_eq_getElem hsz, Option.getD_some] at this hx
  rw [this] at hx
  simp at hx
/-- One more is listed. -/
theorem z3h {ops : Array Oper} {listed : Array Bool} {i : Nat} {L L' : List Nat} (hsz : i < listed.size) (hL : ∀ j, j ∈ L ↔ j < ops.size /\ listed.getD j true = false) (h : ∀ j, j ∈ L' ↔ j ∈ L /\ j ≠ i) :
    ∀ j, j ∈ L' ↔ j < ops.size /\ (listed.setIfInBounds i true).getD j true = false := by
  intro j
  rw [h j, hL j]
  simp only [Array.getD_eq_getD_getElem?, Array.getElem?_setIfInBounds]
  by_cases hji : i = j
  · subst hji
    simp [hsz]
  · rw [if_neg hji]
    constructor
    · rintro ⟨h1, _⟩; exact h1
    · exact fun h1 => ⟨h1, fun e => hji e.symm⟩
theorem z3f {ops : Array Oper} {listed : Array Bool} {i : Nat} (hsz : i < listed.size) (hdown : z5r ops (fun i => listed.getD i false)) (hdeps : ∀ (o : Oper), ops[i]? = some o -> ∀ e ∈ o.after, Region.binds .any e = true -> listed.getD e.on false = true) :
    z5r ops (fun j => (listed.setIfInBounds i true).getD j false) := by
  intro j o hj hlj e he hbd
  simp only [Array.getD_eq_getD_getElem?, Array.getElem?_setIfInBounds] at hlj ⊢
  by_cases hji : i = j
  · subst hji
    have := hdeps o hj e he hbd
    simp only [Array.getD_eq_getD_getElem?] at this
    by_cases hie : i = e.on
    · simp [<- hie, hsz]
    · rw [if_neg hie]; exact this
  · rw [if_neg hji] at hlj
    have := hdown j o hj (by simpa [Array.getD_eq_getD_getElem?] using hlj) e he hbd
    simp only [Array.getD_eq_getD_getElem?] at this
    by_cases hie : i = e.on
    · simp [<- hie, hsz]
    · rw [if_neg hie]; exact this
theorem z1d {pre post : List Nat} {i : Nat} (hpw : (pre ++ i :: post).Pairwise (· < ·)) (j : Nat) : j ∈ pre ++ post ↔ j ∈ pre ++ i :: post /\ j ≠ i := by
  have h1 := List.pairwise_append.1 hpw
  have h2 := List.pairwise_cons.1 h1.2.1
  constructor
  · intro h
    rcases List.mem_append.1 h with h | h
    · exact ⟨by simp [h], fun e => by have := h1.2.2 j h i (by simp); omega⟩
    · exact ⟨by simp [h], fun e => by have := h2.1 j h; omega⟩
  · rintro ⟨h, hne⟩
    rcases List.mem_append.1 h with h | h
    · exact List.mem_append_left _ h
    · rcases List.mem_cons.1 h with h | h
      · exact absurd h hne
      · exact List.mem_append_right _ h
theorem z3m {pre post : List Nat} {i : Nat} (hpw : (pre ++ i :: post).Pairwise (· < ·)) : (pre ++ post).Pairwise (· < ·) :=
  hpw.sublist (List.Sublist.append (List.Sublist.refl _) (List.sublist_cons_self _ _))
def z8n (C : Ctx) (ops : Array Oper) (need : Nat -> Nd) (x i : Nat) : Prop := ahead_ (z2a [] ops.toList) x i = true \/ free2 C ops need x i = true
theorem z6v {C : Ctx} {ops : Array Oper} {need : Nat -> Nd} {K : Env -> Store -> Prop} {Q : Exit -> Act -> World -> Prop} (hback : z3y ops = true) {n : Nat} (hdst : ∀ o ∈ ops, ∀ d, o.dst = some d -> d < n) :
    ∀ (fuel : Nat) (listed : Array Bool) (L : List Nat), listed.size = ops.size -> (∀ i, i ∈ L ↔ i < ops.size /\ listed.getD i true = false) -> L.Pairwise (· < ·) -> z5r ops (fun i => listed.getD i false) -> L.length <= fuel ->
      (∀ x i, x ∈ L -> i ∈ L -> x < i -> z8n C ops need x i) ->
      ∀ (H : Hist) (O : Env) (Y : Store) (J : Places) (a : Act) (w : World), z1l C ops need K L H O Y -> Rel C J Y w -> EnvR J w O a.tmps -> a.tmps.size = n ->
        (∀ O' Y' J' a' w', K O' Y' -> Step J w J' w' -> Rel C J' Y' w' -> EnvR J' w' O' a'.tmps -> a'.defers = a.defers -> a'.tmps.size = n -> Q .normal a' w') ->
        wpAny C.P .any ops Q fuel listed a w := by
  intro fuel
  induction fuel with
  | zero =>
    intro listed L hls hL hpw hdown hlen hok H O Y J a w h hR hE hn hQ
    have : L = [] := List.eq_nil_of_length_eq_zero (by omega)
    subst this
    simp only [wpAny]
    refine ⟨?_, hQ O Y J a w h (Step.refl _ _) hR hE rfl hn⟩
    apply List.eq_nil_iff_forall_not_mem.2
    intro i hi
    obtain ⟨k1, k2, _⟩ := za3 hi
    exact absurd ((hL i).2 ⟨k1, k2⟩) (by simp)
  | succ fuel ih =>
    intro listed L hls hL hpw hdown hlen hok H O Y J a w h hR hE hn hQ
    simp only [wpAny]
    refine ⟨fun hready => ?_, fun i hi => ?_⟩
    · cases L with
      | nil => exact hQ O Y J a w h (Step.refl _ _) hR hE rfl hn
      | cons i L =>
        have := zc9 hback hls hL hpw
        rw [hready] at this
        simp at this
    · -- one that is ready goes ahead of all that are left
      obtain ⟨hi1, hi2, hdeps⟩ := za3 hi
      have hin := (hL i).2 ⟨hi1, hi2⟩
      obtain ⟨pre, post, rfl⟩ := List.append_of_mem hin
      have ho : ops[i]? = some ops[i] := Array.getElem?_eq_getElem hi1
      have hsizei : i < listed.size := by omega
      have hfree : ∀ x ∈ pre, free2 C ops need x i = true := by
        intro x hx
        have hxi : x < i := (List.pairwise_append.1 hpw).2.2 x hx i (by simp)
        rcases hok x i (by simp [hx]) hin hxi with h1 | h1
        · have hx2 := (hL x).1 (by simp [hx])
          exact absurd h1 (z6g hdown hdeps (by omega) hx2.2)
        · exact h1
      have hb := z2e (C := C) (K := K) (post := post) pre hfree H O Y h
      simp only [z1l, ho] at hb
      refine z3e ho (fun x hx => by rw [hn]; exact hdst _ (Array.getElem_mem hi1) x hx) hR hE hb fun H' O' Y' J' a' w' hK hst hR' hE' hdf hsz => ?_
      refine ih (listed.setIfInBounds i true) (pre ++ post) (by simpa using hls) (z3h hsizei hL (z1d hpw)) (z3m hpw) (z3f hsizei hdown hdeps) (by simp at hlen ⊢; omega)
        (fun x j hx hj => hok x j ((z1d hpw x).1 hx).1 ((z1d hpw j).1 hj).1) H' O' Y' J' a' w' hK hR' hE' (hsz.trans hn) ?_
      intro O2 Y2 J2 a2 w2 k1 k2 k3 k4 k5 k6
      exact hQ O2 Y2 J2 a2 w2 k1 (hst.trans k2) k3 k4 (k5.trans hdf) k6
theorem zfy {C : Ctx} {ops : Array Oper} {need : Nat -> Nd} (hok : zbu C ops need = true) {x i : Nat} (hi : i < ops.size) (hxi : x < i) : z8n C ops need x i := by
  have hok1 := List.all_eq_true.1 hok i (by simpa using hi)
  have hok2 := List.all_eq_true.1 hok1 x (by simpa using hxi)
  simpa only [z8n, Bool.or_eq_true] using hok2

/-! Two operations in no order that may not change places: both orders. -/
theorem zii {C : Ctx} {e : Operand -> AV} {Y s1 s2 : Store} {op : Op} {v1 v2 : AV} (hn : z1p op = none) (h1 : OpTo C e Y op v1 s1) (h2 : OpTo C e Y op v2 s2) : v1 = v2 /\ s1 = s2 := by
  unfold OpTo at h1 h2
  rw [hn] at h1 h2
  simp only at h1 h2
  rw [h1] at h2
  simpa using h2
theorem z8w {C : Ctx} {ops : Array Oper} {n : Nd} {o : Oper} {K K' : Hist -> Env -> Store -> Prop} {H : Hist} {O : Env} {Y : Store} (hn : z1p o.op = none) (h : z1v C ops n o K H O Y) (h' : z1v C ops n o K' H O Y) :
    z1v C ops n o (fun H O Y => K H O Y /\ K' H O Y) H O Y := by
  have nop : ∀ {P}, OpP C (ev C O) Y o.op P -> False := fun hp => by
    obtain ⟨⟨f, args⟩, hc, _⟩ := hp
    rw [hn] at hc; cases hc
  unfold z1v at *
  split at h
  · rename_i hw
    rw [hw] at h'
    simp only at h'
    rcases h with ⟨v, s, h1, h2, h3⟩ | ⟨_, P, h1, _⟩
    · rcases h' with ⟨v', s', k1, k2, k3⟩ | ⟨_, P, k1, _⟩
      · obtain ⟨rfl, rfl⟩ := zii hn h1 k1
        exact .inl ⟨v, s, h1, h2, h3, k3⟩
      · exact (nop k1).elim
    · exact (nop h1).elim
  · rename_i hw
    rw [hw] at h'
    exact ⟨h, h'⟩
  · exact h.elim
theorem zko {C : Ctx} {ops : Array Oper} {need : Nat -> Nd} {K : Env -> Store -> Prop} {Q : Exit -> Act -> World -> Prop} (hback : z3y ops = true) {n : Nat} (hdst : ∀ o ∈ ops, ∀ d, o.dst = some d -> d < n) {p q : Nat} :
    ∀ (fuel : Nat) (listed : Array Bool) (A B D : List Nat), listed.size = ops.size -> (∀ i, i ∈ A ++ p :: (B ++ q :: D) ↔ i < ops.size /\ listed.getD i true = false) -> (A ++ p :: (B ++ q :: D)).Pairwise (· < ·) -> z5r ops (fun i => listed.getD i false) -> (A ++ p :: (B ++ q :: D)).length <= fuel ->
      (∀ x i, x ∈ A ++ p :: (B ++ q :: D) -> i ∈ A ++ p :: (B ++ q :: D) -> x < i -> (x = p /\ i = q) \/ z8n C ops need x i) -> (∀ y ∈ B, free2 C ops need q y = true) ->
      (∀ y ∈ A ++ (B ++ D), (∃ o, ops[y]? = some o /\ z1p o.op = none) \/ ahead_ (z2a [] ops.toList) p y = true \/ ahead_ (z2a [] ops.toList) q y = true) ->
      ∀ (H : Hist) (O : Env) (Y : Store) (J : Places) (a : Act) (w : World), z1l C ops need K (A ++ p :: (B ++ q :: D)) H O Y -> z1l C ops need K (A ++ q :: p :: (B ++ D)) H O Y -> Rel C J Y w -> EnvR J w O a.tmps -> a.tmps.size = n ->
        (∀ O' Y' J' a' w', K O' Y' -> Step J w J' w' -> Rel C J' Y' w' -> EnvR J' w' O' a'.tmps -> a'.defers = a.defers -> a'.tmps.size = n -> Q .normal a' w') ->
        wpAny C.P .any ops Q fuel listed a w := by
  intro fuel
  induction fuel with
  | zero =>
    intro listed A B D hls hL hpw hdown hlen
    simp at hlen
  | succ fuel ih =>
    intro listed A B D hls hL hpw hdown hlen hok hqB hcall H O Y J a w h h' hR hE hn hQ
    simp only [wpAny]
    refine ⟨fun hready => ?_, fun i hi => ?_⟩
    · exfalso
      cases hl : A ++ p :: (B ++ q :: D) with
      | nil => simp at hl
      | cons i L =>
        rw [hl] at hL hpw
        have := zc9 hback hls hL hpw
        rw [hready] at this
        simp at this
    · obtain ⟨hi1, hi2, hdeps⟩ := za3 hi
      have hin := (hL i).2 ⟨hi1, hi2⟩
      have ho : ops[i]? = some ops[i] := Array.getElem?_eq_getElem hi1
      have hsizei : i < listed.size := by omega
      have hlt : ∀ x ∈ A ++ p :: (B ++ q :: D), x < i -> ¬ (x = p /\ i = q) -> free2 C ops need x i = true := by
        intro x hx hxi hne
        rcases hok x i hx hin hxi with h1 | h1 | h1
        · exact absurd h1 hne
        · have hx2 := (hL x).1 hx
          exact absurd h1 (z6g hdown hdeps (by omega) hx2.2)
        · exact h1
      have hp1 := List.pairwise_append.1 hpw
      have hp2 := List.pairwise_cons.1 hp1.2.1
      have hp3 := List.pairwise_append.1 hp2.2
      have hp4 := List.pairwise_cons.1 hp3.2.1
      have hpq : p < q := hp2.1 q (by simp)
      have hpl := (hL p).1 (by simp)
      have hql := (hL q).1 (by simp)
      have nocall : i ∈ A ++ (B ++ D) -> z1p ops[i].op = none := by
        intro hm
        rcases hcall i hm with ⟨o, h1, h2⟩ | h1 | h1
        · rw [ho] at h1; cases h1; exact h2
        · exact absurd h1 (z6g hdown hdeps (by omega) hpl.2)
        · exact absurd h1 (z6g hdown hdeps (by omega) hql.2)
      have hdst' : ∀ x, ops[i].dst = some x -> x < a.tmps.size := fun x hx => by rw [hn]; exact hdst _ (Array.getElem_mem hi1) x hx
      have fin : ∀ {J' : Places} {a' : Act} {w' : World}, Step J w J' w' -> a'.defers = a.defers -> a'.tmps.size = a.tmps.size -> (∀ (O2 : Env) (Y2 : Store) (J2 : Places) (a2 : Act) (w2 : World), K O2 Y2 -> Step J' w' J2 w2 -> Rel C J2 Y2 w2 -> EnvR J2 w2 O2 a2.tmps -> a2.defers = a'.defers -> a2.tmps.size = n -> Q .normal a2 w2) := by
        intro J' a' w' hst hdf _ O2 Y2 J2 a2 w2 k1 k2 k3 k4 k5 k6
        exact hQ O2 Y2 J2 a2 w2 k1 (hst.trans k2) k3 k4 (k5.trans hdf) k6
      rcases List.mem_append.1 hin with hA | hin2
      · -- ahead of both
        obtain ⟨A1, A2, rfl⟩ := List.append_of_mem hA
        have hnc := nocall (by simp)
        have e1 : (A1 ++ i :: A2) ++ p :: (B ++ q :: D) = A1 ++ i :: (A2 ++ p :: (B ++ q :: D)) := by simp
        have e2 : (A1 ++ i :: A2) ++ q :: p :: (B ++ D) = A1 ++ i :: (A2 ++ q :: p :: (B ++ D)) := by simp
        have e3 : (A1 ++ A2) ++ p :: (B ++ q :: D) = A1 ++ (A2 ++ p :: (B ++ q :: D)) := by simp
        have e4 : (A1 ++ A2) ++ q :: p :: (B ++ D) = A1 ++ (A2 ++ q :: p :: (B ++ D)) := by simp
        rw [e1] at h hL hpw hlen
        rw [e2] at h'
        have hx : ∀ x ∈ A1, free2 C ops need x i = true := fun x hx => hlt x (by simp [hx]) ((List.pairwise_append.1 hpw).2.2 x hx i (by simp)) (fun e => by
          have := hp1.2.2 i (by simp) p (by simp); omega)
        have b1 := z2e (C := C) (K := K) A1 hx H O Y h
        have b2 := z2e (C := C) (K := K) A1 hx H O Y h'
        simp only [z1l, ho] at b1 b2
        refine z3e ho hdst' hR hE (z8w hnc b1 b2) fun H' O' Y' J' a' w' hK hst hR' hE' hdf hsz => ?_
        refine ih (listed.setIfInBounds i true) (A1 ++ A2) B D (by simpa using hls) (by rw [e3]; exact z3h hsizei hL (z1d hpw)) (by rw [e3]; exact z3m hpw) (z3f hsizei hdown hdeps) (by rw [e3]; simp at hlen ⊢; omega)
          (fun x j hx hj => by rw [e3] at hx hj; exact hok x j (by rw [e1]; exact ((z1d hpw x).1 hx).1) (by rw [e1]; exact ((z1d hpw j).1 hj).1)) hqB (fun y hy => hcall y (by
            simp only [List.mem_append, List.mem_cons] at hy ⊢
            rcases hy with (hy | hy) | hy
            · exact .inl (.inl hy)
            · exact .inl (.inr (.inr hy))
            · exact .inr hy)) H' O' Y' J' a' w' (by rw [e3]; exact hK.1) (by rw [e4]; exact hK.2) hR' hE' (hsz.trans hn) (fin hst hdf hsz)
      · rcases List.mem_cons.1 hin2 with rfl | hin3
        · -- the first one of the two: from here on the text's order
          have hx : ∀ x ∈ A, free2 C ops need x i = true := fun x hx => hlt x (by simp [hx]) (hp1.2.2 x hx i (by simp)) (fun e => by omega)
          have b1 := z2e (C := C) (K := K) A hx H O Y h
          simp only [z1l, ho] at b1
          refine z3e ho hdst' hR hE b1 fun H' O' Y' J' a' w' hK hst hR' hE' hdf hsz => ?_
          refine z6v hback hdst fuel (listed.setIfInBounds i true) (A ++ (B ++ q :: D)) (by simpa using hls) (z3h hsizei hL (z1d hpw)) (z3m hpw) (z3f hsizei hdown hdeps) (by simp at hlen ⊢; omega)
            (fun x j hx hj hxj => (hok x j ((z1d hpw x).1 hx).1 ((z1d hpw j).1 hj).1 hxj).resolve_left (fun e => ((z1d hpw x).1 hx).2 e.1)) H' O' Y' J' a' w' hK hR' hE' (hsz.trans hn) (fin hst hdf hsz)
        · rcases List.mem_append.1 hin3 with hB | hin4
          · -- between the two
            obtain ⟨B1, B2, rfl⟩ := List.append_of_mem hB
            have hnc := nocall (by simp)
            have e1 : A ++ p :: ((B1 ++ i :: B2) ++ q :: D) = (A ++ p :: B1) ++ i :: (B2 ++ q :: D) := by simp
            have e2 : A ++ q :: p :: ((B1 ++ i :: B2) ++ D) = (A ++ q :: p :: B1) ++ i :: (B2 ++ D) := by simp
            have e3 : A ++ p :: ((B1 ++ B2) ++ q :: D) = (A ++ p :: B1) ++ (B2 ++ q :: D) := by simp
            have e4 : A ++ q :: p :: ((B1 ++ B2) ++ D) = (A ++ q :: p :: B1) ++ (B2 ++ D) := by simp
            have hiq : i < q := hp3.2.2 i (by simp) q (by simp)
            rw [e1] at h hL hpw hlen
            rw [e2] at h'
            have hx : ∀ x ∈ A ++ p :: B1, free2 C ops need x i = true := fun x hx => hlt x (by
              rw [e1]; exact List.mem_append_left _ hx) ((List.pairwise_append.1 hpw).2.2 x hx i (by simp)) (fun e => by omega)
            have hx' : ∀ x ∈ A ++ q :: p :: B1, free2 C ops need x i = true := fun x hx2 => by
              simp only [List.mem_append, List.mem_cons] at hx2
              rcases hx2 with h1 | rfl | h1 | h1
              · exact hx x (by simp [h1])
              · exact hqB i (by simp)
              · exact hx x (by simp [h1])
              · exact hx x (by simp [h1])
            have b1 := z2e (C := C) (K := K) (A ++ p :: B1) hx H O Y h
            have b2 := z2e (C := C) (K := K) (A ++ q :: p :: B1) hx' H O Y h'
            simp only [z1l, ho] at b1 b2
            refine z3e ho hdst' hR hE (z8w hnc b1 b2) fun H' O' Y' J' a' w' hK hst hR' hE' hdf hsz => ?_
            refine ih (listed.setIfInBounds i true) A (B1 ++ B2) D (by simpa using hls) (by rw [e3]; exact z3h hsizei hL (z1d hpw)) (by rw [e3]; exact z3m hpw) (z3f hsizei hdown hdeps) (by rw [e3]; simp at hlen ⊢; omega)
              (fun x j hx hj => by rw [e3] at hx hj; exact hok x j (by rw [e1]; exact ((z1d hpw x).1 hx).1) (by rw [e1]; exact ((z1d hpw j).1 hj).1)) (fun y hy => hqB y (by
                simp only [List.mem_append, List.mem_cons] at hy ⊢
                rcases hy with hy | hy
                · exact .inl hy
                · exact .inr (.inr hy))) (fun y hy => hcall y (by
                simp only [List.mem_append, List.mem_cons] at hy ⊢
                rcases hy with hy | (hy | hy) | hy
                · exact .inl hy
                · exact .inr (.inl (.inl hy))
                · exact .inr (.inl (.inr (.inr hy)))
                · exact .inr (.inr hy))) H' O' Y' J' a' w' (by rw [e3]; exact hK.1) (by rw [e4]; exact hK.2) hR' hE' (hsz.trans hn) (fin hst hdf hsz)
          · rcases List.mem_cons.1 hin4 with rfl | hD
            · -- the second one of the two: from here on the other order, which is the text's for what is left
              have e3 : A ++ p :: (B ++ i :: D) = (A ++ p :: B) ++ i :: D := by simp
              have e5 : A ++ p :: (B ++ D) = (A ++ p :: B) ++ D := by simp
              have hx : ∀ x ∈ A, free2 C ops need x i = true := fun x hx => hlt x (by simp [hx]) (hp1.2.2 x hx i (by simp)) (fun e => by
                have := hp1.2.2 x hx p (by simp); omega)
              have b1 := z2e (C := C) (K := K) A hx H O Y h'
              simp only [z1l, ho] at b1
              rw [e3] at hL hpw hlen
              refine z3e ho hdst' hR hE b1 fun H' O' Y' J' a' w' hK hst hR' hE' hdf hsz => ?_
              refine z6v hback hdst fuel (listed.setIfInBounds i true) ((A ++ p :: B) ++ D) (by simpa using hls) (z3h hsizei hL (z1d hpw)) (z3m hpw) (z3f hsizei hdown hdeps) (by simp at hlen ⊢; omega)
                (fun x j hx hj hxj => (hok x j (by rw [e3]; exact ((z1d hpw x).1 hx).1) (by rw [e3]; exact ((z1d hpw j).1 hj).1) hxj).resolve_left (fun e => ((z1d hpw j).1 hj).2 e.2)) H' O' Y' J' a' w' (by rw [<- e5]; exact hK) hR' hE' (hsz.trans hn) (fin hst hdf hsz)
            · -- behind both
              obtain ⟨D1, D2, rfl⟩ := List.append_of_mem hD
              have hnc := nocall (by simp)
              have e1 : A ++ p :: (B ++ q :: (D1 ++ i :: D2)) = (A ++ p :: (B ++ q :: D1)) ++ i :: D2 := by simp
              have e2 : A ++ q :: p :: (B ++ (D1 ++ i :: D2)) = (A ++ q :: p :: (B ++ D1)) ++ i :: D2 := by simp
              have e3 : A ++ p :: (B ++ q :: (D1 ++ D2)) = (A ++ p :: (B ++ q :: D1)) ++ D2 := by simp
              have e4 : A ++ q :: p :: (B ++ (D1 ++ D2)) = (A ++ q :: p :: (B ++ D1)) ++ D2 := by simp
              have hqi : q < i := hp4.1 i (by simp)
              rw [e1] at h hL hpw hlen
              rw [e2] at h'
              have hx : ∀ x ∈ A ++ p :: (B ++ q :: D1), free2 C ops need x i = true := fun x hx => hlt x (by
                rw [e1]; exact List.mem_append_left _ hx) ((List.pairwise_append.1 hpw).2.2 x hx i (by simp)) (fun e => by omega)
              have hx' : ∀ x ∈ A ++ q :: p :: (B ++ D1), free2 C ops need x i = true := fun x hx2 => hx x (by
                simp only [List.mem_append, List.mem_cons] at hx2 ⊢
                rcases hx2 with h1 | h1 | h1 | h1 | h1
                · exact .inl h1
                · exact .inr (.inr (.inr (.inl h1)))
                · exact .inr (.inl h1)
                · exact .inr (.inr (.inl h1))
                · exact .inr (.inr (.inr (.inr h1))))
              have b1 := z2e (C := C) (K := K) (A ++ p :: (B ++ q :: D1)) hx H O Y h
              have b2 := z2e (C := C) (K := K) (A ++ q :: p :: (B ++ D1)) hx' H O Y h'
              simp only [z1l, ho] at b1 b2
              refine z3e ho hdst' hR hE (z8w hnc b1 b2) fun H' O' Y' J' a' w' hK hst hR' hE' hdf hsz => ?_
              refine ih (listed.setIfInBounds i true) A B (D1 ++ D2) (by simpa using hls) (by rw [e3]; exact z3h hsizei hL (z1d hpw)) (by rw [e3]; exact z3m hpw) (z3f hsizei hdown hdeps) (by rw [e3]; simp at hlen ⊢; omega)
                (fun x j hx hj => by rw [e3] at hx hj; exact hok x j (by rw [e1]; exact ((z1d hpw x).1 hx).1) (by rw [e1]; exact ((z1d hpw j).1 hj).1)) hqB (fun y hy => hcall y (by
                  simp only [List.mem_append, List.mem_cons] at hy ⊢
                  rcases hy with hy | hy | (hy | hy)
                  · exact .inl hy
                  · exact .inr (.inl hy)
                  · exact .inr (.inr (.inl hy))
                  · exact .inr (.inr (.inr (.inr hy))))) H' O' Y' J' a' w' (by rw [e3]; exact hK.1) (by rw [e4]; exact hK.2) hR' hE' (hsz.trans hn) (fin hst hdf hsz)
end Am
end Go.Proofs.YtjgljhbmljgaeaaDoor
end
section
/- The abstract machine: two operations in no order of which one makes an object: both orders, with a common run of what stands ahead. -/
namespace Go.Proofs.YtjgljhbmljgaeaaDoor
namespace Am
def z1t (C : Ctx) (ops : Array Oper) (need : Nat -> Nd) (K : Hist -> Env -> Store -> Prop) : List Nat -> Hist -> Env -> Store -> Prop
  | [], H, O, Y => K H O Y
  | i :: rest, H, O, Y => match ops[i]? with
    | none => False
    | some o => z1v C ops (need i) o (z1t C ops need K rest) H O Y
section
variable {C : Ctx} {ops : Array Oper} {need : Nat -> Nd}
theorem z8s {K K' : Hist -> Env -> Store -> Prop} (hk : ∀ H O Y, K H O Y -> K' H O Y) : ∀ (L : List Nat) (H : Hist) (O : Env) (Y : Store), z1t C ops need K L H O Y -> z1t C ops need K' L H O Y
  | [], H, O, Y, h => hk _ _ _ h
  | i :: L, H, O, Y, h => by
    simp only [z1t] at h ⊢
    cases ho : ops[i]? with
    | none => rw [ho] at h; exact h
    | some o => rw [ho] at h; exact z5l (z8s hk L) h
theorem zci {K : Env -> Store -> Prop} (L : List Nat) : ∀ (A : List Nat) (H : Hist) (O : Env) (Y : Store), z1t C ops need (z1l C ops need K L) A H O Y -> z1l C ops need K (A ++ L) H O Y
  | [], H, O, Y, h => h
  | i :: A, H, O, Y, h => by
    simp only [z1t] at h
    simp only [List.cons_append, z1l]
    cases ho : ops[i]? with
    | none => rw [ho] at h; exact h
    | some o => rw [ho] at h; exact z5l (zci L A) h
theorem zcj (K : Hist -> Env -> Store -> Prop) (B : List Nat) : ∀ (A : List Nat) (H : Hist) (O : Env) (Y : Store), z1t C ops need (z1t C ops need K B) A H O Y -> z1t C ops need K (A ++ B) H O Y
  | [], H, O, Y, h => h
  | i :: A, H, O, Y, h => by
    simp only [z1t] at h
    simp only [List.cons_append, z1t]
    cases ho : ops[i]? with
    | none => rw [ho] at h; exact h
    | some o => rw [ho] at h; exact z5l (zcj K B A) h
theorem z9m {K : Hist -> Env -> Store -> Prop} {i : Nat} {post : List Nat} : ∀ (pre : List Nat), (∀ x ∈ pre, free2 C ops need x i = true) -> ∀ H O Y, z1t C ops need K (pre ++ i :: post) H O Y ->
    z1t C ops need K (i :: (pre ++ post)) H O Y
  | [], _, H, O, Y, h => h
  | x :: pre, hf, H, O, Y, h => by
    have hx := hf x (by simp)
    have ih := z9m (K := K) (post := post) pre (fun y hy => hf y (by simp [hy]))
    unfold free2 at hx
    cases hox : ops[x]? with
    | none => simp [hox] at hx
    | some ox =>
      cases hoi : ops[i]? with
      | none => simp [hox, hoi] at hx
      | some oi =>
        simp only [hox, hoi, Bool.and_eq_true] at hx
        simp only [List.cons_append, z1t, hox, hoi] at h ⊢
        have h' := z5l (fun H O Y hh => ih H O Y hh) h
        have h'' : z1v C ops (need x) ox (z1v C ops (need i) oi (z1t C ops need K (pre ++ post))) H O Y := z5l (fun H O Y hh => by simpa only [z1t, hoi] using hh) h'
        exact zhg hx.1 hx.2 h''
end
def z5s (C : Ctx) (ops : Array Oper) (need : Nat -> Nd) (K : Env -> Store -> Prop) (p q : Nat) (B D : List Nat) (H : Hist) (O : Env) (Y : Store) : Prop :=
  z1l C ops need K (p :: (B ++ q :: D)) H O Y /\ z1l C ops need K (q :: p :: (B ++ D)) H O Y
theorem zkp {C : Ctx} {ops : Array Oper} {need : Nat -> Nd} {K : Env -> Store -> Prop} {Q : Exit -> Act -> World -> Prop} (hback : z3y ops = true) {n : Nat} (hdst : ∀ o ∈ ops, ∀ d, o.dst = some d -> d < n) {p q : Nat} :
    ∀ (fuel : Nat) (listed : Array Bool) (A B D : List Nat), listed.size = ops.size -> (∀ i, i ∈ A ++ p :: (B ++ q :: D) ↔ i < ops.size /\ listed.getD i true = false) -> (A ++ p :: (B ++ q :: D)).Pairwise (· < ·) -> z5r ops (fun i => listed.getD i false) -> (A ++ p :: (B ++ q :: D)).length <= fuel ->
      (∀ x i, x ∈ A ++ p :: (B ++ q :: D) -> i ∈ A ++ p :: (B ++ q :: D) -> x < i -> (x = p /\ i = q) \/ z8n C ops need x i) -> (∀ y ∈ B, free2 C ops need q y = true) ->
      (∀ y ∈ B ++ D, (∃ o, ops[y]? = some o /\ z1p o.op = none) \/ ahead_ (z2a [] ops.toList) p y = true \/ ahead_ (z2a [] ops.toList) q y = true) ->
      ∀ (H : Hist) (O : Env) (Y : Store) (J : Places) (a : Act) (w : World), z1t C ops need (z5s C ops need K p q B D) A H O Y -> Rel C J Y w -> EnvR J w O a.tmps -> a.tmps.size = n ->
        (∀ O' Y' J' a' w', K O' Y' -> Step J w J' w' -> Rel C J' Y' w' -> EnvR J' w' O' a'.tmps -> a'.defers = a.defers -> a'.tmps.size = n -> Q .normal a' w') ->
        wpAny C.P .any ops Q fuel listed a w := by
  intro fuel
  induction fuel with
  | zero =>
    intro listed A B D hls hL hpw hdown hlen
    simp at hlen
  | succ fuel ih =>
    intro listed A B D hls hL hpw hdown hlen hok hqB hcall H O Y J a w hJ hR hE hn hQ
    simp only [wpAny]
    refine ⟨fun hready => ?_, fun i hi => ?_⟩
    · exfalso
      cases hl : A ++ p :: (B ++ q :: D) with
      | nil => simp at hl
      | cons i L =>
        rw [hl] at hL hpw
        have := zc9 hback hls hL hpw
        rw [hready] at this
        simp at this
    · obtain ⟨hi1, hi2, hdeps⟩ := za3 hi
      have hin := (hL i).2 ⟨hi1, hi2⟩
      have ho : ops[i]? = some ops[i] := Array.getElem?_eq_getElem hi1
      have hsizei : i < listed.size := by omega
      have hlt : ∀ x ∈ A ++ p :: (B ++ q :: D), x < i -> ¬ (x = p /\ i = q) -> free2 C ops need x i = true := by
        intro x hx hxi hne
        rcases hok x i hx hin hxi with h1 | h1 | h1
        · exact absurd h1 hne
        · have hx2 := (hL x).1 hx
          exact absurd h1 (z6g hdown hdeps (by omega) hx2.2)
        · exact h1
      have hp1 := List.pairwise_append.1 hpw
      have hp2 := List.pairwise_cons.1 hp1.2.1
      have hp3 := List.pairwise_append.1 hp2.2
      have hp4 := List.pairwise_cons.1 hp3.2.1
      have hpq : p < q := hp2.1 q (by simp)
      have hpl := (hL p).1 (by simp)
      have hql := (hL q).1 (by simp)
      have nocall : i ∈ B ++ D -> z1p ops[i].op = none := by
        intro hm
        rcases hcall i hm with ⟨o, h1, h2⟩ | h1 | h1
        · rw [ho] at h1; cases h1; exact h2
        · exact absurd h1 (z6g hdown hdeps (by omega) hpl.2)
        · exact absurd h1 (z6g hdown hdeps (by omega) hql.2)
      have hdst' : ∀ x, ops[i].dst = some x -> x < a.tmps.size := fun x hx => by rw [hn]; exact hdst _ (Array.getElem_mem hi1) x hx
      have fin : ∀ {J' : Places} {a' : Act} {w' : World}, Step J w J' w' -> a'.defers = a.defers -> a'.tmps.size = a.tmps.size -> (∀ (O2 : Env) (Y2 : Store) (J2 : Places) (a2 : Act) (w2 : World), K O2 Y2 -> Step J' w' J2 w2 -> Rel C J2 Y2 w2 -> EnvR J2 w2 O2 a2.tmps -> a2.defers = a'.defers -> a2.tmps.size = n -> Q .normal a2 w2) := by
        intro J' a' w' hst hdf _ O2 Y2 J2 a2 w2 k1 k2 k3 k4 k5 k6
        exact hQ O2 Y2 J2 a2 w2 k1 (hst.trans k2) k3 k4 (k5.trans hdf) k6
      rcases List.mem_append.1 hin with hA | hin2
      · -- ahead of both
        obtain ⟨A1, A2, rfl⟩ := List.append_of_mem hA
        have e1 : (A1 ++ i :: A2) ++ p :: (B ++ q :: D) = A1 ++ i :: (A2 ++ p :: (B ++ q :: D)) := by simp
        have e3 : (A1 ++ A2) ++ p :: (B ++ q :: D) = A1 ++ (A2 ++ p :: (B ++ q :: D)) := by simp
        rw [e1] at hL hpw hlen
        have hx : ∀ x ∈ A1, free2 C ops need x i = true := fun x hx => hlt x (by simp [hx]) ((List.pairwise_append.1 hpw).2.2 x hx i (by simp)) (fun e => by
          have := hp1.2.2 i (by simp) p (by simp); omega)
        have b1 := z9m A1 hx H O Y hJ
        simp only [z1t, ho] at b1
        refine z3e ho hdst' hR hE b1 fun H' O' Y' J' a' w' hK hst hR' hE' hdf hsz => ?_
        refine ih (listed.setIfInBounds i true) (A1 ++ A2) B D (by simpa using hls) (by rw [e3]; exact z3h hsizei hL (z1d hpw)) (by rw [e3]; exact z3m hpw) (z3f hsizei hdown hdeps) (by rw [e3]; simp at hlen ⊢; omega)
          (fun x j hx hj => by rw [e3] at hx hj; exact hok x j (by rw [e1]; exact ((z1d hpw x).1 hx).1) (by rw [e1]; exact ((z1d hpw j).1 hj).1)) hqB hcall H' O' Y' J' a' w' hK hR' hE' (hsz.trans hn) (fin hst hdf hsz)
      · rcases List.mem_cons.1 hin2 with rfl | hin3
        · -- the first one of the two: from here on the text's order
          have hx : ∀ x ∈ A, free2 C ops need x i = true := fun x hx => hlt x (by simp [hx]) (hp1.2.2 x hx i (by simp)) (fun e => by omega)
          have b1 := z2e (C := C) (K := K) A hx H O Y (zci _ A H O Y (z8s (fun _ _ _ k => k.1) A H O Y hJ))
          simp only [z1l, ho] at b1
          refine z3e ho hdst' hR hE b1 fun H' O' Y' J' a' w' hK hst hR' hE' hdf hsz => ?_
          refine z6v hback hdst fuel (listed.setIfInBounds i true) (A ++ (B ++ q :: D)) (by simpa using hls) (z3h hsizei hL (z1d hpw)) (z3m hpw) (z3f hsizei hdown hdeps) (by simp at hlen ⊢; omega)
            (fun x j hx hj hxj => (hok x j ((z1d hpw x).1 hx).1 ((z1d hpw j).1 hj).1 hxj).resolve_left (fun e => ((z1d hpw x).1 hx).2 e.1)) H' O' Y' J' a' w' hK hR' hE' (hsz.trans hn) (fin hst hdf hsz)
        · rcases List.mem_append.1 hin3 with hB | hin4
          · -- between the two
            obtain ⟨B1, B2, rfl⟩ := List.append_of_mem hB
            have hnc := nocall (by simp)
            have e1 : A ++ p :: ((B1 ++ i :: B2) ++ q :: D) = (A ++ p :: B1) ++ i :: (B2 ++ q :: D) := by simp
            have e2 : A ++ q :: p :: ((B1 ++ i :: B2) ++ D) = (A ++ q :: p :: B1) ++ i :: (B2 ++ D) := by simp
            have e3 : A ++ p :: ((B1 ++ B2) ++ q :: D) = (A ++ p :: B1) ++ (B2 ++ q :: D) := by simp
            have e4 : A ++ q :: p :: ((B1 ++ B2) ++ D) = (A ++ q :: p :: B1) ++ (B2 ++ D) := by simp
            have hiq : i < q := hp3.2.2 i (by simp) q (by simp)
            rw [e1] at hL hpw hlen
            have hx : ∀ x ∈ A ++ p :: B1, free2 C ops need x i = true := fun x hx => hlt x (by
              rw [e1]; exact List.mem_append_left _ hx) ((List.pairwise_append.1 hpw).2.2 x hx i (by simp)) (fun e => by omega)
            have hx' : ∀ x ∈ A ++ q :: p :: B1, free2 C ops need x i = true := fun x hx2 => by
              simp only [List.mem_append, List.mem_cons] at hx2
              rcases hx2 with h1 | rfl | h1 | h1
              · exact hx x (by simp [h1])
              · exact hqB i (by simp)
              · exact hx x (by simp [h1])
              · exact hx x (by simp [h1])
            have hj : ∀ H O Y, z5s C ops need K p q (B1 ++ i :: B2) D H O Y -> z1t C ops need (z5s C ops need K p q (B1 ++ B2) D) [i] H O Y := fun H O Y k => by
              have k1 := k.1
              have k2 := k.2
              rw [show p :: ((B1 ++ i :: B2) ++ q :: D) = (p :: B1) ++ i :: (B2 ++ q :: D) by simp] at k1
              rw [show q :: p :: ((B1 ++ i :: B2) ++ D) = (q :: p :: B1) ++ i :: (B2 ++ D) by simp] at k2
              have b1 := z2e (C := C) (K := K) (p :: B1) (fun x h => hx x (List.mem_append_right _ h)) H O Y k1
              have b2 := z2e (C := C) (K := K) (q :: p :: B1) (fun x h => hx' x (List.mem_append_right _ h)) H O Y k2
              simp only [z1l, ho] at b1 b2
              simp only [z1t, ho]
              refine z5l (fun H O Y k => ?_) (z8w hnc b1 b2)
              unfold z5s
              simpa using k
            have b1 := z9m A (fun x h => hx x (List.mem_append_left _ h)) H O Y (zcj _ [i] A H O Y (z8s hj A H O Y hJ))
            rw [List.append_nil] at b1
            simp only [z1t, ho] at b1
            refine z3e ho hdst' hR hE b1 fun H' O' Y' J' a' w' hK hst hR' hE' hdf hsz => ?_
            refine ih (listed.setIfInBounds i true) A (B1 ++ B2) D (by simpa using hls) (by rw [e3]; exact z3h hsizei hL (z1d hpw)) (by rw [e3]; exact z3m hpw) (z3f hsizei hdown hdeps) (by rw [e3]; simp at hlen ⊢; omega)
              (fun x j hx hj => by rw [e3] at hx hj; exact hok x j (by rw [e1]; exact ((z1d hpw x).1 hx).1) (by rw [e1]; exact ((z1d hpw j).1 hj).1)) (fun y hy => hqB y (by
                simp only [List.mem_append, List.mem_cons] at hy ⊢
                rcases hy with hy | hy
                · exact .inl hy
                · exact .inr (.inr hy))) (fun y hy => hcall y (by
                simp only [List.mem_append, List.mem_cons] at hy ⊢
                rcases hy with (hy | hy) | hy
                · exact .inl (.inl hy)
                · exact .inl (.inr (.inr hy))
                · exact .inr hy)) H' O' Y' J' a' w' hK hR' hE' (hsz.trans hn) (fin hst hdf hsz)
          · rcases List.mem_cons.1 hin4 with rfl | hD
            · -- the second one of the two: from here on the other order, which is the text's for what is left
              have e3 : A ++ p :: (B ++ i :: D) = (A ++ p :: B) ++ i :: D := by simp
              have e5 : A ++ p :: (B ++ D) = (A ++ p :: B) ++ D := by simp
              have hx : ∀ x ∈ A, free2 C ops need x i = true := fun x hx => hlt x (by simp [hx]) (hp1.2.2 x hx i (by simp)) (fun e => by
                have := hp1.2.2 x hx p (by simp); omega)
              have b1 := z2e (C := C) (K := K) A hx H O Y (zci _ A H O Y (z8s (fun _ _ _ k => k.2) A H O Y hJ))
              simp only [z1l, ho] at b1
              rw [e3] at hL hpw hlen
              refine z3e ho hdst' hR hE b1 fun H' O' Y' J' a' w' hK hst hR' hE' hdf hsz => ?_
              refine z6v hback hdst fuel (listed.setIfInBounds i true) ((A ++ p :: B) ++ D) (by simpa using hls) (z3h hsizei hL (z1d hpw)) (z3m hpw) (z3f hsizei hdown hdeps) (by simp at hlen ⊢; omega)
                (fun x j hx hj hxj => (hok x j (by rw [e3]; exact ((z1d hpw x).1 hx).1) (by rw [e3]; exact ((z1d hpw j).1 hj).1) hxj).resolve_left (fun e => ((z1d hpw j).1 hj).2 e.2)) H' O' Y' J' a' w' (by rw [<- e5]; exact hK) hR' hE' (hsz.trans hn) (fin hst hdf hsz)
            · -- behind both
              obtain ⟨D1, D2, rfl⟩ := List.append_of_mem hD
              have hnc := nocall (by simp)
              have e1 : A ++ p :: (B ++ q :: (D1 ++ i :: D2)) = (A ++ p :: (B ++ q :: D1)) ++ i :: D2 := by simp
              have e2 : A ++ q :: p :: (B ++ (D1 ++ i :: D2)) = (A ++ q :: p :: (B ++ D1)) ++ i :: D2 := by simp
              have e3 : A ++ p :: (B ++ q :: (D1 ++ D2)) = (A ++ p :: (B ++ q :: D1)) ++ D2 := by simp
              have e4 : A ++ q :: p :: (B ++ (D1 ++ D2)) = (A ++ q :: p :: (B ++ D1)) ++ D2 := by simp
              have hqi : q < i := hp4.1 i (by simp)
              rw [e1] at hL hpw hlen
              have hx : ∀ x ∈ A ++ p :: (B ++ q :: D1), free2 C ops need x i = true := fun x hx => hlt x (by
                rw [e1]; exact List.mem_append_left _ hx) ((List.pairwise_append.1 hpw).2.2 x hx i (by simp)) (fun e => by omega)
              have hx' : ∀ x ∈ A ++ q :: p :: (B ++ D1), free2 C ops need x i = true := fun x hx2 => hx x (by
                simp only [List.mem_append, List.mem_cons] at hx2 ⊢
                rcases hx2 with h1 | h1 | h1 | h1 | h1
                · exact .inl h1
                · exact .inr (.inr (.inr (.inl h1)))
                · exact .inr (.inl h1)
                · exact .inr (.inr (.inl h1))
                · exact .inr (.inr (.inr (.inr h1))))
              have hj : ∀ H O Y, z5s C ops need K p q B (D1 ++ i :: D2) H O Y -> z1t C ops need (z5s C ops need K p q B (D1 ++ D2)) [i] H O Y := fun H O Y k => by
                have k1 := k.1
                have k2 := k.2
                rw [show p :: (B ++ q :: (D1 ++ i :: D2)) = (p :: (B ++ q :: D1)) ++ i :: D2 by simp] at k1
                rw [show q :: p :: (B ++ (D1 ++ i :: D2)) = (q :: p :: (B ++ D1)) ++ i :: D2 by simp] at k2
                have b1 := z2e (C := C) (K := K) (p :: (B ++ q :: D1)) (fun x h => hx x (List.mem_append_right _ h)) H O Y k1
                have b2 := z2e (C := C) (K := K) (q :: p :: (B ++ D1)) (fun x h => hx' x (List.mem_append_right _ h)) H O Y k2
                simp only [z1l, ho] at b1 b2
                simp only [z1t, ho]
                refine z5l (fun H O Y k => ?_) (z8w hnc b1 b2)
                unfold z5s
                simpa using k
              have b1 := z9m A (fun x h => hx x (List.mem_append_left _ h)) H O Y (zcj _ [i] A H O Y (z8s hj A H O Y hJ))
              rw [List.append_nil] at b1
              simp only [z1t, ho] at b1
              refine z3e ho hdst' hR hE b1 fun H' O' Y' J' a' w' hK hst hR' hE' hdf hsz => ?_
              refine ih (listed.setIfInBounds i true) A B (D1 ++ D2) (by simpa using hls) (by rw [e3]; exact z3h hsizei hL (z1d hpw)) (by rw [e3]; exact z3m hpw) (z3f hsizei hdown hdeps) (by rw [e3]; simp at hlen ⊢; omega)
                (fun x j hx hj => by rw [e3] at hx hj; exact hok x j (by rw [e1]; exact ((z1d hpw x).1 hx).1) (by rw [e1]; exact ((z1d hpw j).1 hj).1)) hqB (fun y hy => hcall y (by
                  simp only [List.mem_append, List.mem_cons] at hy ⊢
                  rcases hy with hy | (hy | hy)
                  · exact .inl hy
                  · exact .inr (.inl hy)
                  · exact .inr (.inr (.inr hy)))) H' O' Y' J' a' w' hK hR' hE' (hsz.trans hn) (fin hst hdf hsz)
end Am
end Go.Proofs.YtjgljhbmljgaeaaDoor
end
section
/- THE ABSTRACT MACHINE, part 14: its own code, with all that types say written out; that a Go function's code is turned into it; what it says of the model's run. -/
namespace Go.Proofs.YtjgljhbmljgaeaaDoor
namespace Am

/-- Operands. -/
inductive AX where
  | t (n : Nat)
  | v (a : AV)
  deriving Inhabited
def AX.ev (O : Env) : AX -> AV
  | .t n => O n
  | .v a => a
/-- How values other than numbers and texts are compared. -/
inductive BK where
  | none
  | bool
  | ptr
  | slc
  | fn
  | agg (l : List LK)
inductive CK where
  | int (k : IntKind)
  | strId
  | bytes
  | str
inductive SK where
  | str
  | sl (sz : Nat)
  | arr (n sz : Nat)
inductive AOp where
  | mv (x : AX)
  | pick (c a b : AX)
  | alloc (z : List AV)
  | allB
  | box (x : AX)
  | build (z : List AV) (ps : List (Nat × Nat × AX))
  | lit (sz : Nat) (xs : List AX)
  | load (ag : Bool) (n : Nat) (x : AX)
  | store (n : Nat) (a x : AX)
  | nilc (x : AX)
  | bin (op : BinOp) (bk : BK) (x y : AX)
  | un (op : UnOp) (x : AX)
  | conv (c : CK) (x : AX)
  | mkfn (f : FuncId) (caps : List AX)
  | make (sz : Nat) (z : List AV) (l c : AX)
  | slice (k : SK) (x : AX) (lo hi mx : Option AX)
  | fa (k : Nat) (x : AX)
  | fld (ag : Bool) (n off : Nat) (x : AX)
  | iaArr (n sz : Nat) (x i : AX)
  | iaSl (sz : Nat) (x i : AX)
  | ixArr (n : Nat) (ag : Bool) (sz : Nat) (x i : AX)
  | ixStr (x i : AX)
  | ext (i : Nat) (x : AX)
  | lenStr (x : AX)
  | lenSl (x : AX)
  | lenArr (n : Nat)
  | app (sz : Nat) (s x : AX)
  | appB (s x : AX)
  | copy (sz : Nat) (d s : AX)
  | clear (z : List AV) (x : AX)
  | minmax (mx : Bool) (x y : AX)
  | call (f : AX) (xs : List AX)
  | stuck

def z2l (ag : Bool) (n : Nat) (Y : Store) : AV -> Option AV
  | .ptr r i off => match Y[r]? with | some (some o) => (o[i]?).bind fun cs => z2w cs off n ag | _ => none
  | .vp cs => z2w cs 0 n ag
  | _ => none
def z3q (n : Nat) (Y : Store) (p v : AV) : Option Store :=
  (cellsOf v).bind fun vs => if vs.length = n then
    (match p with
     | .ptr r i off => match Y[r]? with | some (some o) => (o[i]?).bind fun cs => if off + vs.length <= cs.length then some (Y.set r (some (o.set i (z17 cs off vs)))) else none | _ => none
     | _ => none) else none
def z15 (cells : List AV) : List (Nat × Nat × AV) -> Option (List AV)
  | [] => some cells
  | p :: rest => (cellsOf p.2.2).bind fun vs => if vs.length = p.2.1 /\ p.1 + p.2.1 <= cells.length then z15 (z17 cells p.1 vs) rest else none
def z2z (sz : Nat) : List AV -> Option (List (List AV))
  | [] => some []
  | v :: l => (cellsOf v).bind fun vs => if vs.length = sz then (z2z sz l).map (vs :: ·) else none
def z3p (sz : Nat) (z : List AV) (Y : Store) (l c : AV) : Option (AV × Store) :=
  match l, c with
  | .int _ n, .int _ m => if 0 <= n /\ n <= m /\ m <= 4294967296 then some (.sl Y.length 0 n.toNat (some m.toNat) sz, Y ++ [some (List.replicate m.toNat z)]) else none
  | _, _ => none
def z30 (k : SK) (Y : Store) (x : AV) (lo hi mx : Option AV) : Option AV :=
  match k, x with
  | .str, .str s => z9e s lo hi mx
  | .sl _, .nilsl => (bnd hi 0).bind fun h => (bnd lo 0).bind fun l => (bnd mx 0).bind fun m => if h = 0 /\ l = 0 /\ m = 0 /\ (mx.isSome = true -> hi.isSome = true) then some .nilsl else none
  | .sl sz, .vsl esz es ex => if sz = esz then z9f esz es ex lo hi mx else none
  | .sl sz, .sl r off len lim esz => if sz = esz then z9d 0 r off len lim esz lo hi mx else none
  | .sl sz, .asl r i off len cap esz => if sz = esz then z68 r i off len cap esz lo hi mx else none
  | .arr n sz, .ptr r i off => z68 r i off n n sz lo hi mx
  | _, _ => none
def rFa (k : Nat) : AV -> Option AV
  | .ptr r i off => some (.ptr r i (off + k))
  | .vp cs => if k <= cs.length then some (.vp (cs.drop k)) else none
  | _ => none
def rFld (ag : Bool) (n off : Nat) : AV -> Option AV
  | .agg cs => z2w cs off n ag
  | _ => none
def z3n (n : Nat) (ag : Bool) (sz : Nat) (x ix : AV) : Option AV :=
  match x, ix with
  | .agg cs, .int _ i => if 0 <= i /\ i < (n : Int) then z2w cs (i.toNat * sz) sz ag else none
  | _, _ => none
def z3o (x ix : AV) : Option AV :=
  match x, ix with
  | .str s, .int _ i => if 0 <= i then (s[i.toNat]?).map fun b => .int .u8 b.toNat else none
  | _, _ => none
def z1k : AV -> Option AV
  | .nilsl => some (.int .i64 0)
  | .vsl _ es _ => some (.int .i64 es.length)
  | .sl _ _ len _ _ => some (.int .i64 len)
  | .asl _ _ _ len _ _ => some (.int .i64 len)
  | _ => none
def rEq (bk : BK) (x y : AV) : Option Bool :=
  match x, y with
  | .bool a, .bool b => match bk with | .bool => some (a == b) | _ => none
  | .nilp, .nilp => match bk with | .ptr => some true | _ => none
  | .ptr _ _ _, .nilp => match bk with | .ptr => some false | _ => none
  | .vp _, .nilp => match bk with | .ptr => some false | _ => none
  | .nilp, .ptr _ _ _ => match bk with | .ptr => some false | _ => none
  | .nilp, .vp _ => match bk with | .ptr => some false | _ => none
  | .nilsl, .nilsl => match bk with | .slc => some true | _ => none
  | .vsl _ _ _, .nilsl => match bk with | .slc => some false | _ => none
  | .sl _ _ _ _ _, .nilsl => match bk with | .slc => some false | _ => none
  | .asl _ _ _ _ _ _, .nilsl => match bk with | .slc => some false | _ => none
  | .nilfn, .nilfn => match bk with | .fn => some true | _ => none
  | .fn _ _, .nilfn => match bk with | .fn => some false | _ => none
  | .agg xs, .agg ys => match bk with | .agg l => if xs.map z1i = l.map some /\ ys.map z1i = l.map some then some (z1y xs ys) else none | _ => none
  | _, _ => none
def rBin (op : BinOp) (bk : BK) (x y : AV) : Option AV :=
  match x, y with
  | .int k a, .int k' b => match op with
    | .shl => z1f .shl k a b
    | .shr => z1f .shr k a b
    | op => if k = k' then z10 op k a b else none
  | .str a, .str b => z2v op a b
  | x, y => (rEq bk x y).bind (eqOp op)
def z2r (c : CK) (Y : Store) (x : AV) : Option (AV × Store) :=
  match c, x with
  | .int k, .int _ n => some (.int k (k.wrap n), Y)
  | .strId, .str s => some (.str s, Y)
  | .bytes, .str s => some (.sl Y.length 0 s.length none 1, Y ++ [some (zh s)])
  | .str, .int _ _ => none
  | .str, .str _ => none
  | .str, x => (z23 Y x).bind fun es => (z2j es).map fun s => (.str s, Y)
  | _, _ => none
def rCopy (sz : Nat) (Y : Store) (d s : AV) : Option (AV × Store) :=
  (z3s Y sz s).bind fun ys =>
    match d with
    | .nilsl => some (.int .i64 0, Y)
    | .sl r off len _ esz => match Y[r]? with
      | some (some o) => if esz = sz /\ off + len <= o.length then some (.int .i64 (min ys.length len : Nat), Y.set r (some (o.take off ++ ys.take len ++ o.drop (off + min ys.length len)))) else none
      | _ => none
    | .asl r i off len _ esz => match Y[r]? with
      | some (some o) => (o[i]?).bind fun cs => if esz = sz /\ off + len * esz <= cs.length then some (.int .i64 (min ys.length len : Nat), Y.set r (some (o.set i (z17 cs off (ys.take len).flatten)))) else none
      | _ => none
    | _ => none
def zc7 (z : List AV) (Y : Store) : AV -> Option (AV × Store)
  | .nilsl => some (.tup [], Y)
  | .sl r off len _ esz => if len = 0 then some (.tup [], Y) else match Y[r]? with
    | some (some o) => if z.length = esz /\ off + len <= o.length then some (.tup [], Y.set r (some (o.take off ++ List.replicate len z ++ o.drop (off + len)))) else none
    | _ => none
  | _ => none

/-- What an operation that is no call gives. -/
def AOp.run (O : Env) (Y : Store) : AOp -> Option (AV × Store)
  | .mv x => some (x.ev O, Y)
  | .pick c a b => match c.ev O with | .bool t => some (if t then a.ev O else b.ev O, Y) | _ => none
  | .alloc z => some (.ptr Y.length 0 0, Y ++ [some [z]])
  | .allB => some (aBld Y)
  | .box x => aBox Y (x.ev O)
  | .build z ps => (z15 z (ps.map fun p => (p.1, p.2.1, p.2.2.ev O))).map fun c => (.agg c, Y)
  | .lit sz xs => (z2z sz (xs.map (AX.ev O))).map fun es => (.vsl sz es true, Y)
  | .load ag n x => (z2l ag n Y (x.ev O)).map fun v => (v, Y)
  | .store n a x => (z3q n Y (a.ev O) (x.ev O)).map fun Y' => (.undef, Y')
  | .nilc x => match x.ev O with
    | .ptr r i off => some (.ptr r i off, Y)
    | .vp cs => some (.vp cs, Y)
    | .fn f caps => some (.fn f caps, Y)
    | _ => none
  | .bin op bk x y => (rBin op bk (x.ev O) (y.ev O)).map fun v => (v, Y)
  | .un op x => (aUn op (x.ev O)).map fun v => (v, Y)
  | .conv c x => z2r c Y (x.ev O)
  | .mkfn f caps => some (.fn f (caps.map (AX.ev O)), Y)
  | .make sz z l c => z3p sz z Y (l.ev O) (c.ev O)
  | .slice k x lo hi mx => (z30 k Y (x.ev O) (lo.map (AX.ev O)) (hi.map (AX.ev O)) (mx.map (AX.ev O))).map fun v => (v, Y)
  | .fa k x => (rFa k (x.ev O)).map fun v => (v, Y)
  | .fld ag n off x => (rFld ag n off (x.ev O)).map fun v => (v, Y)
  | .iaArr n sz x i => (match i.ev O with | .int _ k => z9a n sz k (x.ev O) | _ => none).map fun v => (v, Y)
  | .iaSl sz x i => (match i.ev O with | .int _ k => z9b sz k (x.ev O) | _ => none).map fun v => (v, Y)
  | .ixArr n ag sz x i => (z3n n ag sz (x.ev O) (i.ev O)).map fun v => (v, Y)
  | .ixStr x i => (z3o (x.ev O) (i.ev O)).map fun v => (v, Y)
  | .ext i x => match x.ev O with | .tup vs => (vs[i]?).map fun v => (v, Y) | _ => none
  | .lenStr x => match x.ev O with | .str s => some (.int .i64 s.length, Y) | _ => none
  | .lenSl x => (z1k (x.ev O)).map fun v => (v, Y)
  | .lenArr n => some (.int .i64 n, Y)
  | .app sz s x => (z3s Y sz (x.ev O)).bind fun ys => aApp Y sz (s.ev O) ys
  | .appB s x => (z3s Y 1 (x.ev O)).bind fun ys => z3w Y (s.ev O) ys
  | .copy sz d s => rCopy sz Y (d.ev O) (s.ev O)
  | .clear z x => zc7 z Y (x.ev O)
  | .minmax mx x y => (aMin mx (x.ev O) (y.ev O)).map fun v => (v, Y)
  | .call _ _ => none
  | .stuck => none

/-- An operation in its place: where its value goes, when it is carried out (a slot, and what it is to hold), whether it must leave the store as_ it is. -/
structure AIns where
  dst : Option Nat
  guard : Option (Nat × Bool)
  need : Nd
  op : AOp
inductive ACode where
  | skip
  | reg (ops : List AIns)
  | reg2 (a b : List AIns)
  | seq (a b : ACode)
  | cond (c : AX) (a b : ACode)
  | block (id : Nat) (a : ACode)
  | loop (a : ACode)
  | exit (id : Nat)
  | ret
  | scope (a : ACode)
  | rangef (g : AX) (ps : List Nat) (a b : ACode)
  | stuck
inductive AExit where
  | normal
  | exit (id : Nat)
  | ret

def z1c (O : Env) : Option (Nat × Bool) -> Option Bool
  | none => some true
  | some g => match O g.1 with | .bool b => some (b == g.2) | .undef => some false | _ => none
/-! From a Go function's code. -/
def cX (C : Ctx) : Operand -> Option AX
  | .tmp t => some (.t t)
  | .const v => some (.v (ofV v))
  | .global g => (C.gl g).map fun cs => .v (.vp cs)
  | .func f => some (.v (.fn f []))
def cXo (C : Ctx) : Option Operand -> Option (Option AX)
  | none => some none
  | some x => (cX C x).map some
theorem z1a {C : Ctx} {x : Operand} {a : AX} (h : cX C x = some a) (O : Env) : a.ev O = ev C O x := by
  cases x <;> simp only [cX, Option.some.injEq, Option.map_eq_some_iff] at h
  · subst h; rfl
  · subst h; rfl
  · obtain ⟨cs, h1, rfl⟩ := h; simp [AX.ev, ev, h1]
  · subst h; rfl
theorem z4d {C : Ctx} {x : Option Operand} {a : Option AX} (h : cXo C x = some a) (O : Env) : a.map (AX.ev O) = x.map (ev C O) := by
  cases x with
  | none => simp only [cXo, Option.some.injEq] at h; subst h; rfl
  | some x =>
    simp only [cXo, Option.map_eq_some_iff] at h
    obtain ⟨a, h1, rfl⟩ := h
    simp [z1a h1]
def cXs (C : Ctx) : List Operand -> Option (List AX)
  | [] => some []
  | x :: l => (cX C x).bind fun a => (cXs C l).map (a :: ·)
theorem z6u {C : Ctx} {l : List Operand} {as_ : List AX} (h : cXs C l = some as_) (O : Env) : as_.map (AX.ev O) = l.map (ev C O) := by
  induction l generalizing as_ with
  | nil => simp only [cXs, Option.some.injEq] at h; subst h; rfl
  | cons x l ih =>
    simp only [cXs, Option.bind_eq_some_iff, Option.map_eq_some_iff] at h
    obtain ⟨a, h1, as', h2, rfl⟩ := h
    simp [z1a h1, ih h2]
/-- The parts of a literal of a struct or an array, with their places. -/
def z6t (C : Ctx) (place : Nat -> Option (Nat × Nat)) : List (Nat × Operand) -> Option (List (Nat × Nat × AX))
  | [] => some []
  | p :: l => (place p.1).bind fun x => (cX C p.2).bind fun a => (z6t C place l).map ((x.1, x.2, a) :: ·)
theorem zaz {C : Ctx} {place : Nat -> Option (Nat × Nat)} (O : Env) : ∀ {l : List (Nat × Operand)} {ps : List (Nat × Nat × AX)} (cells : List AV), z6t C place l = some ps ->
    z5u place cells (l.map fun p => (p.1, ev C O p.2)) = z15 cells (ps.map fun p => (p.1, p.2.1, p.2.2.ev O))
  | [], ps, cells, h => by simp only [z6t, Option.some.injEq] at h; subst h; rfl
  | p :: l, ps, cells, h => by
    simp only [z6t, Option.bind_eq_some_iff, Option.map_eq_some_iff] at h
    obtain ⟨x, hx, a, ha, ps', hps, rfl⟩ := h
    simp only [List.map_cons, z5u, hx, Option.bind_some, z15, z1a ha O]
    cases cellsOf (ev C O p.2) with
    | none => rfl
    | some vs =>
      simp only [Option.bind_some]
      rw [zaz O (z17 cells x.1 vs) hps]
def z81 (C : Ctx) : List (Nat × Operand) -> Nat -> Option (List AX)
  | [], _ => some []
  | p :: l, k => if p.1 = k then (cX C p.2).bind fun a => (z81 C l (k + 1)).map (a :: ·) else none
theorem zed {C : Ctx} {sz : Nat} (O : Env) : ∀ {l : List (Nat × Operand)} {k : Nat} {as_ : List AX}, z81 C l k = some as_ -> z67 sz (l.map fun p => (p.1, ev C O p.2)) k = z2z sz (as_.map (AX.ev O))
  | [], k, as_, h => by simp only [z81, Option.some.injEq] at h; subst h; rfl
  | p :: l, k, as_, h => by
    simp only [z81] at h
    split at h
    · rename_i hk
      simp only [Option.bind_eq_some_iff, Option.map_eq_some_iff] at h
      obtain ⟨a, ha, as', has, rfl⟩ := h
      simp only [List.map_cons, z67, hk, if_true, z2z, z1a ha O, zed O has]
    · cases h

def cBK (C : Ctx) (t : TypeId) : BK :=
  if zah C t then .bool else if z5o C t then .ptr else if (tySl C t).isSome then .slc else if z7h C t then .fn else
    if z1x C t = some true then (match z91 C t with | some l => .agg l | none => .none) else .none
theorem zjw {C : Ctx} {t : TypeId} : (cBK C t = .bool -> zah C t = true) /\ (cBK C t = .ptr -> z5o C t = true) /\ (cBK C t = .slc -> ∃ e, tySl C t = some e) /\ (cBK C t = .fn -> z7h C t = true) ∧
    (∀ l, cBK C t = .agg l -> z91 C t = some l /\ z1x C t = some true) := by
  unfold cBK
  split
  · exact ⟨fun _ => by assumption, by simp, by simp, by simp, by simp⟩
  · split
    · exact ⟨by simp, fun _ => by assumption, by simp, by simp, by simp⟩
    · split
      · rename_i h; exact ⟨by simp, by simp, fun _ => Option.isSome_iff_exists.1 h, by simp, by simp⟩
      · split
        · exact ⟨by simp, by simp, by simp, fun _ => by assumption, by simp⟩
        · split
          · rename_i hag
            split
            · rename_i l hl
              exact ⟨by simp, by simp, by simp, by simp, fun l' h' => by cases h'; exact ⟨hl, hag⟩⟩
            · exact ⟨by simp, by simp, by simp, by simp, by simp⟩
          · exact ⟨by simp, by simp, by simp, by simp, by simp⟩
theorem cBK_ok {C : Ctx} {t : TypeId} {x y : AV} {b : Bool} (h : rEq (cBK C t) x y = some b) : aEq C t x y = some b := by
  obtain ⟨s1, s2, s3, s4, s5⟩ := zjw (C := C) (t := t)
  generalize cBK C t = bk at *
  have hsl : bk = .slc -> ∀ c : Bool, ((tySl C t).map fun _ => c) = some c := fun e c => by obtain ⟨e', h'⟩ := s3 e; rw [h']; rfl
  unfold rEq at h
  split at h <;> simp only [aEq] <;> (try (cases bk <;> simp only [reduceCtorEq] at h))
  case h_1 => rw [if_pos (s1 rfl)]; exact h
  case h_2 => rw [if_pos (s2 rfl)]; exact h
  case h_3 => rw [if_pos (s2 rfl)]; exact h
  case h_4 => rw [if_pos (s2 rfl)]; exact h
  case h_5 => rw [if_pos (s2 rfl)]; exact h
  case h_6 => rw [if_pos (s2 rfl)]; exact h
  case h_7 => simp only [Option.some.injEq] at h; subst h; exact hsl rfl _
  case h_8 => simp only [Option.some.injEq] at h; subst h; exact hsl rfl _
  case h_9 => simp only [Option.some.injEq] at h; subst h; exact hsl rfl _
  case h_10 => simp only [Option.some.injEq] at h; subst h; exact hsl rfl _
  case h_11 => rw [if_pos (s4 rfl)]; exact h
  case h_12 => rw [if_pos (s4 rfl)]; exact h
  case h_13 =>
    rename_i l
    obtain ⟨k1, k2⟩ := s5 l rfl
    rw [k1]
    simp only [Option.bind_some]
    split at h
    · rename_i hc
      rw [if_pos ⟨hc.1, hc.2, k2⟩]; exact h
    · cases h

def cOp (C : Ctx) : Op -> Option AOp
  | .move x => (cX C x).map .mv
  | .assign x => (cX C x).map .mv
  | .pick c a b => (cX C c).bind fun c => (cX C a).bind fun a => (cX C b).map fun b => .pick c a b
  | .alloc t => (z2m C t).bind fun z => if t = bldT then (if zbl z = true then some .allB else none) else (cellsOf z).map .alloc
  | .box _ x => (cX C x).map .box
  | .build t ps => (z2m C t).bind fun z => (cellsOf z).bind fun zc => match zd2 C t with
    | some pl => (z6t C (pl[·]?) ps.toList).map (.build zc)
    | none => (z3t C t).bind fun ne => (z19 C ne.2).bind fun n => (z6t C (fun i => some (i * n, n)) ps.toList).map (.build zc)
  | .buildSlice t n ps => (tySl C t).bind fun e => (z19 C e).bind fun sz => (z2m C e).bind fun _ => if ps.toList.length = n /\ n * sz <= 16777216 then (z81 C ps.toList 0).map (.lit sz) else none
  | .load t x => (z1x C t).bind fun ag => (z19 C t).bind fun n => (cX C x).map (.load ag n)
  | .store t a x => (z19 C t).bind fun n => (cX C a).bind fun a => (cX C x).map (.store n a)
  | .nilCheck x => (cX C x).map .nilc
  | .binOp op t x y _ => (cX C x).bind fun x => (cX C y).map fun y => .bin op (cBK C t) x y
  | .unOp op _ x => (cX C x).map (.un op)
  | .convert s d x => (cX C x).bind fun x =>
      match z65 C s, z65 C d with
      | some _, some k => some (.conv (.int k) x)
      | _, _ => if tyStr C d = true then (if z66 C s = true then some (.conv .str x) else if tyStr C s = true then some (.conv .strId x) else none)
          else if z66 C d = true /\ tyStr C s = true then some (.conv .bytes x) else none
  | .makeFunc (.func f) first captured => if first.size = 0 then (cXs C captured.toList).map (.mkfn f) else none
  | .makeSlice t l c => (tySl C t).bind fun e => (z19 C e).bind fun sz => (z64 C e).bind fun by_ => (z2m C e).bind fun z => (cellsOf z).bind fun zc => (cX C l).bind fun l => (cX C c).bind fun c =>
      if by_ <= 16384 /\ zc.length = sz then some (.make sz zc l c) else none
  | .slice t x lo hi mx => (cX C x).bind fun x => (cXo C lo).bind fun lo => (cXo C hi).bind fun hi => (cXo C mx).bind fun mx =>
      if tyStr C t = true then some (.slice .str x lo hi mx) else match z3t C t with
        | some ne => (z19 C ne.2).map fun sz => .slice (.arr ne.1 sz) x lo hi mx
        | none => (tySl C t).bind fun e => (z19 C e).map fun sz => .slice (.sl sz) x lo hi mx
  | .fieldAddr s x f => (z90 C s f).bind fun k => (cX C x).map (.fa k)
  | .field s x f => (zdd C s f).bind fun y => (z1x C y.1).bind fun ag => (z19 C y.1).bind fun n => (cX C x).map (.fld ag n y.2)
  | .indexAddr t x i => (cX C x).bind fun x => (cX C i).bind fun i => match z3t C t with
    | some ne => (z19 C ne.2).map fun sz => .iaArr ne.1 sz x i
    | none => (tySl C t).bind fun e => (z19 C e).map fun sz => .iaSl sz x i
  | .index t x i => (cX C x).bind fun x => (cX C i).bind fun i => if tyStr C t = true then some (.ixStr x i) else
      (z3t C t).bind fun ne => (z1x C ne.2).bind fun ag => (z19 C ne.2).map fun sz => .ixArr ne.1 ag sz x i
  | .extract x i => (cX C x).map (.ext i)
  | .call c => match c.callee with
    | .value f => (cX C f).bind fun f => (cXs C c.args.toList).map (.call f)
    | .builtin b => (cXs C c.args.toList).bind fun xs =>
      match b, c.argTypes.toList, xs with
      | .len, [t], [x] => if tyStr C t = true then some (.lenStr x) else if (tySl C t).isSome = true then some (.lenSl x) else none
      | .append, [t, t'], [s, x] => (tySl C t).bind fun e => (z19 C e).bind fun sz => (z64 C e).bind fun by_ => (z2m C e).bind fun z => (cellsOf z).bind fun zc =>
          if by_ <= 8192 /\ zc.length = sz /\ ((tySl C t').isSome || tyStr C t') = true then some (if e = u8T /\ sz = 1 then .appB s x else .app sz s x) else none
      | .copy, [t, _], [d, s] => (tySl C t).bind fun e => (z19 C e).map fun sz => .copy sz d s
      | .clear, [t], [x] => (tySl C t).bind fun e => (z2m C e).bind fun z => (cellsOf z).map fun zc => .clear zc x
      | .min, _, [x, y] => some (.minmax false x y)
      | .max, _, [x, y] => some (.minmax true x y)
      | _, _, _ => none
    | _ => none
  | _ => none
end Am
end Go.Proofs.YtjgljhbmljgaeaaDoor
end
section
/- THE ABSTRACT MACHINE, part 15: what its code says holds of the model's run of the Go function's code. -/
namespace Go.Proofs.YtjgljhbmljgaeaaDoor
namespace Am

theorem zk4 {C : Ctx} {op : Op} {a : AOp} (h : cOp C op = some a) {O : Env} {Y : Store} {r : AV × Store} (hr : a.run O Y = some r) : z1p op = none /\ z1h C (ev C O) Y op = some r := by
  cases op <;> simp only [cOp, reduceCtorEq, Option.map_eq_some_iff, Option.bind_eq_some_iff] at h
  case move x => obtain ⟨a, ha, rfl⟩ := h; exact ⟨rfl, by rw [<- hr]; simp only [AOp.run, z1h, z1a ha]⟩
  case assign x => obtain ⟨a, ha, rfl⟩ := h; exact ⟨rfl, by rw [<- hr]; simp only [AOp.run, z1h, z1a ha]⟩
  case pick c x y =>
    obtain ⟨c', hc, x', hx, y', hy, rfl⟩ := h
    refine ⟨rfl, ?_⟩
    rw [<- hr]
    simp only [AOp.run, z1h, z1a hc, z1a hx, z1a hy]
    rfl
  case alloc t =>
    obtain ⟨z, hz, h⟩ := h
    refine ⟨rfl, ?_⟩
    split at h
    · rename_i ht
      split at h
      · rename_i hn
        simp only [Option.some.injEq] at h; subst h
        rw [<- hr]
        simp only [AOp.run, z1h, z7o, hz, Option.bind_some, if_pos ht, if_pos hn]
      · cases h
    · rename_i ht
      simp only [Option.map_eq_some_iff] at h
      obtain ⟨zc, hzc, rfl⟩ := h
      rw [<- hr]
      simp only [AOp.run, z1h, z7o, hz, Option.bind_some, if_neg ht, aBox, hzc, Option.map_some]
  case box t x => obtain ⟨a, ha, rfl⟩ := h; exact ⟨rfl, by rw [<- hr]; simp only [AOp.run, z1h, z1a ha]⟩
  case build t ps =>
    obtain ⟨z, hz, zc, hzc, h⟩ := h
    refine ⟨rfl, ?_⟩
    split at h
    · rename_i pl hpl
      simp only [Option.map_eq_some_iff] at h
      obtain ⟨q, hq, rfl⟩ := h
      rw [<- hr]
      simp only [AOp.run, z1h, z7q, hz, Option.bind_some, hzc, hpl, zaz O zc hq, Option.map_map]
      rfl
    · rename_i hpl
      simp only [Option.bind_eq_some_iff, Option.map_eq_some_iff] at h
      obtain ⟨ne, hne, n, hn, q, hq, rfl⟩ := h
      rw [<- hr]
      simp only [AOp.run, z1h, z7q, hz, Option.bind_some, hzc, hpl, hne, hn, zaz O zc hq, Option.map_map]
      rfl
  case buildSlice t n ps =>
    obtain ⟨e, he, sz, hsz, z, hz, h⟩ := h
    refine ⟨rfl, ?_⟩
    split at h
    · rename_i hc
      simp only [Option.map_eq_some_iff] at h
      obtain ⟨q, hq, rfl⟩ := h
      rw [<- hr]
      have hc' : (ps.toList.map fun p => (p.1, ev C O p.2)).length = n /\ n * sz <= 16777216 := by rw [List.length_map]; exact hc
      simp only [AOp.run, z1h, z95, he, hsz, hz, Option.bind_some, if_pos hc', zed O hq, Option.map_map]
      rfl
    · cases h
  case load t x =>
    obtain ⟨ag, hag, n, hn, a, ha, rfl⟩ := h
    refine ⟨rfl, ?_⟩
    rw [<- hr]
    simp only [AOp.run, z1h, z1a ha]
    congr 1
    generalize ev C O x = p
    cases p <;> simp only [z6p, z2l, hag, hn, Option.bind_some]
    rfl
  case store t p x =>
    obtain ⟨n, hn, p', hp, x', hx, rfl⟩ := h
    refine ⟨rfl, ?_⟩
    rw [<- hr]
    simp only [AOp.run, z1h, z1a hp, z1a hx, z9g, z3q, hn, Option.bind_some]
    rfl
  case nilCheck x => obtain ⟨a, ha, rfl⟩ := h; exact ⟨rfl, by rw [<- hr]; simp only [AOp.run, z1h, z1a ha]; rfl⟩
  case binOp bop t x y yt =>
    obtain ⟨x', hx, y', hy, rfl⟩ := h
    refine ⟨rfl, ?_⟩
    simp only [AOp.run, Option.map_eq_some_iff] at hr
    obtain ⟨v, hv, rfl⟩ := hr
    simp only [z1h, Option.map_eq_some_iff]
    refine ⟨v, ?_, rfl⟩
    rw [z1a hx, z1a hy] at hv
    generalize ev C O x = p at *
    generalize ev C O y = q at *
    have hq : ∀ {p q : AV}, (rEq (cBK C t) p q).bind (eqOp bop) = some v -> (aEq C t p q).bind (eqOp bop) = some v := by
      intro p q h
      simp only [Option.bind_eq_some_iff] at h ⊢
      obtain ⟨b, hb, h⟩ := h
      exact ⟨b, cBK_ok hb, h⟩
    cases p <;> first | exact hq hv | (cases q <;> first | exact hq hv | (cases bop <;> exact hv) | exact hv)
  case unOp uop t x => obtain ⟨a, ha, rfl⟩ := h; exact ⟨rfl, by rw [<- hr]; simp only [AOp.run, z1h, z1a ha]⟩
  case convert s d x =>
    obtain ⟨x', hx, h⟩ := h
    refine ⟨rfl, ?_⟩
    simp only [z1h]
    split at h
    · rename_i k0 k h1 h2
      simp only [Option.some.injEq] at h; subst h
      simp only [AOp.run, z1a hx] at hr
      generalize ev C O x = p at *
      cases p <;> simp only [z2r, reduceCtorEq] at hr
      simp only [z5t, h1, h2, Option.bind_some, Option.map_some]; exact hr
    · split at h
      · rename_i hst
        split at h
        · rename_i hu
          simp only [Option.some.injEq] at h; subst h
          simp only [AOp.run, z1a hx] at hr
          generalize ev C O x = p at *
          unfold z2r at hr
          unfold z5t
          cases p <;> simp only [reduceCtorEq] at hr ⊢ <;> (simp only [hst, hu, and_self, if_true]; exact hr)
        · split at h
          · rename_i hs
            simp only [Option.some.injEq] at h; subst h
            simp only [AOp.run, z1a hx] at hr
            generalize ev C O x = p at *
            cases p <;> simp only [z2r, reduceCtorEq] at hr
            simp only [z5t, hst, z5p hs, Option.isSome_some, and_self, if_true]; exact hr
          · cases h
      · rename_i hst
        split at h
        · rename_i hc
          simp only [Option.some.injEq] at h; subst h
          simp only [AOp.run, z1a hx] at hr
          generalize ev C O x = p at *
          cases p <;> simp only [z2r, reduceCtorEq] at hr
          simp only [z5t, hst, hc.1, z5p hc.2, Option.isSome_some, and_true, Bool.false_eq_true, if_false, if_true]; exact hr
        · cases h
  case makeFunc fn first captured =>
    cases fn <;> simp only [reduceCtorEq] at h
    split at h
    · rename_i hz
      simp only [Option.map_eq_some_iff] at h
      obtain ⟨q, hq, rfl⟩ := h
      refine ⟨rfl, ?_⟩
      rw [<- hr]
      simp only [AOp.run, z1h, hz, if_true, z6u hq]
    · cases h
  case makeSlice t l c =>
    obtain ⟨e, he, sz, hsz, by_, hby, z, hz, zc, hzc, l', hl, c', hc, h⟩ := h
    refine ⟨rfl, ?_⟩
    split at h
    · rename_i hcond
      simp only [Option.some.injEq] at h; subst h
      simp only [AOp.run, z1a hl, z1a hc] at hr
      simp only [z1h]
      generalize ev C O l = p at *
      generalize ev C O c = q at *
      cases p <;> simp only [z3p, reduceCtorEq] at hr
      cases q <;> simp only [reduceCtorEq] at hr
      split at hr
      · rename_i hx
        simp only [z9c, he, hsz, hby, hz, hzc, Option.bind_some]
        rw [if_pos ⟨hx.1, hx.2.1, hx.2.2, hcond.1, hcond.2⟩]; exact hr
      · cases hr
    · cases h
  case slice t x lo hi mx =>
    obtain ⟨x', hx, lo', hlo, hi', hhi, mx', hmx, h⟩ := h
    refine ⟨rfl, ?_⟩
    simp only [z1h]
    split at h
    · rename_i hst
      simp only [Option.some.injEq] at h; subst h
      simp only [AOp.run, z1a hx, z4d hlo, z4d hhi, z4d hmx, Option.map_eq_some_iff] at hr
      obtain ⟨v, hv, rfl⟩ := hr
      generalize ev C O x = p at *
      cases p <;> simp only [z30, reduceCtorEq] at hv
      simp only [z6q, hst, if_true, hv, Option.map_some]
    · split at h
      · rename_i ne hne
        simp only [Option.map_eq_some_iff] at h
        obtain ⟨sz, hsz, rfl⟩ := h
        simp only [AOp.run, z1a hx, z4d hlo, z4d hhi, z4d hmx, Option.map_eq_some_iff] at hr
        obtain ⟨v, hv, rfl⟩ := hr
        generalize ev C O x = p at *
        cases p <;> simp only [z30, reduceCtorEq] at hv
        simp only [z6q, hne, hsz, Option.bind_some, hv, Option.map_some]
      · simp only [Option.bind_eq_some_iff, Option.map_eq_some_iff] at h
        obtain ⟨e, he, sz, hsz, rfl⟩ := h
        simp only [AOp.run, z1a hx, z4d hlo, z4d hhi, z4d hmx, Option.map_eq_some_iff] at hr
        obtain ⟨v, hv, rfl⟩ := hr
        generalize ev C O x = p at *
        cases p <;> simp only [z30, reduceCtorEq] at hv <;> simp only [z6q, he, hsz, Option.bind_some, hv, Option.map_some]
  case fieldAddr s x f =>
    obtain ⟨k, hk, x', hx, rfl⟩ := h
    refine ⟨rfl, ?_⟩
    simp only [AOp.run, z1a hx, Option.map_eq_some_iff] at hr
    obtain ⟨v, hv, rfl⟩ := hr
    simp only [z1h]
    generalize ev C O x = p at *
    cases p <;> simp only [rFa, reduceCtorEq] at hv <;> simp only [z99, hk, Option.map_some, Option.bind_some]
    · simp only [Option.some.injEq] at hv; subst hv; rfl
    · rw [hv]; rfl
  case field s x f =>
    obtain ⟨y, hy, ag, hag, n, hn, x', hx, rfl⟩ := h
    refine ⟨rfl, ?_⟩
    simp only [AOp.run, z1a hx, Option.map_eq_some_iff] at hr
    obtain ⟨v, hv, rfl⟩ := hr
    simp only [z1h]
    generalize ev C O x = p at *
    cases p <;> simp only [rFld, reduceCtorEq] at hv
    simp only [z98, hy, hag, hn, Option.bind_some, hv, Option.map_some]
  case indexAddr t x i =>
    obtain ⟨x', hx, i', hi, h⟩ := h
    refine ⟨rfl, ?_⟩
    simp only [z1h]
    split at h
    · rename_i ne hne
      simp only [Option.map_eq_some_iff] at h
      obtain ⟨sz, hsz, rfl⟩ := h
      simp only [AOp.run, z1a hx, z1a hi] at hr
      rw [<- hr]
      congr 1
      generalize ev C O i = q
      cases q <;> simp only [z7s, hne, hsz, Option.bind_some]
    · rename_i hne
      simp only [Option.bind_eq_some_iff, Option.map_eq_some_iff] at h
      obtain ⟨e, he, sz, hsz, rfl⟩ := h
      simp only [AOp.run, z1a hx, z1a hi] at hr
      rw [<- hr]
      congr 1
      generalize ev C O i = q
      cases q <;> simp only [z7s, hne, he, hsz, Option.bind_some]
  case index t x i =>
    obtain ⟨x', hx, i', hi, h⟩ := h
    refine ⟨rfl, ?_⟩
    simp only [z1h]
    split at h
    · rename_i hst
      simp only [Option.some.injEq] at h; subst h
      simp only [AOp.run, z1a hx, z1a hi, Option.map_eq_some_iff] at hr
      obtain ⟨v, hv, rfl⟩ := hr
      generalize ev C O x = p at *
      generalize ev C O i = q at *
      cases p <;> simp only [z3o, reduceCtorEq] at hv
      cases q <;> simp only [reduceCtorEq] at hv
      simp only [z7r, hst, if_true, hv, Option.map_some]
    · simp only [Option.bind_eq_some_iff, Option.map_eq_some_iff] at h
      obtain ⟨ne, hne, ag, hag, sz, hsz, rfl⟩ := h
      simp only [AOp.run, z1a hx, z1a hi, Option.map_eq_some_iff] at hr
      obtain ⟨v, hv, rfl⟩ := hr
      generalize ev C O x = p at *
      generalize ev C O i = q at *
      cases p <;> simp only [z3n, reduceCtorEq] at hv
      cases q <;> simp only [reduceCtorEq] at hv
      simp only [z7r, hne, hag, hsz, Option.bind_some]
      split at hv
      · rename_i hin
        rw [if_pos hin, hv, Option.map_some]
      · cases hv
  case extract x i => obtain ⟨a, ha, rfl⟩ := h; exact ⟨rfl, by rw [<- hr]; simp only [AOp.run, z1h, z1a ha]; rfl⟩
  case call c =>
    obtain ⟨callee, cargs, ats⟩ := c
    cases callee <;> simp only [reduceCtorEq, Option.bind_eq_some_iff, Option.map_eq_some_iff] at h
    · obtain ⟨f, hf, xs, hxs, rfl⟩ := h
      simp [AOp.run] at hr
    · rename_i b
      obtain ⟨xs, hxs, h⟩ := h
      refine ⟨rfl, ?_⟩
      simp only [z1h]
      have hm := z6u hxs O
      rw [<- hm]
      split at h
      · rename_i t x hat
        split at h
        · rename_i hst
          simp only [Option.some.injEq] at h; subst h
          simp only [AOp.run] at hr
          simp only [List.map_cons, List.map_nil, hat, z35]
          generalize x.ev O = p at *
          cases p <;> simp only [reduceCtorEq] at hr
          simp only [aLen, hst, if_true, Option.map_some]; exact hr
        · split at h
          · rename_i hsl
            obtain ⟨e, he⟩ := Option.isSome_iff_exists.1 hsl
            simp only [Option.some.injEq] at h; subst h
            simp only [AOp.run, Option.map_eq_some_iff] at hr
            obtain ⟨v, hv, rfl⟩ := hr
            simp only [List.map_cons, List.map_nil, hat, z35]
            generalize x.ev O = p at *
            cases p <;> simp only [z1k, reduceCtorEq] at hv <;> simp only [aLen, he, Option.map_some, hv]
          · cases h
      · rename_i t t' s x hat
        simp only [Option.bind_eq_some_iff] at h
        obtain ⟨e, he, sz, hsz, by_, hby, z, hz, zc, hzc, h⟩ := h
        split at h
        · rename_i hcond
          simp only [Option.some.injEq] at h
          by_cases hB : e = u8T /\ sz = 1
          · rw [if_pos hB] at h
            subst h
            obtain ⟨_, rfl⟩ := id hB
            simp only [AOp.run, Option.bind_eq_some_iff] at hr
            obtain ⟨ys, hys, hr⟩ := hr
            simp only [List.map_cons, List.map_nil, hat, z35, z7p, he, hsz, hby, hz, hzc, hys, Option.bind_some]
            rw [if_pos hcond, if_pos ⟨hB.1, trivial⟩]; exact hr
          · rw [if_neg hB] at h
            subst h
            simp only [AOp.run, Option.bind_eq_some_iff] at hr
            obtain ⟨ys, hys, hr⟩ := hr
            simp only [List.map_cons, List.map_nil, hat, z35, z7p, he, hsz, hby, hz, hzc, hys, Option.bind_some]
            rw [if_pos hcond, if_neg hB]; exact hr
        · cases h
      · rename_i t t' d s hat
        simp only [Option.bind_eq_some_iff, Option.map_eq_some_iff] at h
        obtain ⟨e, he, sz, hsz, rfl⟩ := h
        simp only [AOp.run] at hr
        simp only [List.map_cons, List.map_nil, hat, z35, z97, he, hsz, Option.bind_some]
        exact hr
      · rename_i t x hat
        simp only [Option.bind_eq_some_iff, Option.map_eq_some_iff] at h
        obtain ⟨e, he, z, hz, zc, hzc, rfl⟩ := h
        simp only [AOp.run] at hr
        simp only [List.map_cons, List.map_nil, hat, z35, z96, he, Option.bind_some]
        generalize x.ev O = p at *
        cases p <;> simp only [zc7, reduceCtorEq] at hr
        · exact hr
        · simp only [hz, hzc, Option.bind_some]; exact hr
      · simp only [Option.some.injEq] at h; subst h
        simp only [AOp.run] at hr
        simp only [List.map_cons, List.map_nil, z35]; exact hr
      · simp only [Option.some.injEq] at h; subst h
        simp only [AOp.run] at hr
        simp only [List.map_cons, List.map_nil, z35]; exact hr
      · cases h
end Am
end Go.Proofs.YtjgljhbmljgaeaaDoor
end
section
/- THE ABSTRACT MACHINE, part 16: regions and code: what the abstract machine's code says holds of the model's run. -/
namespace Go.Proofs.YtjgljhbmljgaeaaDoor
namespace Am

/-! A list of operations: what must hold ahead of it. -/
def AOp.isCall : AOp -> Bool
  | .call _ _ => true
  | _ => false
def z2f (n : Nd) (H : Hist) (Y Y' : Store) : Prop := match n with
  | .no => True
  | .same => Y' = Y
  | .rd => False
  | .ef => H.rds Y'
  | _ => False
def z43 (n : Nd) (H : Hist) (Y : Store) : Hist := match n with
  | .ef => ⟨fun s => H.pre s \/ s = Y, H.rds, H.rd2⟩
  | _ => H
def callW (C : Ctx) (K : Hist -> Env -> Store -> Prop) (H : Hist) (O : Env) (d : Option Nat) (need : Nd) (Y : Store) (f : AV) (xs : List AV) : Prop :=
  match f with
  | .fn fid caps => (∃ v Y', ACallsTo C fid (xs ++ caps) Y v Y' /\ z2f need H Y Y' /\ K (z43 need H Y) (putE O d v) Y') ∨
      ((need = .no \/ need = .ef) /\ ∃ P : AV -> Store -> Prop, ACallsP C fid (xs ++ caps) Y P /\ (∃ v Y', P v Y') /\ ∀ v Y', P v Y' -> z2f need H Y Y' /\ K (z43 need H Y) (putE O d v) Y') ∨
      (need = .pu /\ ∃ v, (∀ h, ACallsTo C fid (xs ++ caps) h v h) /\ K H (putE O d v) Y) ∨
      (need = .pu /\ ∃ v, ACallsTo C fid (xs ++ caps) Y v Y /\ (∀ h, H.pre h -> ACallsTo C fid (xs ++ caps) h v h) /\ K ⟨H.pre, fun s => H.rds s /\ ACallsTo C fid (xs ++ caps) s v s, H.rd2⟩ (putE O d v) Y)
  | _ => False
def z38 (K : Env -> Store -> Prop) (Y : Store) : Bool -> Option (Env × Store) -> Prop
  | false, some r => K r.1 r.2
  | true, some r => r.2 = Y /\ K r.1 r.2
  | _, none => False
def z24 (i : AIns) (O : Env) (Y : Store) : Option (Env × Store) :=
  match z1c O i.guard with
  | some true => (i.op.run O Y).map fun r => (putE O i.dst r.1, r.2)
  | some false => some (putE O i.dst .undef, Y)
  | none => none
def rdC (K : Hist -> Env -> Store -> Prop) (H : Hist) (d : Option Nat) (op : AOp) (O : Env) (Y : Store) : Option (AV × Store) -> Prop
  | some r => r.2 = Y /\ (∀ h, H.pre h -> op.run O h = some (r.1, h)) /\ K ⟨H.pre, fun s => H.rds s /\ op.run O s = some (r.1, s), H.rd2⟩ (putE O d r.1) Y
  | none => False
def rd2C (K : Hist -> Env -> Store -> Prop) (H : Hist) (d : Option Nat) (op : AOp) (O : Env) (Y : Store) : Option (AV × Store) -> Prop
  | some r => r.2 = Y /\ (∀ h, H.pre h -> op.run O h = some (r.1, h)) /\ K ⟨H.pre, fun s => H.rds s /\ op.run O s = some (r.1, s), fun s => H.rd2 s /\ op.run O s = some (r.1, s)⟩ (putE O d r.1) Y
  | none => False
def rd2W (K : Hist -> Env -> Store -> Prop) (H : Hist) (d : Option Nat) (op : AOp) (O : Env) (Y : Store) : Option Bool -> Prop
  | some true => rd2C K H d op O Y (op.run O Y)
  | some false => K H (putE O d .undef) Y
  | none => False
def ef2C (K : Hist -> Env -> Store -> Prop) (H : Hist) (d : Option Nat) (O : Env) (Y : Store) : Option (AV × Store) -> Prop
  | some r => H.rd2 r.2 /\ K ⟨fun s => H.pre s \/ s = Y, H.rds, H.rd2⟩ (putE O d r.1) r.2
  | none => False
def ef2W (K : Hist -> Env -> Store -> Prop) (H : Hist) (d : Option Nat) (op : AOp) (O : Env) (Y : Store) : Option Bool -> Prop
  | some true => ef2C K H d O Y (op.run O Y)
  | some false => K H (putE O d .undef) Y
  | none => False
def rdW (K : Hist -> Env -> Store -> Prop) (H : Hist) (d : Option Nat) (op : AOp) (O : Env) (Y : Store) : Option Bool -> Prop
  | some true => rdC K H d op O Y (op.run O Y)
  | some false => K H (putE O d .undef) Y
  | none => False
def efC (K : Hist -> Env -> Store -> Prop) (H : Hist) (d : Option Nat) (O : Env) (Y : Store) : Option (AV × Store) -> Prop
  | some r => H.rds r.2 /\ K ⟨fun s => H.pre s \/ s = Y, H.rds, H.rd2⟩ (putE O d r.1) r.2
  | none => False
def efW (K : Hist -> Env -> Store -> Prop) (H : Hist) (d : Option Nat) (op : AOp) (O : Env) (Y : Store) : Option Bool -> Prop
  | some true => efC K H d O Y (op.run O Y)
  | some false => K H (putE O d .undef) Y
  | none => False
/-- All effects so far left the store, and all to come must. -/
def Hist.same (Y : Store) : Hist := ⟨fun s => s = Y, fun s => s = Y, fun s => s = Y⟩
def rdS (K : Hist -> Env -> Store -> Prop) (d : Option Nat) (O : Env) (Y : Store) : Option (AV × Store) -> Prop
  | some r => r.2 = Y /\ K (Hist.same Y) (putE O d r.1) Y
  | none => False
theorem zon {K : Hist -> Env -> Store -> Prop} {d : Option Nat} {op : AOp} {O : Env} {Y : Store} : rdW K (Hist.same Y) d op O Y (some true) = rdS K d O Y (op.run O Y) := by
  simp only [rdW]
  cases hr : op.run O Y with
  | none => rfl
  | some r =>
    obtain ⟨v, s⟩ := r
    simp only [rdC, rdS, Hist.same, eq_iff_iff]
    constructor
    · rintro ⟨rfl, h1, h2⟩
      refine ⟨rfl, ?_⟩
      have e : (fun t => t = s /\ op.run O t = some (v, t)) = fun t => t = s := funext fun t => propext ⟨fun h => h.1, fun h => ⟨h, by rw [h]; exact hr⟩⟩
      rw [e] at h2; exact h2
    · rintro ⟨rfl, h2⟩
      refine ⟨rfl, fun h hh => by rw [hh]; exact hr, ?_⟩
      have e : (fun t => t = s /\ op.run O t = some (v, t)) = fun t => t = s := funext fun t => propext ⟨fun h => h.1, fun h => ⟨h, by rw [h]; exact hr⟩⟩
      rw [e]; exact h2
theorem zkq {K : Hist -> Env -> Store -> Prop} {d : Option Nat} {op : AOp} {O : Env} {Y : Store} : efW K (Hist.same Y) d op O Y (some true) = rdS K d O Y (op.run O Y) := by
  simp only [efW]
  cases hr : op.run O Y with
  | none => rfl
  | some r =>
    obtain ⟨v, s⟩ := r
    simp only [efC, rdS, Hist.same, eq_iff_iff]
    have e : (fun t => t = Y \/ t = Y) = fun t => t = Y := funext fun t => propext ⟨fun h => h.elim id id, Or.inl⟩
    rw [e]
    constructor
    · rintro ⟨rfl, h2⟩; exact ⟨rfl, h2⟩
    · rintro ⟨rfl, h2⟩; exact ⟨rfl, h2⟩
theorem zn0 {Y Y' : Store} : z2f .ef (Hist.same Y) Y Y' = (Y' = Y) := rfl
theorem zn2 {Y : Store} : z43 .ef (Hist.same Y) Y = Hist.same Y := by
  have e : (fun t => t = Y \/ t = Y) = fun t => t = Y := funext fun t => propext ⟨fun h => h.elim id id, Or.inl⟩
  simp only [z43, Hist.same, e]
def zl (K : Hist -> Env -> Store -> Prop) (H : Hist) (i : AIns) (O : Env) (Y : Store) : Prop :=
  match i.need with
  | .no => z38 (K H) Y false (z24 i O Y)
  | .same => z38 (K H) Y true (z24 i O Y)
  | .rd => rdW K H i.dst i.op O Y (z1c O i.guard)
  | .ef => efW K H i.dst i.op O Y (z1c O i.guard)
  | .pu => False
  | .rd2 => rd2W K H i.dst i.op O Y (z1c O i.guard)
  | .ef2 => ef2W K H i.dst i.op O Y (z1c O i.guard)
def z2b (C : Ctx) (K : Hist -> Env -> Store -> Prop) (H : Hist) (O : Env) (Y : Store) (d : Option Nat) (need : Nd) (f : AX) (xs : List AX) : Option Bool -> Prop
  | some true => callW C K H O d need Y (f.ev O) (xs.map (AX.ev O))
  | some false => K H (putE O d .undef) Y
  | none => False
def zi (C : Ctx) (K : Env -> Store -> Prop) : List AIns -> Hist -> Env -> Store -> Prop
  | [], _, O, Y => K O Y
  | i :: l, H, O, Y => match i.op with
    | .call f xs => z2b C (zi C K l) H O Y i.dst i.need f xs (z1c O i.guard)
    | _ => zl (zi C K l) H i O Y
def zd5 (C : Ctx) (F : Hist -> Env -> Store -> Prop) (i : AIns) (H : Hist) (O : Env) (Y : Store) : Prop := match i.op with
  | .call f xs => z2b C F H O Y i.dst i.need f xs (z1c O i.guard)
  | _ => zl F H i O Y
theorem zq1 {C : Ctx} {F : Hist -> Env -> Store -> Prop} {H : Hist} {O : Env} {Y : Store} {d : Option Nat} {g : Option (Nat × Bool)} {n : Nd} {op : AOp} (h : op.isCall = false) :
    zd5 C F ⟨d, g, n, op⟩ H O Y = zl F H ⟨d, g, n, op⟩ O Y := by
  cases op <;> first | rfl | simp [AOp.isCall] at h
theorem zq0 {C : Ctx} {F : Hist -> Env -> Store -> Prop} {H : Hist} {O : Env} {Y : Store} {d : Option Nat} {g : Option (Nat × Bool)} {n : Nd} {f : AX} {xs : List AX} :
    zd5 C F ⟨d, g, n, .call f xs⟩ H O Y = z2b C F H O Y d n f xs (z1c O g) := rfl
/-- A common run, and behind it two ways on. -/
def zu (C : Ctx) (K : Env -> Store -> Prop) (l m : List AIns) : List AIns -> Hist -> Env -> Store -> Prop
  | [], H, O, Y => zi C K l H O Y /\ zi C K m H O Y
  | i :: a, H, O, Y => match i.op with
    | .call f xs => z2b C (zu C K l m a) H O Y i.dst i.need f xs (z1c O i.guard)
    | _ => zl (zu C K l m a) H i O Y
theorem z4l {C : Ctx} {K : Env -> Store -> Prop} {H : Hist} {O : Env} {Y : Store} : zi C K [] H O Y = K O Y := rfl
theorem zgb {C : Ctx} {K : Env -> Store -> Prop} {H : Hist} {O : Env} {Y : Store} {d : Option Nat} {g : Option (Nat × Bool)} {n : Nd} {op : AOp} {l : List AIns} (h : op.isCall = false) :
    zi C K (⟨d, g, n, op⟩ :: l) H O Y = zl (zi C K l) H ⟨d, g, n, op⟩ O Y := by
  cases op <;> first | rfl | simp [AOp.isCall] at h
theorem z3j {C : Ctx} {K : Env -> Store -> Prop} {H : Hist} {O : Env} {Y : Store} {d : Option Nat} {g : Option (Nat × Bool)} {n : Nd} {f : AX} {xs : List AX} {l : List AIns} :
    zi C K (⟨d, g, n, .call f xs⟩ :: l) H O Y = z2b C (zi C K l) H O Y d n f xs (z1c O g) := rfl
section
variable {C : Ctx} {K : Hist -> Env -> Store -> Prop} {H : Hist} {O : Env} {d : Option Nat} {Y Y' : Store} {fid : FuncId} {caps xs : List AV} {v : AV}
theorem callW.mk (h : ACallsTo C fid (xs ++ caps) Y v Y') (hk : K H (putE O d v) Y') : callW C K H O d .no Y (.fn fid caps) xs := .inl ⟨v, Y', h, trivial, hk⟩
theorem callW.zp (h : ACallsTo C fid (xs ++ caps) Y v Y) (hk : K H (putE O d v) Y) : callW C K H O d .no Y (.fn fid caps) xs := .inl ⟨v, Y, h, trivial, hk⟩
theorem callW.mk_same (h : ACallsTo C fid (xs ++ caps) Y v Y) (hk : K H (putE O d v) Y) : callW C K H O d .same Y (.fn fid caps) xs := .inl ⟨v, Y, h, rfl, hk⟩
theorem callW.mk_ef (h : ACallsTo C fid (xs ++ caps) Y v Y') (hr : H.rds Y') (hk : K ⟨fun s => H.pre s \/ s = Y, H.rds, H.rd2⟩ (putE O d v) Y') : callW C K H O d .ef Y (.fn fid caps) xs := .inl ⟨v, Y', h, hr, hk⟩
theorem callW.za {nd : Nd} (h : ACallsTo C fid (xs ++ caps) Y v Y') (hn : z2f nd H Y Y') (hk : K (z43 nd H Y) (putE O d v) Y') : callW C K H O d nd Y (.fn fid caps) xs := .inl ⟨v, Y', h, hn, hk⟩
theorem callW.mkP {P : AV -> Store -> Prop} (h : ACallsP C fid (xs ++ caps) Y P) (hne : ∃ v Y', P v Y') (hk : ∀ v Y', P v Y' -> K H (putE O d v) Y') : callW C K H O d .no Y (.fn fid caps) xs :=
  .inr (.inl ⟨.inl rfl, P, h, hne, fun v Y' hp => ⟨trivial, hk v Y' hp⟩⟩)
theorem callW.mkP_ef {P : AV -> Store -> Prop} (h : ACallsP C fid (xs ++ caps) Y P) (hne : ∃ v Y', P v Y') (hk : ∀ v Y', P v Y' -> H.rds Y' /\ K ⟨fun s => H.pre s \/ s = Y, H.rds, H.rd2⟩ (putE O d v) Y') :
    callW C K H O d .ef Y (.fn fid caps) xs := .inr (.inl ⟨.inr rfl, P, h, hne, hk⟩)
theorem callW.mk_pu (h : ∀ h, ACallsTo C fid (xs ++ caps) h v h) (hk : K H (putE O d v) Y) : callW C K H O d .pu Y (.fn fid caps) xs := .inr (.inr (.inl ⟨rfl, v, h, hk⟩))
theorem callW.mk_pu2 (h : ACallsTo C fid (xs ++ caps) Y v Y) (hp : ∀ h, H.pre h -> ACallsTo C fid (xs ++ caps) h v h) (hk : K ⟨H.pre, fun s => H.rds s /\ ACallsTo C fid (xs ++ caps) s v s, H.rd2⟩ (putE O d v) Y) : callW C K H O d .pu Y (.fn fid caps) xs := .inr (.inr (.inr ⟨rfl, v, h, hp, hk⟩))
end

/-- A call of a Go function value, and what is no such call. -/
theorem zk3 {C : Ctx} {op : Op} {f : AX} {xs : List AX} (h : cOp C op = some (.call f xs)) : ∃ fo args, z1p op = some (fo, args) /\ cX C fo = some f /\ cXs C args.toList = some xs := by
  cases op
  case call c =>
    obtain ⟨callee, cargs, ats⟩ := c
    cases callee
    case value => 
      simp only [cOp, Option.bind_eq_some_iff, Option.map_eq_some_iff, AOp.call.injEq] at h
      obtain ⟨f', hf, xs', hxs, rfl, rfl⟩ := h
      exact ⟨_, _, rfl, hf, hxs⟩
    case invoke => simp [cOp] at h
    case builtin b =>
      simp only [cOp, Option.bind_eq_some_iff] at h
      obtain ⟨ys, hys, h⟩ := h
      exfalso
      split at h
      · split at h <;> (try split at h) <;> simp at h
      · simp only [Option.bind_eq_some_iff] at h
        obtain ⟨e, he, sz, hsz, by_, hby, z, hz, zc, hzc, h⟩ := h
        split at h
        · by_cases hB : e = u8T /\ sz = 1
          · rw [if_pos hB] at h; simp at h
          · rw [if_neg hB] at h; simp at h
        · simp at h
      · simp [Option.bind_eq_some_iff] at h
      · simp [Option.bind_eq_some_iff] at h
      · simp at h
      · simp at h
      · cases h
  case makeFunc fn first captured =>
    cases fn <;> simp only [cOp, reduceCtorEq] at h
    split at h <;> simp at h
  case build t ps =>
    simp only [cOp, Option.bind_eq_some_iff] at h
    obtain ⟨z, hz, zc, hzc, h⟩ := h
    exfalso
    split at h <;> simp [Option.bind_eq_some_iff] at h
  case alloc t =>
    simp only [cOp, Option.bind_eq_some_iff] at h
    obtain ⟨z, hz, h⟩ := h
    exfalso
    split at h
    · split at h <;> simp at h
    · simp at h
  case buildSlice t n ps =>
    simp only [cOp, Option.bind_eq_some_iff] at h
    obtain ⟨e, he, sz, hsz, z, hz, h⟩ := h
    exfalso
    split at h <;> simp at h
  case convert s d x =>
    simp only [cOp, Option.bind_eq_some_iff] at h
    obtain ⟨a, ha, h⟩ := h
    exfalso
    split at h
    · simp at h
    · split at h
      · split at h
        · simp at h
        · split at h <;> simp at h
      · split at h <;> simp at h
  case makeSlice t l c =>
    simp only [cOp, Option.bind_eq_some_iff] at h
    obtain ⟨e, he, sz, hsz, by_, hby, z, hz, zc, hzc, l', hl, c', hc, h⟩ := h
    exfalso
    split at h <;> simp at h
  case slice t x lo hi mx =>
    simp only [cOp, Option.bind_eq_some_iff] at h
    obtain ⟨x', hx, lo', hlo, hi', hhi, mx', hmx, h⟩ := h
    exfalso
    split at h
    · simp at h
    · split at h <;> simp [Option.bind_eq_some_iff] at h
  case indexAddr t x i =>
    simp only [cOp, Option.bind_eq_some_iff] at h
    obtain ⟨x', hx, i', hi, h⟩ := h
    exfalso
    split at h <;> simp [Option.bind_eq_some_iff] at h
  case index t x i =>
    simp only [cOp, Option.bind_eq_some_iff] at h
    obtain ⟨x', hx, i', hi, h⟩ := h
    exfalso
    split at h <;> simp [Option.bind_eq_some_iff] at h
  all_goals simp [cOp, Option.bind_eq_some_iff, Option.map_eq_some_iff] at h

/-! Operations of a region. -/
def z9q (ops : Array Oper) : Option (Nat × Bool) -> Option (Option (Nat × Bool))
  | none => some none
  | some g => match (ops[g.1]?).bind (·.dst) with
    | some d => some (some (d, g.2))
    | none => none
theorem zk2 {ops : Array Oper} {o : Oper} {g : Option (Nat × Bool)} (h : z9q ops o.guard = some g) (O : Env) : z2n ops O o = z1c O g := by
  unfold z2n
  cases hg : o.guard with
  | none => rw [hg] at h; simp only [z9q, Option.some.injEq] at h; subst h; rfl
  | some k =>
    rw [hg] at h
    simp only [z9q] at h
    split at h
    · rename_i d hd
      simp only [Option.some.injEq] at h; subst h
      simp only [hd, z1c] <;> rfl
    · cases h
def cIns (C : Ctx) (ops : Array Oper) (need : Nd) (o : Oper) : Option AIns :=
  (z9q ops o.guard).map fun g => ⟨o.dst, g, need, (cOp C o.op).getD .stuck⟩
/-- What the abstract machine has seen, against what the operations have. -/
def HR (H H' : Hist) : Prop := (∀ s, H'.pre s -> H.pre s) /\ (∀ s, H.rds s -> H'.rds s) /\ ∀ s, H.rd2 s -> H'.rd2 s
theorem zef {C : Ctx} {ops : Array Oper} {need : Nd} {o : Oper} {i : AIns} (h : cIns C ops need o = some i) {F : Hist -> Env -> Store -> Prop} {K' : Hist -> Env -> Store -> Prop} (hK : ∀ H H' O Y, HR H H' -> F H O Y -> K' H' O Y)
    {H H' : Hist} (hH : HR H H') {O : Env} {Y : Store} (hw : zd5 C F i H O Y) : z1v C ops need o K' H' O Y := by
  simp only [cIns, Option.map_eq_some_iff] at h
  obtain ⟨g, hg, rfl⟩ := h
  have ha : (cOp C o.op).getD .stuck ≠ .stuck -> cOp C o.op = some ((cOp C o.op).getD .stuck) := by
    intro h
    cases hc : cOp C o.op with
    | none => rw [hc] at h; exact absurd rfl h
    | some a => rfl
  generalize (cOp C o.op).getD .stuck = a at *
  unfold z1v
  rw [zk2 hg]
  have nocall : a.isCall = false -> (match z1c O g with | some true => (∃ v Y', OpTo C (ev C O) Y o.op v Y' /\ need.ok C (ev C O) o.op v H' Y Y' /\ K' (need.next C (ev C O) o.op v H' Y) (putE O o.dst v) Y') \/ ((need = .no \/ need = .ef) /\ zb1 C need o K' H' O Y) | some false => K' H' (putE O o.dst .undef) Y | none => False) := by
    intro hc
    rw [zq1 hc] at hw
    have to : ∀ {s : Store} {r : AV × Store}, a.run O s = some r -> OpTo C (ev C O) s o.op r.1 r.2 := by
      intro s r hr
      obtain ⟨h1, h2⟩ := zk4 (ha (by rintro rfl; simp [AOp.run] at hr)) hr
      unfold OpTo; rw [h1]; exact h2
    cases need
    · -- nothing owed
      simp only [zl, z24] at hw
      cases hgv : z1c O g with
      | none => rw [hgv] at hw; exact hw.elim
      | some b =>
        rw [hgv] at hw
        cases b with
        | false => exact hK _ _ _ _ hH hw
        | true =>
          simp only at hw ⊢
          cases hr : a.run O Y with
          | none => rw [hr] at hw; exact hw.elim
          | some r => rw [hr] at hw; exact .inl ⟨r.1, r.2, to hr, trivial, hK _ _ _ _ hH hw⟩
    · simp only [zl, z24] at hw
      cases hgv : z1c O g with
      | none => rw [hgv] at hw; exact hw.elim
      | some b =>
        rw [hgv] at hw
        cases b with
        | false => exact hK _ _ _ _ hH hw.2
        | true =>
          simp only at hw ⊢
          cases hr : a.run O Y with
          | none => rw [hr] at hw; exact hw.elim
          | some r => rw [hr] at hw; exact .inl ⟨r.1, r.2, to hr, hw.1, hK _ _ _ _ hH hw.2⟩
    · simp only [zl] at hw
      cases hgv : z1c O g with
      | none => rw [hgv] at hw; exact hw.elim
      | some b =>
        rw [hgv] at hw
        cases b with
        | false => exact hK _ _ _ _ hH hw
        | true =>
          simp only [rdW] at hw ⊢
          cases hr : a.run O Y with
          | none => rw [hr] at hw; exact hw.elim
          | some r =>
            rw [hr] at hw
            obtain ⟨k1, k2, k3⟩ := hw
            obtain ⟨v, s⟩ := r
            simp only at k1 k2 k3
            subst k1
            refine .inl ⟨v, s, to hr, ⟨rfl, fun h hh => to (k2 h (hH.1 h hh))⟩, hK ⟨H.pre, fun t => H.rds t /\ a.run O t = some (v, t), H.rd2⟩ _ _ _ ⟨hH.1, fun t ht => ⟨hH.2.1 t ht.1, to ht.2⟩, hH.2.2⟩ k3⟩
    · simp only [zl] at hw
      cases hgv : z1c O g with
      | none => rw [hgv] at hw; exact hw.elim
      | some b =>
        rw [hgv] at hw
        cases b with
        | false => exact hK _ _ _ _ hH hw
        | true =>
          simp only [efW] at hw ⊢
          cases hr : a.run O Y with
          | none => rw [hr] at hw; exact hw.elim
          | some r =>
            rw [hr] at hw
            exact .inl ⟨r.1, r.2, to hr, hH.2.1 _ hw.1, hK ⟨fun s => H.pre s \/ s = Y, H.rds, H.rd2⟩ _ _ _ ⟨fun s hs => hs.imp (hH.1 s) id, hH.2⟩ hw.2⟩
    · simp only [zl] at hw
    · simp only [zl] at hw
      cases hgv : z1c O g with
      | none => rw [hgv] at hw; exact hw.elim
      | some b =>
        rw [hgv] at hw
        cases b with
        | false => exact hK _ _ _ _ hH hw
        | true =>
          simp only [rd2W] at hw ⊢
          cases hr : a.run O Y with
          | none => rw [hr] at hw; exact hw.elim
          | some r =>
            rw [hr] at hw
            obtain ⟨k1, k2, k3⟩ := hw
            obtain ⟨v, s⟩ := r
            simp only at k1 k2 k3
            subst k1
            refine .inl ⟨v, s, to hr, ⟨rfl, fun h hh => to (k2 h (hH.1 h hh))⟩, hK ⟨H.pre, fun t => H.rds t /\ a.run O t = some (v, t), fun t => H.rd2 t /\ a.run O t = some (v, t)⟩ _ _ _ ⟨hH.1, fun t ht => ⟨hH.2.1 t ht.1, to ht.2⟩, fun t ht => ⟨hH.2.2 t ht.1, to ht.2⟩⟩ k3⟩
    · simp only [zl] at hw
      cases hgv : z1c O g with
      | none => rw [hgv] at hw; exact hw.elim
      | some b =>
        rw [hgv] at hw
        cases b with
        | false => exact hK _ _ _ _ hH hw
        | true =>
          simp only [ef2W] at hw ⊢
          cases hr : a.run O Y with
          | none => rw [hr] at hw; exact hw.elim
          | some r =>
            rw [hr] at hw
            exact .inl ⟨r.1, r.2, to hr, hH.2.2 _ hw.1, hK ⟨fun s => H.pre s \/ s = Y, H.rds, H.rd2⟩ _ _ _ ⟨fun s hs => hs.imp (hH.1 s) id, hH.2⟩ hw.2⟩
  cases a
  case call f xs =>
    obtain ⟨fo, args, h1, h2, h3⟩ := zk3 (ha (by simp))
    rw [zq0] at hw
    cases hgv : z1c O g with
    | none => rw [hgv] at hw; exact hw.elim
    | some b =>
      rw [hgv] at hw
      cases b with
      | false => exact hK _ _ _ _ hH hw
      | true =>
        simp only [z2b, callW, z1a h2] at hw ⊢
        split at hw
        · rename_i fid caps hf
          have okn : ∀ {v : AV} {Y' : Store}, z2f need H Y Y' -> need.ok C (ev C O) o.op v H' Y Y' := by
            intro v Y' hn
            cases need <;> simp only [z2f, Nd.ok] at hn ⊢
            · exact hn
            · exact hH.2.1 _ hn
          have nxt : ∀ {v : AV}, z2f need H Y Y \/ need = .no \/ need = .ef \/ need = .same -> HR (z43 need H Y) (need.next C (ev C O) o.op v H' Y) := by
            intro v hn
            cases need <;> simp only [z43, Nd.next]
            · exact hH
            · exact hH
            · simp [z2f] at hn
            · exact ⟨fun s hs => hs.imp (hH.1 s) id, hH.2⟩
            · simp [z2f] at hn
            · simp [z2f] at hn
            · simp [z2f] at hn
          rcases hw with ⟨v, Y', h4, h5, h6⟩ | ⟨h0, P, h4, hne, h6⟩ | ⟨rfl, v, h4, h6⟩ | ⟨rfl, v, h4, h5, h6⟩
          · have hn : z2f need H Y Y \/ need = .no \/ need = .ef \/ need = .same := by cases need <;> first | exact .inr (.inl rfl) | exact .inr (.inr (.inl rfl)) | exact .inr (.inr (.inr rfl)) | exact h5.elim
            refine .inl ⟨v, Y', ?_, okn h5, hK _ _ _ _ (nxt hn) h6⟩
            unfold OpTo
            rw [h1]
            refine ⟨fid, caps, hf, ?_⟩
            rw [<- z6u h3]; exact h4
          · have hn : z2f need H Y Y \/ need = .no \/ need = .ef \/ need = .same := .inr (h0.imp id .inl)
            refine .inr ⟨h0, P, ⟨_, h1, fid, caps, hf, ?_⟩, hne, fun v Y' hp => ⟨okn (h6 v Y' hp).1, hK _ _ _ _ (nxt hn) (h6 v Y' hp).2⟩⟩
            rw [<- z6u h3]; exact h4
          · have hto : ∀ s, OpTo C (ev C O) s o.op v s := by
              intro s
              unfold OpTo
              rw [h1]
              refine ⟨fid, caps, hf, ?_⟩
              rw [<- z6u h3]; exact h4 s
            exact .inl ⟨v, Y, hto Y, ⟨rfl, fun s _ => hto s⟩, hK _ _ _ _ ⟨hH.1, fun s hs => ⟨hH.2.1 s hs, hto s⟩, hH.2.2⟩ h6⟩
          · have hto : ∀ s, ACallsTo C fid (xs.map (AX.ev O) ++ caps) s v s -> OpTo C (ev C O) s o.op v s := by
              intro s hs
              unfold OpTo
              rw [h1]
              refine ⟨fid, caps, hf, ?_⟩
              rw [<- z6u h3]; exact hs
            exact .inl ⟨v, Y, hto Y h4, ⟨rfl, fun s hs => hto s (h5 s (hH.1 s hs))⟩, hK ⟨H.pre, fun s => H.rds s /\ ACallsTo C fid (xs.map (AX.ev O) ++ caps) s v s, H.rd2⟩ _ _ _ ⟨hH.1, fun s hs => ⟨hH.2.1 s hs.1, hto s hs.2⟩, hH.2.2⟩ h6⟩
        · exact hw.elim
  all_goals exact nocall rfl
theorem zee {C : Ctx} {ops : Array Oper} {need : Nd} {o : Oper} {i : AIns} (h : cIns C ops need o = some i) {l : List AIns} {K : Env -> Store -> Prop} {K' : Hist -> Env -> Store -> Prop} (hK : ∀ H H' O Y, HR H H' -> zi C K l H O Y -> K' H' O Y)
    {H H' : Hist} (hH : HR H H') {O : Env} {Y : Store} (hw : zi C K (i :: l) H O Y) : z1v C ops need o K' H' O Y := zef h (F := zi C K l) hK hH hw
def cOps (C : Ctx) (ops : Array Oper) (need : Nat -> Nd) : List Oper -> Nat -> Option (List AIns)
  | [], _ => some []
  | o :: l, i => (cIns C ops (need i) o).bind fun a => (cOps C ops need l (i + 1)).map (a :: ·)
theorem z82 {C : Ctx} {ops : Array Oper} {need : Nat -> Nd} {K : Env -> Store -> Prop} : ∀ (l : List Oper) (i : Nat) (as_ : List AIns), (∀ j, l[j]? = ops[i + j]?) -> cOps C ops need l i = some as_ ->
    ∀ H H' O Y, HR H H' -> zi C K as_ H O Y -> z1l C ops need K (List.range' i l.length) H' O Y
  | [], i, as_, _, h, H, H', O, Y, hH, hw => by simp only [cOps, Option.some.injEq] at h; subst h; exact hw
  | o :: l, i, as_, hl, h, H, H', O, Y, hH, hw => by
    simp only [cOps, Option.bind_eq_some_iff, Option.map_eq_some_iff] at h
    obtain ⟨a, ha, as', has, rfl⟩ := h
    have h0 : ops[i]? = some o := by have := hl 0; simpa using this.symm
    simp only [List.length_cons, List.range'_succ, z1l, h0]
    refine zee ha (l := as') (K := K) (fun H H' O Y hH hk => ?_) hH hw
    refine z82 l (i + 1) as' (fun j => ?_) has H H' O Y hH hk
    have := hl (j + 1)
    simp only [List.getElem?_cons_succ] at this
    rw [this]; congr 1; omega

/-- Stores that an elder read of the same type is ahead of ask only late reads: those in no order with them. -/
def late (C : Ctx) (ops : Array Oper) (nd : List Nd) : List Nd :=
  let cl := z2a [] ops.toList
  let ty (j : Nat) : Option (Bool × TypeId) := match ops[j]? with | some p => (match p.op with | .load t _ => some (false, t) | .store t _ _ => some (true, t) | _ => none) | none => none
  let two (i : Nat) : Bool := nd.getD i .no == .ef && (match ty i with
    | some (true, t) => (List.range i).any fun x => nd.getD x .no == .rd && ty x == some (false, t) && ahead_ cl x i
    | _ => false)
  let ss := (List.range ops.size).filter two
  if ss.isEmpty then nd else
    (List.range ops.size).map fun i => match nd.getD i .no with
      | .ef => if ss.contains i then .ef2 else .ef
      | .rd => if ss.any fun j => !ahead_ cl i j && !ahead_ cl j i then .rd2 else .rd
      | n => n
/-- In a region whose order is drawn: who has a partner in no order, where neither leaves the store alone by itself. -/
def z6f (C : Ctx) (ops : Array Oper) : List Nd :=
  let cl := z2a [] ops.toList
  let mate (i j : Nat) : Bool := match ops[j]? with
    | some p => !(j == i) && !opN C p.op && !ahead_ cl j i && !ahead_ cl i j
    | none => false
  let rdr (j : Nat) : Bool := match ops[j]? with | some p => opR p.op | none => false
  (List.range ops.size).map fun i => match ops[i]? with
    | some o => if opN C o.op then .no else
        let l := (List.range ops.size).filter (mate i)
        if l.isEmpty then .no else if opR o.op then .rd else if l.all rdr then .ef else .same
    | none => .no
/-- Two and more pairs of which one makes an object: the calls among them must give the same at every store. -/
def zbq (C : Ctx) (ops : Array Oper) : List Nd :=
  let cl := z2a [] ops.toList
  let mate (i j : Nat) : Bool := match ops[j]? with
    | some p => !(j == i) && !opN C p.op && !ahead_ cl j i && !ahead_ cl i j
    | none => false
  let rdr (j : Nat) : Bool := match ops[j]? with | some p => opR p.op | none => false
  let rdc (j : Nat) : Bool := match ops[j]? with | some p => opR p.op || (z1p p.op).isSome | none => false
  (List.range ops.size).map fun i => match ops[i]? with
    | some o => if opN C o.op then .no else
        let l := (List.range ops.size).filter (mate i)
        if l.isEmpty then .no else if opR o.op then .rd else if (z1p o.op).isSome && !l.all rdr then .pu else if l.all rdc then .ef else .same
    | none => .no
def z89 (n : Nat) (ops : Array Oper) : Bool := ops.all fun o => match o.dst with | some d => decide (d < n) | none => true
theorem z9s {n : Nat} {ops : Array Oper} (h : z89 n ops = true) : ∀ o ∈ ops, ∀ d, o.dst = some d -> d < n := by
  intro o ho d hd
  unfold z89 at h
  rw [Array.all_eq_true_iff_forall_mem] at h
  have := h o ho
  rw [hd] at this
  simpa using this

theorem zbz {C : Ctx} {ops : Array Oper} {need : Nat -> Nd} {K : Env -> Store -> Prop} {Q : Exit -> Act -> World -> Prop} {n : Nat} (hdst : ∀ o ∈ ops, ∀ d, o.dst = some d -> d < n) :
    ∀ (L : List Nat) (H : Hist) (O : Env) (Y : Store) (J : Places) (a : Act) (w : World), z1l C ops need K L H O Y -> Rel C J Y w -> EnvR J w O a.tmps -> a.tmps.size = n ->
      (∀ O' Y' J' a' w', K O' Y' -> Step J w J' w' -> Rel C J' Y' w' -> EnvR J' w' O' a'.tmps -> a'.defers = a.defers -> a'.tmps.size = n -> Q .normal a' w') -> wpOps C.P ops Q L a w
  | [], _, O, Y, J, a, w, h, hR, hE, hn, hQ => hQ O Y J a w h (Step.refl _ _) hR hE rfl hn
  | i :: L, H, O, Y, J, a, w, h, hR, hE, hn, hQ => by
    rw [wpOps_cons]
    simp only [z1l] at h
    cases ho : ops[i]? with
    | none => rw [ho] at h; exact h.elim
    | some o =>
      rw [ho] at h
      have hmem : o ∈ ops := by
        obtain ⟨hi, rfl⟩ := Array.getElem?_eq_some_iff.1 ho
        exact Array.getElem_mem hi
      refine z3e ho (fun x hx => by rw [hn]; exact hdst o hmem x hx) hR hE h fun H' O' Y' J' a' w' hK hst hR' hE' hdf hsz => ?_
      refine zbz hdst L H' O' Y' J' a' w' hK hR' hE' (hsz.trans hn) fun O2 Y2 J2 a2 w2 k1 k2 k3 k4 k5 k6 => ?_
      exact hQ O2 Y2 J2 a2 w2 k1 (hst.trans k2) k3 k4 (k5.trans hdf) k6

/-- Two operations in no order, of which one makes a new object, and that is the region's only such pair: both orders are gone through. -/
def makes : Op -> Bool
  | .alloc _ => true
  | .box _ _ => true
  | _ => false
def zdc (C : Ctx) (ops : Array Oper) : List (Nat × Nat) :=
  let cl := z2a [] ops.toList
  let nd := z6f C ops
  ((List.range ops.size).flatMap fun i => ((List.range i).filter fun x => nd.getD x .no == .same && nd.getD i .no == .same && !ahead_ cl x i &&
      (match ops[x]?, ops[i]? with | some ox, some oi => makes ox.op || makes oi.op | _, _ => false)).map fun x => (x, i))
def zbp (C : Ctx) (ops : Array Oper) : List Nd := match zdc C ops with
  | _ :: _ :: _ => zbq C ops
  | _ => late C ops (z6f C ops)
def twinP (C : Ctx) (ops : Array Oper) : Option (Nat × Nat) := match zdc C ops with
  | [pq] => some pq
  | _ => none
def z6m (C : Ctx) (ops : Array Oper) (p q : Nat) (i : Nat) : Nd := if i = p \/ i = q then .ef else (z6f C ops).getD i .no
def zbv (C : Ctx) (ops : Array Oper) (p q : Nat) : Bool :=
  let cl := z2a [] ops.toList
  let need := z6m C ops p q
  decide (p < q) && decide (q < ops.size) &&
  ((List.range ops.size).all fun i => (List.range i).all fun x => (decide (x = p) && decide (i = q)) || ahead_ cl x i || free2 C ops need x i) &&
  ((List.range ops.size).all fun y => !(decide (p < y) && decide (y < q)) || free2 C ops need q y) &&
  ((List.range ops.size).all fun y => decide (y = p) || decide (y = q) || (match ops[y]? with | some o => (z1p o.op).isNone | none => false) || ahead_ cl p y || ahead_ cl q y)
/-- The order with the second one ahead of the first. -/
def twinL (p q : Nat) (n : Nat) : List Nat := List.range' 0 p ++ q :: p :: (List.range' (p + 1) (q - (p + 1)) ++ List.range' (q + 1) (n - (q + 1)))
def cSel (C : Ctx) (ops : Array Oper) (need : Nat -> Nd) : List Nat -> Option (List AIns)
  | [] => some []
  | i :: l => (ops[i]?).bind fun o => (cIns C ops (need i) o).bind fun a => (cSel C ops need l).map (a :: ·)
theorem z83 {C : Ctx} {ops : Array Oper} {need : Nat -> Nd} {K : Env -> Store -> Prop} : ∀ (l : List Nat) (as_ : List AIns), cSel C ops need l = some as_ ->
    ∀ H H' O Y, HR H H' -> zi C K as_ H O Y -> z1l C ops need K l H' O Y
  | [], as_, h, H, H', O, Y, hH, hw => by simp only [cSel, Option.some.injEq] at h; subst h; exact hw
  | i :: l, as_, h, H, H', O, Y, hH, hw => by
    simp only [cSel, Option.bind_eq_some_iff, Option.map_eq_some_iff] at h
    obtain ⟨o, h0, a, ha, as', has, rfl⟩ := h
    simp only [z1l, h0]
    exact zee ha (l := as') (K := K) (fun H H' O Y hH hk => z83 l as' has H H' O Y hH hk) hH hw
def z84 (C : Ctx) (ops : Array Oper) (p q : Nat) : Option ACode :=
  if C.P.follows .mixedOrders = true /\ zbv C ops p q = true /\ z3y ops = true then
    (cSel C ops (z6m C ops p q) (List.range' 0 ops.size)).bind fun a => (cSel C ops (z6m C ops p q) (twinL p q ops.size)).map fun b => .reg2 a b
  else none
/-! Two and more pairs of which one makes an object, where the calls among them give the same at every store and one pair is left: both orders, with a common run of what stands ahead. -/
def twinsP (C : Ctx) (ops : Array Oper) : List (Nat × Nat) :=
  let cl := z2a [] ops.toList
  let nd := zbq C ops
  ((List.range ops.size).flatMap fun i => ((List.range i).filter fun x => nd.getD x .no == .same && nd.getD i .no == .same && !ahead_ cl x i &&
      (match ops[x]?, ops[i]? with | some ox, some oi => makes ox.op || makes oi.op | _, _ => false)).map fun x => (x, i))
def twinPJ (C : Ctx) (ops : Array Oper) : Option (Nat × Nat) := match zdc C ops with
  | _ :: _ :: _ => (match twinsP C ops with
    | [pq] => some pq
    | _ => none)
  | _ => none
def z8z (C : Ctx) (ops : Array Oper) (p q : Nat) (i : Nat) : Nd := if i = p \/ i = q then .ef else (zbq C ops).getD i .no
def zbw (C : Ctx) (ops : Array Oper) (p q : Nat) : Bool :=
  let cl := z2a [] ops.toList
  let need := z8z C ops p q
  decide (p < q) && decide (q < ops.size) &&
  ((List.range ops.size).all fun i => (List.range i).all fun x => (decide (x = p) && decide (i = q)) || ahead_ cl x i || free2 C ops need x i) &&
  ((List.range ops.size).all fun y => !(decide (p < y) && decide (y < q)) || free2 C ops need q y) &&
  ((List.range ops.size).all fun y => decide (y < p) || decide (y = p) || decide (y = q) || (match ops[y]? with | some o => (z1p o.op).isNone | none => false) || ahead_ cl p y || ahead_ cl q y)
def z8m (p : Nat) : AIns := ⟨some p, none, .pu, .stuck⟩
def zhs (p q : Nat) (n : Nat) : List Nat := q :: p :: (List.range' (p + 1) (q - (p + 1)) ++ List.range' (q + 1) (n - (q + 1)))
def z85 (C : Ctx) (ops : Array Oper) (p q : Nat) : Option ACode :=
  if C.P.follows .mixedOrders = true /\ zbw C ops p q = true /\ z3y ops = true then
    (cSel C ops (z8z C ops p q) (List.range' 0 ops.size)).bind fun a => (cSel C ops (z8z C ops p q) (zhs p q ops.size)).map fun b => .reg2 a (z8m p :: b)
  else none
theorem z86 {C : Ctx} {ops : Array Oper} {p q : Nat} {ac : ACode} (h : z85 C ops p q = some ac) : ∃ a b, ac = .reg2 a (z8m p :: b) /\ C.P.follows .mixedOrders = true /\ zbw C ops p q = true /\ z3y ops = true ∧
    cSel C ops (z8z C ops p q) (List.range' 0 ops.size) = some a /\ cSel C ops (z8z C ops p q) (zhs p q ops.size) = some b := by
  simp only [z85] at h
  split at h
  · rename_i hok
    simp only [Option.bind_eq_some_iff, Option.map_eq_some_iff] at h
    obtain ⟨a, h1, b, h2, rfl⟩ := h
    exact ⟨a, b, rfl, hok.1, hok.2.1, hok.2.2, h1, h2⟩
  · cases h
theorem zeh {C : Ctx} {ops : Array Oper} {need : Nat -> Nd} {B : List Nat} : ∀ (A : List Nat) (as_ : List AIns), cSel C ops need (A ++ B) = some as_ -> ∃ a b, as_ = a ++ b /\ a.length = A.length /\ cSel C ops need A = some a /\ cSel C ops need B = some b
  | [], as_, h => ⟨[], as_, rfl, rfl, rfl, h⟩
  | i :: A, as_, h => by
    simp only [List.cons_append, cSel, Option.bind_eq_some_iff, Option.map_eq_some_iff] at h
    obtain ⟨o, h0, x, hx, as', has, rfl⟩ := h
    obtain ⟨a, b, rfl, h1, h2, h3⟩ := zeh A as' has
    exact ⟨x :: a, b, rfl, by simp [h1], by simp [cSel, h0, hx, h2], h3⟩
theorem zei {C : Ctx} {ops : Array Oper} {need : Nat -> Nd} : ∀ (A : List Nat) (as_ : List AIns), cSel C ops need A = some as_ -> ∀ a ∈ as_, ∃ i, a.need = need i
  | [], as_, h => by simp only [cSel, Option.some.injEq] at h; subst h; simp
  | i :: A, as_, h => by
    simp only [cSel, Option.bind_eq_some_iff, Option.map_eq_some_iff] at h
    obtain ⟨o, h0, x, hx, as', has, rfl⟩ := h
    intro a ha
    rcases List.mem_cons.1 ha with rfl | ha
    · simp only [cIns, Option.map_eq_some_iff] at hx
      obtain ⟨g, _, rfl⟩ := hx
      exact ⟨i, rfl⟩
    · exact zei A as' has a ha
theorem zmt {C : Ctx} {ops : Array Oper} (i : Nat) : (z6f C ops).getD i .no ≠ .pu := by
  have : ∀ x ∈ z6f C ops, x ≠ .pu := by
    intro x hx
    simp only [z6f, List.mem_map] at hx
    obtain ⟨j, _, rfl⟩ := hx
    split
    · split
      · simp
      · split
        · simp
        · split
          · simp
          · split <;> simp
    · simp
  rw [List.getD_eq_getElem?_getD]
  cases h : (z6f C ops)[i]? with
  | none => simp
  | some x => exact this x (List.mem_of_getElem? h)
theorem zqq {C : Ctx} {ops : Array Oper} (p q i : Nat) : z6m C ops p q i ≠ .pu := by
  unfold z6m
  split
  · simp
  · exact zmt i
theorem zeg {C : Ctx} {ops : Array Oper} {need : Nat -> Nd} {K : Env -> Store -> Prop} {p q : Nat} {B D : List Nat} {l m : List AIns} (hl : cSel C ops need (p :: (B ++ q :: D)) = some l) (hm : cSel C ops need (q :: p :: (B ++ D)) = some m) :
    ∀ (A : List Nat) (as_ : List AIns), cSel C ops need A = some as_ -> ∀ H H' O Y, HR H H' -> zu C K l m as_ H O Y -> z1t C ops need (z5s C ops need K p q B D) A H' O Y
  | [], as_, h, H, H', O, Y, hH, hw => by
    simp only [cSel, Option.some.injEq] at h
    subst h
    exact ⟨z83 _ _ hl H H' O Y hH hw.1, z83 _ _ hm H H' O Y hH hw.2⟩
  | i :: A, as_, h, H, H', O, Y, hH, hw => by
    simp only [cSel, Option.bind_eq_some_iff, Option.map_eq_some_iff] at h
    obtain ⟨o, h0, a, ha, as', has, rfl⟩ := h
    simp only [z1t, h0]
    exact zef ha (F := zu C K l m as') (fun H H' O Y hH hk => zeg hl hm A as' has H H' O Y hH hk) hH hw
def z6s (C : Ctx) (ops : Array Oper) : Option ACode :=
  let nd := zbp C ops
  if C.P.follows .mixedOrders = true /\ zbu C ops (fun i => nd.getD i .no) = true /\ z3y ops = true then (cOps C ops (fun i => nd.getD i .no) ops.toList 0).map .reg else none

/-! Code. -/
def z12 (C : Ctx) (n : Nat) : Code -> Option ACode
  | .skip => some .skip
  | .region _ ops draw => if z89 n ops = true then
      (match draw with
       | true => (match twinP C ops with
         | some pq => (match z84 C ops pq.1 pq.2 with
           | some c => some c
           | none => z6s C ops)
         | none => (match twinPJ C ops with
           | some pq => (match z85 C ops pq.1 pq.2 with
             | some c => some c
             | none => z6s C ops)
           | none => z6s C ops))
       | false => (cOps C ops (fun _ => .no) ops.toList 0).map .reg) else none
  | .seq a b => (z12 C n a).bind fun a => (z12 C n b).map fun b => .seq a b
  | .cond c a b => (cX C c).bind fun c => (z12 C n a).bind fun a => (z12 C n b).map fun b => .cond c a b
  | .block id a => (z12 C n a).map fun a => .block id a
  | .loop a => (z12 C n a).map .loop
  | .exit id => some (.exit id)
  | .label _ => some .skip
  | .ret => some .ret
  | .scope a => (z12 C n a).map .scope
  | .rangeFunc g ps a b => (cX C g).bind fun g => (z12 C n a).bind fun a => (z12 C n b).map fun b => .rangef g ps.toList a b
  | _ => some .stuck
theorem z9p {C : Ctx} {ops : Array Oper} {ac : ACode} (h : z6s C ops = some ac) : ∃ l, ac = .reg l /\ C.P.follows .mixedOrders = true /\ zbu C ops (fun i => (zbp C ops).getD i .no) = true /\ z3y ops = true /\ cOps C ops (fun i => (zbp C ops).getD i .no) ops.toList 0 = some l := by
  simp only [z6s] at h
  split at h
  · rename_i hok
    simp only [Option.map_eq_some_iff] at h
    obtain ⟨l, h1, rfl⟩ := h
    exact ⟨l, rfl, hok.1, hok.2.1, hok.2.2, h1⟩
  · cases h
theorem z87 {C : Ctx} {ops : Array Oper} {p q : Nat} {ac : ACode} (h : z84 C ops p q = some ac) : ∃ a b, ac = .reg2 a b /\ C.P.follows .mixedOrders = true /\ zbv C ops p q = true /\ z3y ops = true ∧
    cSel C ops (z6m C ops p q) (List.range' 0 ops.size) = some a /\ cSel C ops (z6m C ops p q) (twinL p q ops.size) = some b := by
  simp only [z84] at h
  split at h
  · rename_i hok
    simp only [Option.bind_eq_some_iff, Option.map_eq_some_iff] at h
    obtain ⟨a, h1, b, h2, rfl⟩ := h
    exact ⟨a, b, rfl, hok.1, hok.2.1, hok.2.2, h1, h2⟩
  · cases h
theorem z9n {C : Ctx} {n id : Nat} {ops : Array Oper} {draw : Bool} {ac : ACode} (h : z12 C n (.region id ops draw) = some ac) :
    z89 n ops = true /\ ((draw = true /\ z6s C ops = some ac) \/ (draw = true /\ ∃ p q, z84 C ops p q = some ac \/ z85 C ops p q = some ac) \/ (draw = false /\ ∃ l, ac = .reg l /\ cOps C ops (fun _ => .no) ops.toList 0 = some l)) := by
  simp only [z12] at h
  split at h
  · rename_i hd
    refine ⟨hd, ?_⟩
    split at h
    · split at h
      · split at h
        · rename_i hc
          exact .inr (.inl ⟨rfl, _, _, .inl (by rw [hc]; exact h)⟩)
        · exact .inl ⟨rfl, h⟩
      · split at h
        · split at h
          · rename_i hc
            exact .inr (.inl ⟨rfl, _, _, .inr (by rw [hc]; exact h)⟩)
          · exact .inl ⟨rfl, h⟩
        · exact .inl ⟨rfl, h⟩
    · simp only [Option.map_eq_some_iff] at h
      obtain ⟨l, h1, rfl⟩ := h
      exact .inr (.inr ⟨rfl, l, rfl, h1⟩)
  · cases h
theorem z4c {C : Ctx} {n id : Nat} {ops : Array Oper} {draw : Bool} {ac : ACode} (h : z12 C n (.region id ops draw) = some ac) : (∃ l, ac = .reg l) \/ ∃ a b, ac = .reg2 a b := by
  rcases (z9n h).2 with ⟨_, h⟩ | ⟨_, p, q, h⟩ | ⟨_, l, h, _⟩
  · obtain ⟨l, h, _⟩ := z9p h; exact .inl ⟨l, h⟩
  · rcases h with h | h
    · obtain ⟨a, b, h, _⟩ := z87 h; exact .inr ⟨a, b, h⟩
    · obtain ⟨a, b, h, _⟩ := z86 h; exact .inr ⟨a, _, h⟩
  · exact .inl ⟨l, h⟩
def AExit.out : AExit -> Exit
  | .normal => .normal
  | .exit id => .exit id
  | .ret => .ret

end Am
end Go.Proofs.YtjgljhbmljgaeaaDoor
end
section
/- THE ABSTRACT MACHINE, part 17: what is no longer needed is let go: objects are dropped, frozen to values, numbered anew. -/
namespace Go.Proofs.YtjgljhbmljgaeaaDoor
namespace Am

structure DC where
  Y : Store
  n : Nat
  pre : Nat -> Nat
  fz : Nat -> Bool

mutual
/-- What an elder value reads as_ behind the change: the new one first. -/
def DR (D : DC) : AV -> AV -> Prop
  | .any, _ => True
  | .undef, a => a = .undef
  | .bool b, a => a = .bool b
  | .int k n, a => a = .int k n
  | .str s, a => a = .str s
  | .nilp, a => a = .nilp
  | .ptr r i off, a => r < D.n /\ a = .ptr (D.pre r) i off
  | .vp cs, a => (∃ cs0, a = .vp cs0 /\ DRs D cs cs0) ∨
      ∃ r i off o e, a = .ptr r i off /\ D.fz r = true /\ D.Y[r]? = some (some o) /\ o[i]? = some e /\ off <= e.length /\ DRs D cs (e.drop off)
  | .nilsl, a => a = .nilsl
  | .vsl esz es ex, a => (∃ es0 ex0, a = .vsl esz es0 ex0 /\ (ex = true -> ex0 = true) /\ DRss D es es0) ∨
      (∃ r off lim o, a = .sl r off es.length lim esz /\ D.fz r = true /\ D.Y[r]? = some (some o) /\ off + es.length <= o.length /\ (ex = true -> lim = some es.length) /\ DRss D es ((o.drop off).take es.length)) ∨
      ∃ r i off cap o cs es1 rest, a = .asl r i off es.length cap esz /\ D.fz r = true /\ D.Y[r]? = some (some o) /\ o[i]? = some cs /\ off <= cs.length /\ cs.drop off = es1.flatten ++ rest /\ (∀ e ∈ es1, e.length = esz) /\ es.length ≠ 0 /\ (ex = true -> cap = es.length) /\ DRss D es es1
  | .sl r off len lim esz, a => r < D.n /\ a = .sl (D.pre r) off len lim esz
  | .asl r i off len cap esz, a => r < D.n /\ a = .asl (D.pre r) i off len cap esz
  | .fn f caps, a => ∃ caps0, a = .fn f caps0 /\ DRs D caps caps0
  | .nilfn, a => a = .nilfn
  | .agg cs, a => ∃ cs0, a = .agg cs0 /\ DRs D cs cs0
  | .tup vs, a => ∃ vs0, a = .tup vs0 /\ DRs D vs vs0
  | .bld r, a => r < D.n /\ a = .bld (D.pre r)
  | .bnil, a => a = .bnil
  | .bsl r len, a => r < D.n /\ a = .bsl (D.pre r) len
def DRs (D : DC) : List AV -> List AV -> Prop
  | [], as_ => as_ = []
  | x :: xs, as_ => ∃ a as', as_ = a :: as' /\ DR D x a /\ DRs D xs as'
def DRss (D : DC) : List (List AV) -> List (List AV) -> Prop
  | [], es => es = []
  | x :: xs, es => ∃ e es', es = e :: es' /\ DRs D x e /\ DRss D xs es'
end

mutual
/-- All references are below k. -/
def RL (k : Nat) : AV -> Prop
  | .ptr r _ _ => r < k
  | .sl r _ _ _ _ => r < k
  | .asl r _ _ _ _ _ => r < k
  | .bld r => r < k
  | .bsl r _ => r < k
  | .vp cs => RLs k cs
  | .vsl _ es _ => RLss k es
  | .fn _ caps => RLs k caps
  | .agg cs => RLs k cs
  | .tup vs => RLs k vs
  | _ => True
def RLs (k : Nat) : List AV -> Prop
  | [] => True
  | a :: as_ => RL k a /\ RLs k as_
def RLss (k : Nat) : List (List AV) -> Prop
  | [] => True
  | e :: es => RLs k e /\ RLss k es
end
theorem RLs_iff {k : Nat} : ∀ {l : List AV}, RLs k l ↔ ∀ a ∈ l, RL k a
  | [] => by simp [RLs]
  | a :: l => by simp [RLs, RLs_iff (l := l)]
theorem zdm {k : Nat} : ∀ {l : List (List AV)}, RLss k l ↔ ∀ e ∈ l, RLs k e
  | [] => by simp [RLss]
  | a :: l => by simp [RLss, zdm (l := l)]

mutual
theorem DR.refl {D : DC} {k : Nat} (hk : ∀ r, r < k -> r < D.n /\ D.pre r = r) : ∀ (a : AV), RL k a -> DR D a a
  | .any, _ => by simp only [DR]
  | .undef, _ => by simp only [DR]
  | .bool _, _ => by simp only [DR]
  | .int _ _, _ => by simp only [DR]
  | .str _, _ => by simp only [DR]
  | .nilp, _ => by simp only [DR]
  | .ptr r i off, h => by simp only [RL] at h; simp only [DR]; obtain ⟨h1, h2⟩ := hk r h; exact ⟨h1, by rw [h2]⟩
  | .vp cs, h => by simp only [RL] at h; simp only [DR]; exact .inl ⟨cs, rfl, DRs.refl hk cs h⟩
  | .nilsl, _ => by simp only [DR]
  | .vsl esz es ex, h => by simp only [RL] at h; simp only [DR]; exact .inl ⟨es, ex, rfl, fun h => h, DRss.refl hk es h⟩
  | .sl r off len lim esz, h => by simp only [RL] at h; simp only [DR]; obtain ⟨h1, h2⟩ := hk r h; exact ⟨h1, by rw [h2]⟩
  | .asl r i off len cap esz, h => by simp only [RL] at h; simp only [DR]; obtain ⟨h1, h2⟩ := hk r h; exact ⟨h1, by rw [h2]⟩
  | .fn f caps, h => by simp only [RL] at h; simp only [DR]; exact ⟨caps, rfl, DRs.refl hk caps h⟩
  | .nilfn, _ => by simp only [DR]
  | .agg cs, h => by simp only [RL] at h; simp only [DR]; exact ⟨cs, rfl, DRs.refl hk cs h⟩
  | .tup vs, h => by simp only [RL] at h; simp only [DR]; exact ⟨vs, rfl, DRs.refl hk vs h⟩
  | .bld r, h => by simp only [RL] at h; simp only [DR]; obtain ⟨h1, h2⟩ := hk r h; exact ⟨h1, by rw [h2]⟩
  | .bnil, _ => by simp only [DR]
  | .bsl r len, h => by simp only [RL] at h; simp only [DR]; obtain ⟨h1, h2⟩ := hk r h; exact ⟨h1, by rw [h2]⟩
theorem DRs.refl {D : DC} {k : Nat} (hk : ∀ r, r < k -> r < D.n /\ D.pre r = r) : ∀ (l : List AV), RLs k l -> DRs D l l
  | [], _ => by simp only [DRs]
  | a :: l, h => by simp only [RLs] at h; simp only [DRs]; exact ⟨a, l, rfl, DR.refl hk a h.1, DRs.refl hk l h.2⟩
theorem DRss.refl {D : DC} {k : Nat} (hk : ∀ r, r < k -> r < D.n /\ D.pre r = r) : ∀ (l : List (List AV)), RLss k l -> DRss D l l
  | [], _ => by simp only [DRss]
  | a :: l, h => by simp only [RLss] at h; simp only [DRss]; exact ⟨a, l, rfl, DRs.refl hk a h.1, DRss.refl hk l h.2⟩
end

/-! References of what stands in a world. -/
mutual
theorem VR.rl {J : Places} {w : World} : ∀ (a : AV) (v : Value), VR J w a v -> RL J.length a
  | .any, _, _ => by simp only [RL]
  | .undef, _, _ => by simp only [RL]
  | .bool _, _, _ => by simp only [RL]
  | .int _ _, _, _ => by simp only [RL]
  | .str _, _, _ => by simp only [RL]
  | .nilp, _, _ => by simp only [RL]
  | .ptr r i off, v, h => by
    simp only [VR] at h; simp only [RL]
    obtain ⟨fl, pl, h1, _⟩ := h
    exact (List.getElem?_eq_some_iff.1 h1).1
  | .vp cs, v, h => by
    simp only [VR] at h; simp only [RL]
    obtain ⟨b, o, vals, _, _, _, h4⟩ := h
    exact VRs.rl cs vals h4
  | .nilsl, _, _ => by simp only [RL]
  | .vsl esz es ex, v, h => by
    simp only [VR] at h; simp only [RL]
    rcases h with ⟨rfl, _⟩ | ⟨b, o, cap, vals, _, _, _, _, _, _, h7⟩
    · simp only [RLss]
    · exact VRss.rl es vals h7
  | .sl r off len lim esz, v, h => by
    simp only [VR] at h; simp only [RL]
    obtain ⟨fl, pl, _, _, _, h1, _⟩ := h
    exact (List.getElem?_eq_some_iff.1 h1).1
  | .asl r i off len cap esz, v, h => by
    simp only [VR] at h; simp only [RL]
    obtain ⟨fl, pl, _, _, h1, _⟩ := h
    exact (List.getElem?_eq_some_iff.1 h1).1
  | .fn f caps, v, h => by
    simp only [VR] at h; simp only [RL]
    obtain ⟨vs, _, h2⟩ := h
    exact VRt.rl caps vs h2
  | .nilfn, _, _ => by simp only [RL]
  | .agg cs, v, h => by
    simp only [VR] at h; simp only [RL]
    obtain ⟨vs, _, h2⟩ := h
    exact VRs.rl cs vs h2
  | .tup cs, v, h => by
    simp only [VR] at h; simp only [RL]
    obtain ⟨vs, _, h2⟩ := h
    exact VRt.rl cs vs h2
  | .bld r, v, h => by
    simp only [VR] at h; simp only [RL]
    obtain ⟨fl, pl, h1, _⟩ := h
    exact (List.getElem?_eq_some_iff.1 h1).1
  | .bnil, _, _ => by simp only [RL]
  | .bsl r len, v, h => by
    simp only [VR] at h; simp only [RL]
    obtain ⟨fl, pl, cap, h1, _⟩ := h
    exact (List.getElem?_eq_some_iff.1 h1).1
theorem VRs.rl {J : Places} {w : World} : ∀ (l : List AV) (vs : List Value), VRs J w l vs -> RLs J.length l
  | [], _, _ => by simp only [RLs]
  | a :: l, vs, h => by
    simp only [VRs] at h; simp only [RLs]
    obtain ⟨v, vs', _, h2, h3⟩ := h
    exact ⟨VR.rl a v h2.1, VRs.rl l vs' h3⟩
theorem VRt.rl {J : Places} {w : World} : ∀ (l : List AV) (vs : List Value), VRt J w l vs -> RLs J.length l
  | [], _, _ => by simp only [RLs]
  | a :: l, vs, h => by
    simp only [VRt] at h; simp only [RLs]
    obtain ⟨v, vs', _, h2, h3⟩ := h
    exact ⟨VR.rl a v h2, VRt.rl l vs' h3⟩
theorem VRss.rl {J : Places} {w : World} : ∀ (l : List (List AV)) (vs : List Value), VRss J w l vs -> RLss J.length l
  | [], _, _ => by simp only [RLss]
  | e :: l, vs, h => by
    simp only [VRss] at h; simp only [RLss]
    obtain ⟨v1, v2, _, h2, h3⟩ := h
    exact ⟨VRs.rl e v1 h2, VRss.rl l v2 h3⟩
end
theorem zip {k : Nat} {l : List (List AV)} : RLss k l ↔ RLs k l.flatten := by
  rw [zdm, RLs_iff]
  constructor
  · intro h a ha
    obtain ⟨e, he, hae⟩ := List.mem_flatten.1 ha
    exact RLs_iff.1 (h e he) a hae
  · intro h e he
    exact RLs_iff.2 fun a ha => h a (List.mem_flatten.2 ⟨e, he, ha⟩)
/-- All references of a store are below k. -/
def Wf (k : Nat) (Y : Store) : Prop := ∀ (r : Nat) (o : AObj), Y[r]? = some (some o) -> RLss k o
theorem Rel.wf {C : Ctx} {J : Places} {Y : Store} {w : World} (h : Rel C J Y w) : Wf Y.length Y := by
  intro r o hr
  obtain ⟨pl, h1, h2⟩ := h.alive r o hr
  obtain ⟨c, ty, fz, pre, mid, post, _, _, _, _, h5, _⟩ := h2.ex
  rw [zip, <- h.len]
  exact VRs.rl _ _ h5

/-! Soundness. -/
theorem ObjOK.seg {J : Places} {w : World} {pl : Place} {o : AObj} (h : ObjOK J w pl o) {A B E : List AV} (he : o.flatten = A ++ B ++ E) : ∃ vals, Seg w pl.b (pl.base + A.length) vals /\ VRs J w B vals := by
  obtain ⟨c, ty, fz, pre, mid, post, h1, h2, h3, h4, h5, _⟩ := h.ex
  rw [he] at h5
  obtain ⟨m12, m3, rfl, q1, q2⟩ := h5.append_inv
  obtain ⟨m1, m2, rfl, q3, q4⟩ := q1.append_inv
  exact ⟨m2, ⟨c, ty, fz, pre ++ m1, m3 ++ post, h1, by simp [h2, List.append_assoc], by rw [List.length_append, h3, q3.length]⟩, q4⟩
theorem ObjOK.none_at {J : Places} {w : World} {pl : Place} {o : AObj} (h : ObjOK J w pl o) {k : Nat} (hk : k <= pl.tot) : Seg w pl.b k [] := by
  obtain ⟨c, ty, fz, pre, mid, post, h1, h2, h3, h4, h5, _⟩ := h.ex
  exact ⟨c, ty, fz, c.toList.take k, c.toList.drop k, h1, by simp, by simp [h4, hk]⟩

structure DSnd (D : DC) (J J' : Places) (w : World) : Prop where
  ref : ∀ (r : Nat) (fl : Bool) (pl : Place), r < D.n -> J[D.pre r]? = some (fl, pl) -> ∃ fl', J'[r]? = some (fl', pl)
  imm : ∀ b, Imm J w b -> Imm J' w b
  fz : ∀ (r : Nat) (pl : Place), D.fz r = true -> J[r]? = some (true, pl) -> ∀ (r' : Nat) (pl' : Place), J'[r']? = some (true, pl') -> pl'.b ≠ pl.b

mutual
theorem DR.sound {C : Ctx} {D : DC} {J J' : Places} {w : World} (hR : Rel C J D.Y w) (hs : DSnd D J J' w) : ∀ (x a : AV) (v : Value), DR D x a -> VR J w a v -> VR J' w x v
  | .any, _, _, _, _ => by simp only [VR]
  | .undef, a, v, h, hv => by simp only [DR] at h; subst h; simpa only [VR] using hv
  | .bool _, a, v, h, hv => by simp only [DR] at h; subst h; simpa only [VR] using hv
  | .int _ _, a, v, h, hv => by simp only [DR] at h; subst h; simpa only [VR] using hv
  | .str _, a, v, h, hv => by simp only [DR] at h; subst h; simpa only [VR] using hv
  | .nilp, a, v, h, hv => by simp only [DR] at h; subst h; simpa only [VR] using hv
  | .ptr r i off, a, v, h, hv => by
    simp only [DR] at h
    obtain ⟨h1, rfl⟩ := h
    simp only [VR] at hv ⊢
    obtain ⟨fl, pl, h2, h3⟩ := hv
    obtain ⟨fl', h4⟩ := hs.ref r fl pl h1 h2
    exact ⟨fl', pl, h4, h3⟩
  | .vp cs, a, v, h, hv => by
    simp only [DR] at h
    rcases h with ⟨cs0, rfl, h⟩ | ⟨r, i, off, o, e, rfl, h1, h2, h3, h4, h5⟩
    · simp only [VR] at hv ⊢
      obtain ⟨b, o, vals, k1, k2, k3, k4⟩ := hv
      exact ⟨b, o, vals, k1, hs.imm b k2, k3, DRs.sound hR hs cs cs0 vals h k4⟩
    · simp only [VR] at hv ⊢
      obtain ⟨fl, pl, k1, rfl⟩ := hv
      obtain ⟨pl', k2, k3⟩ := hR.alive r o h2
      rw [k1] at k2; cases k2
      obtain ⟨hi, hei⟩ := List.getElem?_eq_some_iff.1 h3
      have hfl : o.flatten = ((o.take i).flatten ++ e.take off) ++ e.drop off ++ (o.drop (i + 1)).flatten := by
        conv => lhs; rw [<- List.take_append_drop i o, List.drop_eq_getElem_cons hi, hei]
        simp [List.append_assoc]
      obtain ⟨vals, q1, q2⟩ := k3.seg hfl
      have hlen : ((o.take i).flatten ++ e.take off).length = i * pl.esz + off := by
        rw [List.length_append, z1s (k := pl.esz) (fun e h => k3.esz e (List.mem_of_mem_take h)), List.length_take, List.length_take, Nat.min_eq_left (by omega), Nat.min_eq_left (by omega)]
      rw [hlen] at q1
      exact ⟨pl.b, pl.base + (i * pl.esz + off), vals, by rw [Nat.add_assoc], ⟨k3.lt, hs.fz r pl h1 k1⟩, q1, DRs.sound hR hs cs _ vals h5 q2⟩
  | .nilsl, a, v, h, hv => by simp only [DR] at h; subst h; simpa only [VR] using hv
  | .vsl esz es ex, a, v, h, hv => by
    simp only [DR] at h
    rcases h with ⟨es0, ex0, rfl, hex, h⟩ | ⟨r, off, lim, o, rfl, h1, h2, h3, h4, h5⟩ | ⟨r, i, off, cap0, o, cs, es1, rest, rfl, h1, h2, h3, h4, h5, h6, h7, h8, h9⟩
    · simp only [VR] at hv ⊢
      rcases hv with ⟨rfl, hv⟩ | ⟨b, o, cap, vals, k1, k2, k3, k4, k5, k6, k7⟩
      · refine .inl ⟨?_, hv⟩
        cases es with
        | nil => rfl
        | cons e es => simp [DRss] at h
      obtain ⟨q1, q2⟩ := DRss.sound hR hs es es0 vals h k7
      exact .inr ⟨b, o, cap, vals, by rw [q2.1]; exact k1, by rw [q2.1]; exact k2, fun e => by rw [q2.1]; exact k3 (hex e), hs.imm b k4, k5, q2.2 esz k6, q1⟩
    · simp only [VR] at hv ⊢
      obtain ⟨fl, pl, b, o_, cap, k1, k2, rfl, k3⟩ := hv
      obtain ⟨pl', k4, k5⟩ := hR.alive r o h2
      rw [k1] at k4; cases k4
      have hbb := k3.blk
      subst hbb
      have hfl : o.flatten = (o.take off).flatten ++ ((o.drop off).take es.length).flatten ++ ((o.drop off).drop es.length).flatten := by
        conv => lhs; rw [<- List.take_append_drop off o, <- List.take_append_drop es.length (o.drop off)]
        rw [List.flatten_append, List.flatten_append, List.append_assoc]
      obtain ⟨vals, q1, q2⟩ := k5.seg hfl
      have hlen : ((o.take off).flatten).length = off * pl.esz := by
        rw [z1s (k := pl.esz) (fun e h => k5.esz e (List.mem_of_mem_take h)), List.length_take, Nat.min_eq_left (by omega)]
      rw [hlen] at q1
      obtain ⟨q3, q4⟩ := DRss.sound hR hs es _ vals h5 (VRss.flat.2 q2)
      have hseg : Seg w pl.b o_ vals := by
        by_cases hc : cap = 0
        · have := k3.le
          have hz : es = [] := List.eq_nil_of_length_eq_zero (by omega)
          subst hz
          simp only [VRss] at q3
          subst q3
          exact k5.none_at k3.ole
        · rw [(k3.at_ hc).2]; exact q1
      right
      refine ⟨pl.b, o_, cap, vals, rfl, k3.le, fun e => k3.lim_ _ (h4 e), ⟨k5.lt, hs.fz r pl h1 k1⟩, hseg, q4.2 esz ?_, q3⟩
      intro e he
      rw [<- k2]
      exact k5.esz e (List.mem_of_mem_drop (List.mem_of_mem_take he))
    · simp only [VR] at hv ⊢
      obtain ⟨fl, pl, b, o_, k1, rfl, k3, k6⟩ := hv
      obtain ⟨pl', k4, k5⟩ := hR.alive r o h2
      rw [k1] at k4; cases k4
      obtain ⟨rfl, rfl⟩ := k6 (by omega)
      obtain ⟨hi, hei⟩ := List.getElem?_eq_some_iff.1 h3
      have hfl : o.flatten = ((o.take i).flatten ++ cs.take off) ++ es1.flatten ++ (rest ++ (o.drop (i + 1)).flatten) := by
        conv => lhs; rw [<- List.take_append_drop i o, List.drop_eq_getElem_cons hi, hei]
        have e2 : cs = cs.take off ++ (es1.flatten ++ rest) := by rw [<- h5, List.take_append_drop]
        rw [List.flatten_append, List.flatten_cons]
        conv => lhs; rw [e2]
        simp only [List.append_assoc]
      obtain ⟨vals, q1, q2⟩ := k5.seg hfl
      have hlen : ((o.take i).flatten ++ cs.take off).length = i * pl.esz + off := by
        rw [List.length_append, z1s (k := pl.esz) (fun e h => k5.esz e (List.mem_of_mem_take h)), List.length_take, List.length_take, Nat.min_eq_left (by omega), Nat.min_eq_left (by omega)]
      rw [hlen] at q1
      obtain ⟨q3, q4⟩ := DRss.sound hR hs es _ vals h9 (VRss.flat.2 q2)
      right
      exact ⟨pl.b, pl.base + (i * pl.esz + off), cap0, vals, by rw [Nat.add_assoc], k3, h8, ⟨k5.lt, hs.fz r pl h1 k1⟩, q1, q4.2 esz h6, q3⟩
  | .sl r off len lim esz, a, v, h, hv => by
    simp only [DR] at h
    obtain ⟨h1, rfl⟩ := h
    simp only [VR] at hv ⊢
    obtain ⟨fl, pl, b, o, cap, h2, h3⟩ := hv
    obtain ⟨fl', h4⟩ := hs.ref r fl pl h1 h2
    exact ⟨fl', pl, b, o, cap, h4, h3⟩
  | .asl r i off len cap esz, a, v, h, hv => by
    simp only [DR] at h
    obtain ⟨h1, rfl⟩ := h
    simp only [VR] at hv ⊢
    obtain ⟨fl, pl, b, o, h2, h3⟩ := hv
    obtain ⟨fl', h4⟩ := hs.ref r fl pl h1 h2
    exact ⟨fl', pl, b, o, h4, h3⟩
  | .fn f caps, a, v, h, hv => by
    simp only [DR] at h
    obtain ⟨caps0, rfl, h⟩ := h
    simp only [VR] at hv ⊢
    obtain ⟨vs, h1, h2⟩ := hv
    exact ⟨vs, h1, DRs.soundt hR hs caps caps0 vs h h2⟩
  | .nilfn, a, v, h, hv => by simp only [DR] at h; subst h; simpa only [VR] using hv
  | .agg cs, a, v, h, hv => by
    simp only [DR] at h
    obtain ⟨cs0, rfl, h⟩ := h
    simp only [VR] at hv ⊢
    obtain ⟨vs, h1, h2⟩ := hv
    exact ⟨vs, h1, DRs.sound hR hs cs cs0 vs h h2⟩
  | .tup cs, a, v, h, hv => by
    simp only [DR] at h
    obtain ⟨cs0, rfl, h⟩ := h
    simp only [VR] at hv ⊢
    obtain ⟨vs, h1, h2⟩ := hv
    exact ⟨vs, h1, DRs.soundt hR hs cs cs0 vs h h2⟩
  | .bld r, a, v, h, hv => by
    simp only [DR] at h
    obtain ⟨h1, rfl⟩ := h
    simp only [VR] at hv ⊢
    obtain ⟨fl, pl, h2, h3⟩ := hv
    obtain ⟨fl', h4⟩ := hs.ref r fl pl h1 h2
    exact ⟨fl', pl, h4, h3⟩
  | .bnil, a, v, h, hv => by simp only [DR] at h; subst h; simpa only [VR] using hv
  | .bsl r len, a, v, h, hv => by
    simp only [DR] at h
    obtain ⟨h1, rfl⟩ := h
    simp only [VR] at hv ⊢
    obtain ⟨fl, pl, cap, h2, h3⟩ := hv
    obtain ⟨fl', h4⟩ := hs.ref r fl pl h1 h2
    exact ⟨fl', pl, cap, h4, h3⟩
theorem DRs.sound {C : Ctx} {D : DC} {J J' : Places} {w : World} (hR : Rel C J D.Y w) (hs : DSnd D J J' w) : ∀ (xs as_ : List AV) (vs : List Value), DRs D xs as_ -> VRs J w as_ vs -> VRs J' w xs vs
  | [], as_, vs, h, hv => by simp only [DRs] at h; subst h; simpa only [VRs] using hv
  | x :: xs, as_, vs, h, hv => by
    simp only [DRs] at h
    obtain ⟨a, as', rfl, h1, h2⟩ := h
    simp only [VRs] at hv ⊢
    obtain ⟨v, vs', k1, k2, k3⟩ := hv
    exact ⟨v, vs', k1, ⟨DR.sound hR hs x a v h1 k2.1, k2.2⟩, DRs.sound hR hs xs as' vs' h2 k3⟩
theorem DRs.soundt {C : Ctx} {D : DC} {J J' : Places} {w : World} (hR : Rel C J D.Y w) (hs : DSnd D J J' w) : ∀ (xs as_ : List AV) (vs : List Value), DRs D xs as_ -> VRt J w as_ vs -> VRt J' w xs vs
  | [], as_, vs, h, hv => by simp only [DRs] at h; subst h; simpa only [VRt] using hv
  | x :: xs, as_, vs, h, hv => by
    simp only [DRs] at h
    obtain ⟨a, as', rfl, h1, h2⟩ := h
    simp only [VRt] at hv ⊢
    obtain ⟨v, vs', k1, k2, k3⟩ := hv
    exact ⟨v, vs', k1, DR.sound hR hs x a v h1 k2, DRs.soundt hR hs xs as' vs' h2 k3⟩
theorem DRss.sound {C : Ctx} {D : DC} {J J' : Places} {w : World} (hR : Rel C J D.Y w) (hs : DSnd D J J' w) : ∀ (xs as_ : List (List AV)) (vs : List Value), DRss D xs as_ -> VRss J w as_ vs ->
    VRss J' w xs vs /\ xs.length = as_.length /\ ∀ k, (∀ e ∈ as_, e.length = k) -> ∀ e ∈ xs, e.length = k
  | [], as_, vs, h, hv => by
    simp only [DRss] at h; subst h
    exact ⟨by simpa only [VRss] using hv, rfl, fun _ _ e he => by simp at he⟩
  | x :: xs, as_, vs, h, hv => by
    simp only [DRss] at h
    obtain ⟨a, as', rfl, h1, h2⟩ := h
    simp only [VRss] at hv ⊢
    obtain ⟨v1, v2, k1, k2, k3⟩ := hv
    obtain ⟨q1, q2, q3⟩ := DRss.sound hR hs xs as' v2 h2 k3
    have q4 := DRs.sound hR hs x a v1 h1 k2
    refine ⟨⟨v1, v2, k1, q4, q1⟩, by simp [q2], fun k hk e he => ?_⟩
    rcases List.mem_cons.1 he with rfl | he
    · rw [q4.length, <- k2.length]; exact hk a (by simp)
    · exact q3 k (fun e he => hk e (by simp [he])) e he
end

/-- The store part. -/
structure DownS (k : Nat) (D : DC) (Y' : Store) : Prop where
  n : D.n = Y'.length
  pin : ∀ r, r < k -> r < Y'.length /\ D.pre r = r
  lt : ∀ r, r < Y'.length -> D.pre r < D.Y.length
  inj : ∀ r r', r < Y'.length -> r' < Y'.length -> D.pre r = D.pre r' -> r = r'
  obj : ∀ (r : Nat) (o' : AObj), Y'[r]? = some (some o') -> ∃ o, D.Y[D.pre r]? = some (some o) /\ DRss D o' o
  fz : ∀ r, D.fz r = true -> ∀ r', r' < Y'.length -> D.pre r' = r -> Y'[r']? = some none
def DownV (k : Nat) (v : AV) (Y : Store) (v' : AV) (Y' : Store) : Prop := ∃ D, D.Y = Y /\ DownS k D Y' /\ DR D v' v
def Down (k : Nat) (O : Env) (Y : Store) (O' : Env) (Y' : Store) : Prop := ∃ D, D.Y = Y /\ DownS k D Y' /\ ∀ t, DR D (O' t) (O t)

def Glob (C : Ctx) (J : Places) (w : World) : Prop := ∀ (g : Nat) (cs : List AV), C.gl g = some cs -> VR J w (.vp cs) (.pointer (some ⟨g, 0, none⟩))
theorem DownS.sound {C : Ctx} {k : Nat} {D : DC} {Y' : Store} {J0 J : Places} {w0 w : World} (h : DownS k D Y') (hR : Rel C J D.Y w) (hst : Step J0 w0 J w) (hgl : Glob C J0 w0) (hk : J0.length <= k) :
    ∃ J', Step J0 w0 J' w /\ Rel C J' Y' w /\ ∀ x a v, DR D x a -> VR J w a v -> VR J' w x v := by
  let f : Nat -> Bool × Place := fun r => ((match Y'[r]? with | some (some _) => true | _ => false), (J[D.pre r]?.getD (true, ⟨0, 0, 0, 0, 0, 0⟩)).2)
  let J' : Places := (List.range Y'.length).map f
  have hlen : J'.length = Y'.length := by simp [J']
  have hget : ∀ r, r < Y'.length -> J'[r]? = some (f r) := fun r hr => by simp [J', hr]
  have hold : ∀ r, r < Y'.length -> ∃ fl pl, J[D.pre r]? = some (fl, pl) /\ (f r).2 = pl := fun r hr => by
    have h1 := h.lt r hr
    rw [<- hR.len] at h1
    refine ⟨J[D.pre r].1, J[D.pre r].2, List.getElem?_eq_getElem h1, ?_⟩
    simp only [f, List.getElem?_eq_getElem h1, Option.getD_some]
  have live : ∀ (r : Nat) (pl : Place), J'[r]? = some (true, pl) -> r < Y'.length /\ (∃ o', Y'[r]? = some (some o')) /\ J[D.pre r]? = some (true, pl) := by
    intro r pl hr
    have hl : r < Y'.length := by rw [<- hlen]; exact (List.getElem?_eq_some_iff.1 hr).1
    rw [hget r hl] at hr
    simp only [Option.some.injEq] at hr
    obtain ⟨fl, pl', h1, h2⟩ := hold r hl
    have hf1 : (f r).1 = true := by rw [hr]
    have hf2 : pl = pl' := by rw [<- h2, hr]
    subst hf2
    have ho : ∃ o', Y'[r]? = some (some o') := by
      simp only [f] at hf1
      split at hf1
      · rename_i o' ho; exact ⟨o', ho⟩
      · cases hf1
    obtain ⟨o', ho'⟩ := ho
    obtain ⟨o, h3, h4⟩ := h.obj r o' ho'
    obtain ⟨pl2, h5, h6⟩ := hR.alive _ o h3
    rw [h1] at h5; cases h5
    exact ⟨hl, ⟨o', ho'⟩, h1⟩
  have himm : ∀ b, Imm J w b -> Imm J' w b := fun b hb => ⟨hb.1, fun r pl hr e => by
    obtain ⟨_, _, h3⟩ := live r pl hr
    exact hb.2 _ pl h3 e⟩
  have hs : DSnd D J J' w := by
    refine ⟨fun r fl pl hr hg => ?_, himm, fun r pl hfz hg r' pl' hg' e => ?_⟩
    · rw [h.n] at hr
      obtain ⟨fl2, pl2, h1, h2⟩ := hold r hr
      rw [hg] at h1; cases h1
      exact ⟨(f r).1, by rw [hget r hr, <- h2]⟩
    · obtain ⟨hl, ⟨o', ho'⟩, h3⟩ := live r' pl' hg'
      have := hR.inj _ _ pl' pl h3 hg e
      rw [h.fz r hfz r' hl this] at ho'
      cases ho'
  have key := fun x a v => DR.sound hR hs x a v
  have st : Step J0 w0 J' w := by
    refine ⟨fun r fl pl hr => ?_, hst.size, hst.imm, fun r pl hr => ?_, hst.os, hst.tape, hst.output⟩
    · have hrk : r < k := Nat.lt_of_lt_of_le (List.getElem?_eq_some_iff.1 hr).1 hk
      obtain ⟨h1, h2⟩ := h.pin r hrk
      obtain ⟨fl', h3⟩ := hst.keep r fl pl hr
      exact hs.ref r fl' pl (by rw [h.n]; exact h1) (by rw [h2]; exact h3)
    · obtain ⟨_, _, h3⟩ := live r pl hr
      exact hst.new _ pl h3
  refine ⟨J', st, ⟨hlen, fun r o' hr => ?_, fun r hr => ?_, fun r r' pl pl' hr hr' e => ?_, fun g cs hg => ?_⟩, key⟩
  · have hl : r < Y'.length := (List.getElem?_eq_some_iff.1 hr).1
    obtain ⟨o, h1, h2⟩ := h.obj r o' hr
    obtain ⟨pl, h3, h4⟩ := hR.alive _ o h1
    obtain ⟨fl, pl2, h5, h6⟩ := hold r hl
    rw [h3] at h5; cases h5
    obtain ⟨c, ty, fz, pre, mid, post, q1, q2, q3, q4, q5, q6⟩ := h4.ex
    obtain ⟨k1, k2, k3⟩ := DRss.sound hR hs o' o mid h2 (VRss.flat.2 q5)
    refine ⟨pl, ?_, ⟨by rw [k2]; exact h4.len, k3 _ h4.esz, h4.tyk, c, ty, fz, pre, mid, post, q1, q2, q3, q4, VRss.flat.1 k1, q6⟩⟩
    rw [hget r hl]
    congr 1
    exact Prod.ext (by simp only [f, hr]) h6
  · have hl : r < Y'.length := (List.getElem?_eq_some_iff.1 hr).1
    refine ⟨(f r).2, ?_⟩
    rw [hget r hl]
    congr 1
    exact Prod.ext (by simp only [f, hr]) rfl
  · obtain ⟨l1, _, h1⟩ := live r pl hr
    obtain ⟨l2, _, h2⟩ := live r' pl' hr'
    exact h.inj r r' l1 l2 (hR.inj _ _ pl pl' h1 h2 e)
  · exact (hgl g cs hg).mono st

theorem Down.sound {C : Ctx} {k : Nat} {O O' : Env} {Y Y' : Store} {J0 J : Places} {w0 w : World} {tmps : Array Value} (h : Down k O Y O' Y') (hR : Rel C J Y w) (hE : EnvR J w O tmps) (hst : Step J0 w0 J w) (hgl : Glob C J0 w0) (hk : J0.length <= k) :
    ∃ J', Step J0 w0 J' w /\ Rel C J' Y' w /\ EnvR J' w O' tmps := by
  obtain ⟨D, rfl, h1, h2⟩ := h
  obtain ⟨J', k1, k2, k3⟩ := h1.sound hR hst hgl hk
  exact ⟨J', k1, k2, fun t => k3 _ _ _ (h2 t) (hE t)⟩
theorem DownV.sound {C : Ctx} {k : Nat} {v v' : AV} {cv : Value} {Y Y' : Store} {J0 J : Places} {w0 w : World} (h : DownV k v Y v' Y') (hR : Rel C J Y w) (hv : VR J w v cv) (hst : Step J0 w0 J w) (hgl : Glob C J0 w0) (hk : J0.length <= k) :
    ∃ J', Step J0 w0 J' w /\ Rel C J' Y' w /\ VR J' w v' cv := by
  obtain ⟨D, rfl, h1, h2⟩ := h
  obtain ⟨J', k1, k2, k3⟩ := h1.sound hR hst hgl hk
  exact ⟨J', k1, k2, k3 _ _ _ h2 hv⟩
end Am
end Go.Proofs.YtjgljhbmljgaeaaDoor
end
section
/- THE ABSTRACT MACHINE, part 18: rules for code. -/
namespace Go.Proofs.YtjgljhbmljgaeaaDoor
namespace Am

/-- The abstract code from this state on: k elder objects keep their numbers. -/
def zW (C : Ctx) (n k : Nat) (ac : ACode) (Q : AExit -> Env -> Store -> Prop) (O : Env) (Y : Store) : Prop :=
  ∀ (c : Code), z12 C n c = some ac -> ∀ (J0 : Places) (w0 : World), Glob C J0 w0 -> J0.length = k -> ∀ (J : Places) (a : Act) (w : World), Step J0 w0 J w -> Rel C J Y w -> EnvR J w O a.tmps -> a.tmps.size = n ->
    c.wp C.P (fun e a' w' => ∃ ae O' Y' J', e = AExit.out ae /\ Q ae O' Y' /\ Step J0 w0 J' w' /\ Rel C J' Y' w' /\ EnvR J' w' O' a'.tmps /\ a'.defers = a.defers /\ a'.tmps.size = n) a w

def z29 (K : Env -> Store -> Prop) (Q : AExit -> Env -> Store -> Prop) : AExit -> Env -> Store -> Prop
  | .normal => K
  | e => Q e
def blkQ (id : Nat) (Q : AExit -> Env -> Store -> Prop) : AExit -> Env -> Store -> Prop
  | .exit i => if i = id then Q .normal else Q (.exit i)
  | e => Q e

section inv
variable {C : Ctx} {n : Nat} {c : Code}
theorem zec (hc : z12 C n c = some .skip) : c = .skip \/ ∃ l, c = .label l := by
  cases c
  case skip => exact .inl rfl
  case label l => exact .inr ⟨l, rfl⟩
  case region id ops draw => rcases z4c hc with ⟨_, h⟩ | ⟨_, _, h⟩ <;> cases h
  all_goals simp [z12, Option.bind_eq_some_iff, Option.map_eq_some_iff] at hc
theorem zjy {id : Nat} (hc : z12 C n c = some (.exit id)) : c = .exit id := by
  cases c
  case exit i => simp only [z12, Option.some.injEq, ACode.exit.injEq] at hc; rw [hc]
  case region id ops draw => rcases z4c hc with ⟨_, h⟩ | ⟨_, _, h⟩ <;> cases h
  all_goals simp [z12, Option.bind_eq_some_iff, Option.map_eq_some_iff] at hc
theorem zk0 (hc : z12 C n c = some .ret) : c = .ret := by
  cases c
  case ret => rfl
  case region id ops draw => rcases z4c hc with ⟨_, h⟩ | ⟨_, _, h⟩ <;> cases h
  all_goals simp [z12, Option.bind_eq_some_iff, Option.map_eq_some_iff] at hc
theorem z9o {x y : ACode} (hc : z12 C n c = some (.seq x y)) : ∃ c1 c2, c = .seq c1 c2 /\ z12 C n c1 = some x /\ z12 C n c2 = some y := by
  cases c
  case seq a b =>
    simp only [z12, Option.bind_eq_some_iff, Option.map_eq_some_iff, ACode.seq.injEq] at hc
    obtain ⟨a', h1, b', h2, rfl, rfl⟩ := hc
    exact ⟨_, _, rfl, h1, h2⟩
  case region id ops draw => rcases z4c hc with ⟨_, h⟩ | ⟨_, _, h⟩ <;> cases h
  all_goals simp [z12, Option.bind_eq_some_iff, Option.map_eq_some_iff] at hc
theorem zjx {x : AX} {p q : ACode} (hc : z12 C n c = some (.cond x p q)) : ∃ o c1 c2, c = .cond o c1 c2 /\ cX C o = some x /\ z12 C n c1 = some p /\ z12 C n c2 = some q := by
  cases c
  case cond o a b =>
    simp only [z12, Option.bind_eq_some_iff, Option.map_eq_some_iff, ACode.cond.injEq] at hc
    obtain ⟨o', h0, a', h1, b', h2, rfl, rfl, rfl⟩ := hc
    exact ⟨_, _, _, rfl, h0, h1, h2⟩
  case region id ops draw => rcases z4c hc with ⟨_, h⟩ | ⟨_, _, h⟩ <;> cases h
  all_goals simp [z12, Option.bind_eq_some_iff, Option.map_eq_some_iff] at hc
theorem zax {id : Nat} {x : ACode} (hc : z12 C n c = some (.block id x)) : ∃ c1, c = .block id c1 /\ z12 C n c1 = some x := by
  cases c
  case block i a =>
    simp only [z12, Option.map_eq_some_iff, ACode.block.injEq] at hc
    obtain ⟨a', h1, rfl, rfl⟩ := hc
    exact ⟨_, rfl, h1⟩
  case region id ops draw => rcases z4c hc with ⟨_, h⟩ | ⟨_, _, h⟩ <;> cases h
  all_goals simp [z12, Option.bind_eq_some_iff, Option.map_eq_some_iff] at hc
theorem zk1 {x : ACode} (hc : z12 C n c = some (.scope x)) : ∃ c1, c = .scope c1 /\ z12 C n c1 = some x := by
  cases c
  case scope a =>
    simp only [z12, Option.map_eq_some_iff, ACode.scope.injEq] at hc
    obtain ⟨a', h1, rfl⟩ := hc
    exact ⟨_, rfl, h1⟩
  case region id ops draw => rcases z4c hc with ⟨_, h⟩ | ⟨_, _, h⟩ <;> cases h
  all_goals simp [z12, Option.bind_eq_some_iff, Option.map_eq_some_iff] at hc
theorem zjz {x : ACode} (hc : z12 C n c = some (.loop x)) : ∃ c1, c = .loop c1 /\ z12 C n c1 = some x := by
  cases c
  case loop a =>
    simp only [z12, Option.map_eq_some_iff, ACode.loop.injEq] at hc
    obtain ⟨a', h1, rfl⟩ := hc
    exact ⟨_, rfl, h1⟩
  case region id ops draw => rcases z4c hc with ⟨_, h⟩ | ⟨_, _, h⟩ <;> cases h
  all_goals simp [z12, Option.bind_eq_some_iff, Option.map_eq_some_iff] at hc
theorem zea {l : List AIns} (hc : z12 C n c = some (.reg l)) : ∃ id os draw, c = .region id os draw := by
  cases c
  case region id ops draw => exact ⟨_, _, _, rfl⟩
  all_goals simp [z12, Option.bind_eq_some_iff, Option.map_eq_some_iff] at hc
end inv

section
variable {C : Ctx} {n k : Nat} {Q : AExit -> Env -> Store -> Prop} {O : Env} {Y : Store}

theorem zW.zk (h : Q .normal O Y) : zW C n k .skip Q O Y := by
  intro c hc J0 w0 hgl hk J a w hst hR hE hn
  have := zec hc
  rcases this with rfl | ⟨l, rfl⟩
  · exact wp_skip ⟨.normal, O, Y, J, rfl, h, hst, hR, hE, rfl, hn⟩
  · exact wp_label ⟨.normal, O, Y, J, rfl, h, hst, hR, hE, rfl, hn⟩
theorem zW.ze {id : Nat} (h : Q (.exit id) O Y) : zW C n k (.exit id) Q O Y := by
  intro c hc J0 w0 hgl hk J a w hst hR hE hn
  have := zjy hc
  subst this
  exact wp_exit ⟨.exit id, O, Y, J, rfl, h, hst, hR, hE, rfl, hn⟩
theorem zW.zq (h : Q .ret O Y) : zW C n k .ret Q O Y := by
  intro c hc J0 w0 hgl hk J a w hst hR hE hn
  have := zk0 hc
  subst this
  exact wp_ret ⟨.ret, O, Y, J, rfl, h, hst, hR, hE, rfl, hn⟩
theorem zW.mono {ac : ACode} {Q' : AExit -> Env -> Store -> Prop} (h : zW C n k ac Q O Y) (hq : ∀ e O Y, Q e O Y -> Q' e O Y) : zW C n k ac Q' O Y := by
  intro c hc J0 w0 hgl hk J a w hst hR hE hn
  refine wp_mono (h c hc J0 w0 hgl hk J a w hst hR hE hn) ?_
  rintro e a' w' ⟨ae, O', Y', J', h1, h2, h3⟩
  exact ⟨ae, O', Y', J', h1, hq _ _ _ h2, h3⟩
theorem zW.zs {x y : ACode} (h : zW C n k x (z29 (zW C n k y Q) Q) O Y) : zW C n k (.seq x y) Q O Y := by
  intro c hc J0 w0 hgl hk J a w hst hR hE hn
  have := z9o hc
  obtain ⟨c1, c2, rfl, h1, h2⟩ := this
  refine wp_seq (wp_mono (h c1 h1 J0 w0 hgl hk J a w hst hR hE hn) ?_)
  rintro e a' w' ⟨ae, O', Y', J', rfl, hq, q1, q2, q3, q4, q5⟩
  cases ae with
  | normal =>
    refine wp_mono (hq c2 h2 J0 w0 hgl hk J' a' w' q1 q2 q3 q5) ?_
    rintro e a2 w2 ⟨ae, O2, Y2, J2, k1, k2, k3, k4, k5, k6, k7⟩
    exact ⟨ae, O2, Y2, J2, k1, k2, k3, k4, k5, k6.trans q4, k7⟩
  | exit id => exact ⟨_, O', Y', J', rfl, hq, q1, q2, q3, q4, q5⟩
  | ret => exact ⟨_, O', Y', J', rfl, hq, q1, q2, q3, q4, q5⟩
theorem zW.cond {x : AX} {p q : ACode} {t : Bool} (hx : x.ev O = .bool t) (h1 : t = true -> zW C n k p Q O Y) (h2 : t = false -> zW C n k q Q O Y) : zW C n k (.cond x p q) Q O Y := by
  intro c hc J0 w0 hgl hk J a w hst hR hE hn
  have := zjx hc
  obtain ⟨o, c1, c2, rfl, k1, k2, k3⟩ := this
  have he := zb8 hR hE o
  rw [<- z1a k1, hx] at he
  simp only [VR] at he
  refine wp_cond he ?_
  cases t
  · exact h2 rfl c2 k3 J0 w0 hgl hk J a w hst hR hE hn
  · exact h1 rfl c1 k2 J0 w0 hgl hk J a w hst hR hE hn
theorem zW.zb {id : Nat} {x : ACode} (h : zW C n k x (blkQ id Q) O Y) : zW C n k (.block id x) Q O Y := by
  intro c hc J0 w0 hgl hk J a w hst hR hE hn
  have := zax hc
  obtain ⟨c1, rfl, h1⟩ := this
  refine wp_block (wp_mono (h c1 h1 J0 w0 hgl hk J a w hst hR hE hn) ?_)
  rintro e a' w' ⟨ae, O', Y', J', rfl, hq, q⟩
  cases ae with
  | normal => exact ⟨.normal, O', Y', J', rfl, hq, q⟩
  | exit id' =>
    simp only [AExit.out, Exit.inBlock]
    simp only [blkQ] at hq
    split at hq
    · rename_i he
      rw [if_pos he]
      exact ⟨.normal, O', Y', J', rfl, hq, q⟩
    · rename_i he
      rw [if_neg he]
      exact ⟨.exit id', O', Y', J', rfl, hq, q⟩
  | ret => exact ⟨.ret, O', Y', J', rfl, hq, q⟩
theorem zW.zc {x : ACode} (h : zW C n k x Q O Y) : zW C n k (.scope x) Q O Y := by
  intro c hc J0 w0 hgl hk J a w hst hR hE hn
  have := zk1 hc
  obtain ⟨c1, rfl, h1⟩ := this
  refine wp_scope_straight (wp_mono (h c1 h1 J0 w0 hgl hk J a w hst hR hE hn) ?_)
  rintro e a' w' ⟨ae, O', Y', J', rfl, hq, q⟩
  cases ae <;> exact ⟨_, O', Y', J', rfl, hq, q⟩
theorem zW.loop {x : ACode} (I : Nat -> Env -> Store -> Prop) (m : Nat) (h0 : I m O Y) (h : ∀ m O Y, I m O Y -> zW C n k x (z29 (fun O' Y' => ∃ m', m' < m /\ I m' O' Y') Q) O Y) : zW C n k (.loop x) Q O Y := by
  intro c hc J0 w0 hgl hk J a w hst hR hE hn
  have := zjz hc
  obtain ⟨c1, rfl, h1⟩ := this
  refine wp_loop_ghost (fun m a' w' => ∃ O' Y' J', I m O' Y' /\ Step J0 w0 J' w' /\ Rel C J' Y' w' /\ EnvR J' w' O' a'.tmps /\ a'.defers = a.defers /\ a'.tmps.size = n) m ⟨O, Y, J, h0, hst, hR, hE, rfl, hn⟩ ?_
  rintro m a1 w1 ⟨O1, Y1, J1, hI, q1, q2, q3, q4, q5⟩
  refine wp_mono (h m O1 Y1 hI c1 h1 J0 w0 hgl hk J1 a1 w1 q1 q2 q3 q5) ?_
  rintro e a2 w2 ⟨ae, O2, Y2, J2, rfl, hq, r1, r2, r3, r4, r5⟩
  cases ae with
  | normal =>
    obtain ⟨m', hm, hI'⟩ := hq
    exact ⟨m', hm, O2, Y2, J2, hI', r1, r2, r3, r4.trans q4, r5⟩
  | exit id => exact ⟨.exit id, O2, Y2, J2, rfl, hq, r1, r2, r3, r4.trans q4, r5⟩
  | ret => exact ⟨.ret, O2, Y2, J2, rfl, hq, r1, r2, r3, r4.trans q4, r5⟩
theorem z6z {n : Nat} (i : Nat) : i ∈ List.range' 0 n ↔ i < n /\ (Array.replicate n false).getD i true = false := by
  simp only [List.mem_range', Array.getD_eq_getD_getElem?, Array.getElem?_replicate]
  constructor
  · rintro ⟨j, hj, rfl⟩
    have : 0 + 1 * j < n := by omega
    exact ⟨this, by simp [hj]⟩
  · rintro ⟨h1, _⟩
    exact ⟨i, h1, by omega⟩
theorem z9r (ops : Array Oper) : z5r ops (fun i => (Array.replicate ops.size false).getD i false) := by
  intro i o ho hi
  simp only [Array.getD_eq_getD_getElem?, Array.getElem?_replicate] at hi
  split at hi <;> simp at hi
theorem zW.regH {ops : List AIns} {H : Hist} (h : zi C (Q .normal) ops H O Y) : zW C n k (.reg ops) Q O Y := by
  intro c hc J0 w0 hgl hk J a w hst hR hE hn
  have := zea hc
  obtain ⟨id, os, draw, rfl⟩ := this
  obtain ⟨hd, hc'⟩ := z9n hc
  clear hc
  have hdst := z9s hd
  rcases hc' with ⟨rfl, hc⟩ | ⟨rfl, p, q, hc⟩ | ⟨rfl, l, hl, h1⟩
  · obtain ⟨as_, e, hf, hok, hb, h1⟩ := z9p hc
    cases e
    have hrun := z82 (K := Q .normal) os.toList 0 ops (fun j => by simp) h1 H Hist.none O Y ⟨fun _ hs => hs.elim, fun _ _ => trivial, fun _ _ => trivial⟩ h
    obtain ⟨s1, R1⟩ := hR.drawn (w' := { w with drawn := w.drawn + 1 }) rfl rfl rfl rfl
    refine wp_region_any hf ?_
    refine z6v hb hdst os.size (Array.replicate os.size false) (List.range' 0 os.size) (by simp) z6z List.pairwise_lt_range' (z9r os) (by simp)
      (fun x i hx hi hxi => zfy hok ((z6z i).1 hi).1 hxi) Hist.none O Y J a _ (by simpa using hrun) R1 (hE.mono s1) hn ?_
    intro O' Y' J' a' w' k1 k2 k3 k4 k5 k6
    exact ⟨.normal, O', Y', J', rfl, k1, hst.trans (s1.trans k2), k3, k4, k5, k6⟩
  · rcases hc with hc | hc
    · obtain ⟨_, _, e, _⟩ := z87 hc
      cases e
    · obtain ⟨_, _, e, _⟩ := z86 hc
      cases e
  · cases hl
    have hrun := z82 (K := Q .normal) os.toList 0 ops (fun j => by simp) h1 H Hist.none O Y ⟨fun _ hs => hs.elim, fun _ _ => trivial, fun _ _ => trivial⟩ h
    refine wp_region ?_
    refine zbz hdst (List.range os.size) Hist.none O Y J a w (by rw [List.range_eq_range']; simpa using hrun) hR hE hn ?_
    intro O' Y' J' a' w' k1 k2 k3 k4 k5 k6
    exact ⟨.normal, O', Y', J', rfl, k1, hst.trans k2, k3, k4, k5, k6⟩
theorem zeb {c : Code} {l m : List AIns} (hc : z12 C n c = some (.reg2 l m)) : ∃ id os, c = .region id os true /\ z89 n os = true /\ ∃ p q, z84 C os p q = some (.reg2 l m) \/ z85 C os p q = some (.reg2 l m) := by
  cases c
  case region id ops draw =>
    obtain ⟨hd, h⟩ := z9n hc
    rcases h with ⟨rfl, h⟩ | ⟨rfl, p, q, h⟩ | ⟨rfl, l, h, _⟩
    · obtain ⟨_, h, _⟩ := z9p h; cases h
    · exact ⟨id, ops, rfl, hd, p, q, h⟩
    · cases h
  all_goals simp [z12, Option.bind_eq_some_iff, Option.map_eq_some_iff] at hc
/-- A region with two operations in no order that may not change places: both orders. -/
theorem zW.reg2H {l m : List AIns} {H H2 : Hist} (h : zi C (Q .normal) l H O Y) (h2 : zi C (Q .normal) m H2 O Y) : zW C n k (.reg2 l m) Q O Y := by
  intro c hc J0 w0 hgl hk J a w hst hR hE hn
  obtain ⟨id, os, rfl, hd, p, q, hc⟩ := zeb hc
  have hdst := z9s hd
  rcases hc with hc | hc
  rotate_left
  · obtain ⟨as_, bs, e, _⟩ := z86 hc
    cases e
    exact (show False from h2).elim
  obtain ⟨as_, bs, e, hf, hok, hb, k1, k2⟩ := z87 hc
  cases e
  simp only [zbv, Bool.and_eq_true, decide_eq_true_eq, List.all_eq_true, List.mem_range] at hok
  obtain ⟨⟨⟨⟨hpq, hq⟩, o1⟩, o2⟩, o3⟩ := hok
  have e0 : List.range' 0 os.size = List.range' 0 p ++ p :: (List.range' (p + 1) (q - (p + 1)) ++ q :: List.range' (q + 1) (os.size - (q + 1))) := by
    have a1 : List.range' 0 os.size = List.range' 0 p ++ List.range' p (os.size - p) := by
      have := List.range'_append (s := 0) (m := p) (n := os.size - p) (step := 1)
      rw [show 0 + 1 * p = p by omega, show p + (os.size - p) = os.size by omega] at this
      exact this.symm
    have a2 : List.range' p (os.size - p) = p :: List.range' (p + 1) (os.size - (p + 1)) := by
      rw [show os.size - p = (os.size - (p + 1)) + 1 by omega]; rfl
    have a3 : List.range' (p + 1) (os.size - (p + 1)) = List.range' (p + 1) (q - (p + 1)) ++ List.range' q (os.size - q) := by
      have := List.range'_append (s := p + 1) (m := q - (p + 1)) (n := os.size - q) (step := 1)
      rw [show p + 1 + 1 * (q - (p + 1)) = q by omega, show q - (p + 1) + (os.size - q) = os.size - (p + 1) by omega] at this
      exact this.symm
    have a4 : List.range' q (os.size - q) = q :: List.range' (q + 1) (os.size - (q + 1)) := by
      rw [show os.size - q = (os.size - (q + 1)) + 1 by omega]; rfl
    rw [a1, a2, a3, a4]
  have hrun := z83 (K := Q .normal) _ _ k1 H Hist.none O Y ⟨fun _ hs => hs.elim, fun _ _ => trivial, fun _ _ => trivial⟩ h
  have hrun2 := z83 (K := Q .normal) _ _ k2 H2 Hist.none O Y ⟨fun _ hs => hs.elim, fun _ _ => trivial, fun _ _ => trivial⟩ h2
  rw [e0] at hrun
  have mem0 : ∀ i, i ∈ List.range' 0 p ++ p :: (List.range' (p + 1) (q - (p + 1)) ++ q :: List.range' (q + 1) (os.size - (q + 1))) ↔ i < os.size /\ (Array.replicate os.size false).getD i true = false := fun i => by rw [<- e0]; exact z6z i
  obtain ⟨s1, R1⟩ := hR.drawn (w' := { w with drawn := w.drawn + 1 }) rfl rfl rfl rfl
  refine wp_region_any hf ?_
  refine zko (p := p) (q := q) hb hdst os.size (Array.replicate os.size false) _ _ _ (by simp) mem0 (by rw [<- e0]; exact List.pairwise_lt_range') (z9r os) (by rw [<- e0]; simp)
    (fun x i hx hi hxi => ?_) (fun y hy => ?_) (fun y hy => ?_) Hist.none O Y J a _ hrun hrun2 R1 (hE.mono s1) hn ?_
  · have := o1 i ((mem0 i).1 hi).1 x hxi
    simp only [Bool.or_eq_true, Bool.and_eq_true, decide_eq_true_eq] at this
    rcases this with (h | h) | h
    · exact .inl h
    · exact .inr (.inl h)
    · exact .inr (.inr h)
  · simp only [List.mem_range'] at hy
    obtain ⟨j, hj, rfl⟩ := hy
    have := o2 (p + 1 + 1 * j) (by omega)
    have e1 : (decide (p < p + 1 + 1 * j) && decide (p + 1 + 1 * j < q)) = true := by simp; omega
    rw [e1] at this
    simpa using this
  · have hm : y ∈ List.range' 0 p ++ p :: (List.range' (p + 1) (q - (p + 1)) ++ q :: List.range' (q + 1) (os.size - (q + 1))) := by
      simp only [List.mem_append, List.mem_cons] at hy ⊢
      rcases hy with h | h | h
      · exact .inl h
      · exact .inr (.inr (.inl h))
      · exact .inr (.inr (.inr (.inr h)))
    have hne : y ≠ p /\ y ≠ q := by
      simp only [List.mem_append, List.mem_range'] at hy
      rcases hy with ⟨j, hj, rfl⟩ | ⟨j, hj, rfl⟩ | ⟨j, hj, rfl⟩ <;> omega
    have := o3 y ((mem0 y).1 hm).1
    simp only [Bool.or_eq_true, decide_eq_true_eq] at this
    rcases this with (((h | h) | h) | h) | h
    · exact absurd h hne.1
    · exact absurd h hne.2
    · split at h
      · rename_i o ho
        exact .inl ⟨o, ho, by simpa using h⟩
      · simp at h
    · exact .inr (.inl h)
    · exact .inr (.inr h)
  · intro O' Y' J' a' w' k1 k2 k3 k4 k5 k6
    exact ⟨.normal, O', Y', J', rfl, k1, hst.trans (s1.trans k2), k3, k4, k5, k6⟩
theorem zW.reg2J {l m : List AIns} {p : Nat} (h : zu C (Q .normal) (l.drop p) m (l.take p) Hist.none O Y) : zW C n k (.reg2 l (z8m p :: m)) Q O Y := by
  intro c hc J0 w0 hgl hk J a w hst hR hE hn
  obtain ⟨id, os, rfl, hd, p', q, hc⟩ := zeb hc
  have hdst := z9s hd
  rcases hc with hc | hc
  · obtain ⟨as_, bs, e, _, _, _, _, k2⟩ := z87 hc
    cases e
    obtain ⟨i, hi⟩ := zei _ _ k2 (z8m p) (by simp)
    exact absurd hi.symm (zqq _ _ _)
  obtain ⟨as_, bs, e, hf, hok, hb, k1, k2⟩ := z86 hc
  simp only [ACode.reg2.injEq, List.cons.injEq, z8m, AIns.mk.injEq, Option.some.injEq, true_and, and_true] at e
  obtain ⟨rfl, rfl, rfl⟩ := e
  simp only [zbw, Bool.and_eq_true, decide_eq_true_eq, List.all_eq_true, List.mem_range] at hok
  obtain ⟨⟨⟨⟨hpq, hq⟩, o1⟩, o2⟩, o3⟩ := hok
  have e0 : List.range' 0 os.size = List.range' 0 p ++ p :: (List.range' (p + 1) (q - (p + 1)) ++ q :: List.range' (q + 1) (os.size - (q + 1))) := by
    have a1 : List.range' 0 os.size = List.range' 0 p ++ List.range' p (os.size - p) := by
      have := List.range'_append (s := 0) (m := p) (n := os.size - p) (step := 1)
      rw [show 0 + 1 * p = p by omega, show p + (os.size - p) = os.size by omega] at this
      exact this.symm
    have a2 : List.range' p (os.size - p) = p :: List.range' (p + 1) (os.size - (p + 1)) := by
      rw [show os.size - p = (os.size - (p + 1)) + 1 by omega]; rfl
    have a3 : List.range' (p + 1) (os.size - (p + 1)) = List.range' (p + 1) (q - (p + 1)) ++ List.range' q (os.size - q) := by
      have := List.range'_append (s := p + 1) (m := q - (p + 1)) (n := os.size - q) (step := 1)
      rw [show p + 1 + 1 * (q - (p + 1)) = q by omega, show q - (p + 1) + (os.size - q) = os.size - (p + 1) by omega] at this
      exact this.symm
    have a4 : List.range' q (os.size - q) = q :: List.range' (q + 1) (os.size - (q + 1)) := by
      rw [show os.size - q = (os.size - (q + 1)) + 1 by omega]; rfl
    rw [a1, a2, a3, a4]
  rw [e0] at k1
  obtain ⟨la, lx, rfl, hla, c1, c2⟩ := zeh _ _ k1
  simp only [List.length_range'] at hla
  rw [List.drop_left' hla, List.take_left' hla] at h
  have hrun := zeg (K := Q .normal) c2 k2 _ _ c1 Hist.none Hist.none O Y ⟨fun _ hs => hs, fun _ hs => hs, fun _ hs => hs⟩ h
  have mem0 : ∀ i, i ∈ List.range' 0 p ++ p :: (List.range' (p + 1) (q - (p + 1)) ++ q :: List.range' (q + 1) (os.size - (q + 1))) ↔ i < os.size /\ (Array.replicate os.size false).getD i true = false := fun i => by rw [<- e0]; exact z6z i
  obtain ⟨s1, R1⟩ := hR.drawn (w' := { w with drawn := w.drawn + 1 }) rfl rfl rfl rfl
  refine wp_region_any hf ?_
  refine zkp (p := p) (q := q) hb hdst os.size (Array.replicate os.size false) _ _ _ (by simp) mem0 (by rw [<- e0]; exact List.pairwise_lt_range') (z9r os) (by rw [<- e0]; simp)
    (fun x i hx hi hxi => ?_) (fun y hy => ?_) (fun y hy => ?_) Hist.none O Y J a _ hrun R1 (hE.mono s1) hn ?_
  · have := o1 i ((mem0 i).1 hi).1 x hxi
    simp only [Bool.or_eq_true, Bool.and_eq_true, decide_eq_true_eq] at this
    rcases this with (h | h) | h
    · exact .inl h
    · exact .inr (.inl h)
    · exact .inr (.inr h)
  · simp only [List.mem_range'] at hy
    obtain ⟨j, hj, rfl⟩ := hy
    have := o2 (p + 1 + 1 * j) (by omega)
    have e1 : (decide (p < p + 1 + 1 * j) && decide (p + 1 + 1 * j < q)) = true := by simp; omega
    rw [e1] at this
    simpa using this
  · have hm : y ∈ List.range' 0 p ++ p :: (List.range' (p + 1) (q - (p + 1)) ++ q :: List.range' (q + 1) (os.size - (q + 1))) := by
      simp only [List.mem_append, List.mem_cons] at hy ⊢
      rcases hy with h | h
      · exact .inr (.inr (.inl h))
      · exact .inr (.inr (.inr (.inr h)))
    have hne : p < y /\ y ≠ q := by
      simp only [List.mem_append, List.mem_range'] at hy
      rcases hy with ⟨j, hj, rfl⟩ | ⟨j, hj, rfl⟩ <;> omega
    have := o3 y ((mem0 y).1 hm).1
    simp only [Bool.or_eq_true, decide_eq_true_eq] at this
    rcases this with ((((h | h) | h) | h) | h) | h
    · omega
    · omega
    · exact absurd h hne.2
    · split at h
      · rename_i o ho
        exact .inl ⟨o, ho, by simpa using h⟩
      · simp at h
    · exact .inr (.inl h)
    · exact .inr (.inr h)
  · intro O' Y' J' a' w' k1 k2 k3 k4 k5 k6
    exact ⟨.normal, O', Y', J', rfl, k1, hst.trans (s1.trans k2), k3, k4, k5, k6⟩
theorem zW.reg2 {l m : List AIns} (h : zi C (Q .normal) l Hist.none O Y) (h2 : zi C (Q .normal) m Hist.none O Y) : zW C n k (.reg2 l m) Q O Y := zW.reg2H h h2
theorem zW.zr {ops : List AIns} (h : zi C (Q .normal) ops Hist.none O Y) : zW C n k (.reg ops) Q O Y := zW.regH h
theorem zW.regS {ops : List AIns} (h : zi C (Q .normal) ops (Hist.same Y) O Y) : zW C n k (.reg ops) Q O Y := zW.regH h
theorem zW.seqReg {ops : List AIns} {y : ACode} (h : zi C (zW C n k y Q) ops Hist.none O Y) : zW C n k (.seq (.reg ops) y) Q O Y := zW.zs (zW.zr h)
theorem zW.down {ac : ACode} {O' : Env} {Y' : Store} (hd : Down k O Y O' Y') (h : zW C n k ac Q O' Y') : zW C n k ac Q O Y := by
  intro c hc J0 w0 hgl hk J a w hst hR hE hn
  obtain ⟨J', h1, h2, h3⟩ := hd.sound hR hE hst hgl (by omega)
  exact h c hc J0 w0 hgl hk J' a w h1 h2 h3 hn
theorem zW.post_down {ac : ACode} (h : zW C n k ac (fun e O Y => ∃ O' Y', Down k O Y O' Y' /\ Q e O' Y') O Y) : zW C n k ac Q O Y := by
  intro c hc J0 w0 hgl hk J a w hst hR hE hn
  refine wp_mono (h c hc J0 w0 hgl hk J a w hst hR hE hn) ?_
  rintro e a' w' ⟨ae, O', Y', J', h1, ⟨O2, Y2, hd, hq⟩, h3, h4, h5, h6⟩
  obtain ⟨J2, k1, k2, k3⟩ := hd.sound h4 h5 h3 hgl (by omega)
  exact ⟨ae, O2, Y2, J2, h1, hq, k1, k2, k3, h6⟩
end
end Am
end Go.Proofs.YtjgljhbmljgaeaaDoor
end
section
/- THE ABSTRACT MACHINE, part 19: a Go function's contract from its code. -/
namespace Go.Proofs.YtjgljhbmljgaeaaDoor
namespace Am

/-- What is returned: a slot's value, or what lies where a slot points to. -/
inductive RV where
  | t (n : Nat)
  | c (a : Nat) (ag : Bool) (n : Nat)
def RV.val (O : Env) (Y : Store) : RV -> AV
  | .t n => O n
  | .c a ag n => (z2l ag n Y (O a)).getD .any
def RV.ok (O : Env) (Y : Store) : RV -> Bool
  | .t _ => true
  | .c a ag n => (z2l ag n Y (O a)).isSome
def oks (O : Env) (Y : Store) : List RV -> Bool
  | [] => true
  | x :: l => x.ok O Y && oks O Y l
def z61 (C : Ctx) : List ResultVar -> Option (List RV)
  | [] => some []
  | .tmp t :: l => (z61 C l).map (.t t :: ·)
  | .cell a t :: l => (z1x C t).bind fun ag => (z19 C t).bind fun n => (z61 C l).map (.c a ag n :: ·)
def retV (ts : List RV) (O : Env) (Y : Store) : AV := match ts with
  | [t] => t.val O Y
  | ts => .tup (ts.map (RV.val O Y))
def z27 (args : List AV) : Env := fun t => args.getD t .undef
/-- A Go function, turned: how many slots, which are returned, its code. -/
def cFn (C : Ctx) (f : FuncId) : Option (Nat × List RV × ACode) :=
  (C.P.funcs[f]?).bind fun fn => if (fn.name == "runtime.NumGoroutine") = true then none else fn.body.bind fun c => (z61 C fn.results.toList).bind fun ts => (z12 C fn.ntmps c).map fun ac => (fn.ntmps, ts, ac)
def endQ (k : Nat) (ts : List RV) (v : AV) (Y' : Store) : AExit -> Env -> Store -> Prop
  | .exit _ => fun _ _ => False
  | _ => fun O Y => oks O Y ts = true /\ DownV k (retV ts O Y) Y v Y'

theorem zcm {C : Ctx} {J : Places} {Y : Store} {w : World} {O : Env} {tmps : Array Value} (hR : Rel C J Y w) (hE : EnvR J w O tmps) (g : ResultVar -> Sem Value) (hg : ∀ t, g (.tmp t) = pure (tmps.getD t undef))
    (hg2 : ∀ a t, g (.cell a t) = do loadVar t (<- asAddr (tmps.getD a undef))) : ∀ (l : List ResultVar) (ts : List RV), z61 C l = some ts -> oks O Y ts = true ->
    ∃ vs, (l.mapM (m := Sem) g).run C.P w = .ok vs w /\ VRt J w (ts.map (RV.val O Y)) vs
  | [], ts, h, _ => by simp only [z61, Option.some.injEq] at h; subst h; exact ⟨[], by simp, VRt.nil⟩
  | .tmp t :: l, ts, h, hk => by
    simp only [z61, Option.map_eq_some_iff] at h
    obtain ⟨ts', h1, rfl⟩ := h
    simp only [oks, Bool.and_eq_true] at hk
    obtain ⟨vs, k1, k2⟩ := zcm hR hE g hg hg2 l ts' h1 hk.2
    exact ⟨tmps.getD t undef :: vs, by simp only [List.mapM_cons, Sem.run_bind, hg, Sem.run_pure, Result.andThen_ok, k1], VRt.cons (hE t) k2⟩
  | .cell a t :: l, ts, h, hk => by
    simp only [z61, Option.bind_eq_some_iff, Option.map_eq_some_iff] at h
    obtain ⟨ag, hag, n, hn, ts', h1, rfl⟩ := h
    simp only [oks, Bool.and_eq_true, RV.ok] at hk
    obtain ⟨vs, k1, k2⟩ := zcm hR hE g hg hg2 l ts' h1 hk.2
    obtain ⟨x, hx⟩ := Option.isSome_iff_exists.1 hk.1
    have hp := hE a
    have hx' : z6p C Y t (O a) = some x := by
      rw [<- hx]
      generalize O a = p
      cases p <;> simp only [z6p, z2l, hag, hn, Option.bind_some]
      rfl
    obtain ⟨v, q1, q2⟩ := zfp hR hp hx'
    have hc : (do loadVar t (<- asAddr (tmps.getD a undef)) : Sem Value).run C.P w = .ok v w := by
      rw [<- q1]
      generalize O a = p at *
      generalize tmps.getD a undef = cp at *
      cases p <;> simp only [z2l, reduceCtorEq] at hx
      · simp only [VR] at hp
        obtain ⟨_, pl, _, rfl⟩ := hp
        simp [Instr.loadAt, Instr.sureAddr, asAddr]
      · simp only [VR] at hp
        obtain ⟨b, o, vals, rfl, _⟩ := hp
        simp [Instr.loadAt, Instr.sureAddr, asAddr]
    refine ⟨v :: vs, ?_, VRt.cons ?_ k2⟩
    · simp only [List.mapM_cons, Sem.run_bind, hg2]
      simp only [Sem.run_bind] at hc
      rw [hc]
      simp only [Sem.run_pure, Result.andThen_ok, k1]
    · simp only [RV.val, hx, Option.getD_some]; exact q2
theorem z7a {C : Ctx} {J : Places} {Y : Store} {w : World} {O : Env} {fn : Func} {tmps : Array Value} {ts : List RV} (hR : Rel C J Y w) (hE : EnvR J w O tmps) (h : z61 C fn.results.toList = some ts) (hk : oks O Y ts = true) :
    ∃ cv, (results fn tmps).run C.P w = .ok cv w /\ VR J w (retV ts O Y) cv := by
  unfold results
  rw [Array.mapM_eq_mapM_toList]
  obtain ⟨vs, h1, h2⟩ := zcm hR hE (fun | .tmp t => pure (tmps.getD t undef) | .cell a t => do loadVar t (<- asAddr (tmps.getD a undef))) (fun t => rfl) (fun a t => rfl) _ _ h hk
  simp only [Sem.run_bind, Sem.run_map]
  erw [h1]
  simp only [Result.andThen_ok, Sem.run_pure]
  unfold retV
  have hl := h2.length
  match ts with
  | [t] =>
    simp only [List.map_cons, List.map_nil, VRt] at h2
    obtain ⟨v, _, rfl, h3, rfl⟩ := h2
    exact ⟨v, by simp, h3⟩
  | [] =>
    simp only [List.map_nil, VRt] at h2
    subst h2
    exact ⟨.tuple #[], by simp, by simp only [VR]; exact ⟨[], rfl, by simp [VRt]⟩⟩
  | a :: b :: l =>
    have : ¬ (vs.toArray.size = 1) := by simp at hl ⊢; omega
    exact ⟨.tuple vs.toArray, by simp only [this, dif_neg, not_false_eq_true], by simp only [VR]; exact ⟨vs, rfl, h2⟩⟩

theorem z8j {J : Places} {w : World} {args : List AV} {cargs : List Value} (h : VRt J w args cargs) (n : Nat) : EnvR J w (z27 args) (cargs.toArray ++ Array.replicate (n - cargs.toArray.size) undef) := by
  intro t
  have hl := h.length
  simp only [z27, Array.getD_eq_getD_getElem?, List.getD_eq_getElem?_getD]
  by_cases ht : t < args.length
  · obtain ⟨v, h1, h2⟩ := h.get (List.getElem?_eq_getElem ht)
    rw [Array.getElem?_append_left (by simp; omega), List.getElem?_toArray, h1, List.getElem?_eq_getElem ht]
    exact h2
  · rw [List.getElem?_eq_none (by omega), Array.getElem?_append_right (by simp; omega)]
    simp only [Option.getD_none, VR, Array.getElem?_replicate]
    split <;> rfl

theorem ACallsTo.of_body {C : Ctx} {f : FuncId} {n : Nat} {ts : List RV} {ac : ACode} (hc : cFn C f = some (n, ts, ac)) {args : List AV} {Y Y' : Store} {v : AV} (hn : args.length <= n)
    (h : Wf Y.length Y -> RLs Y.length args -> zW C n Y.length ac (endQ Y.length ts v Y') (z27 args) Y) : ACallsTo C f args Y v Y' := by
  simp only [cFn, Option.bind_eq_some_iff] at hc
  obtain ⟨fn, hf, hc⟩ := hc
  split at hc
  · cases hc
  · rename_i hname
    simp only [Option.bind_eq_some_iff, Option.map_eq_some_iff, Prod.mk.injEq] at hc
    obtain ⟨c, hb, ts', hts, ac', hac, rfl, rfl, rfl⟩ := hc
    intro J w cargs hR ha
    left
    constructor
    · have hname' : (fn.name == "runtime.NumGoroutine") = false := by simpa using hname
      have h1 : fn.name ≠ "runtime.NumGoroutine" := by simpa using hname'
      simp [callFunc, hf, h1, hb]
    · have hl := ha.length
      refine calls_of_wp hf hb ?_
      have hw := h hR.wf (by rw [<- hR.len]; exact VRt.rl _ _ ha) c hac J w hR.gl hR.len J { tmps := cargs.toArray ++ Array.replicate (fn.ntmps - cargs.toArray.size) undef, defers := [] } w (Step.refl _ _) hR
        (z8j ha _) (by simp; omega)
      refine wp_mono hw ?_
      rintro e a' w' ⟨ae, O', Y2, J', rfl, hq, q1, q2, q3, q4, q5⟩
      have fin : (oks O' Y2 ts' = true /\ DownV Y.length (retV ts' O' Y2) Y2 v Y') -> a'.defers = [] /\ ∃ v_1, (results fn a'.tmps).run C.P w' = .ok v_1 w' /\ ∃ cv J', Ending.returned v_1 = .returned cv /\ Step J w J' w' /\ Rel C J' Y' w' /\ VR J' w' v cv := by
        rintro ⟨hk, hd⟩
        obtain ⟨rv, r1, r2⟩ := z7a q2 q3 hts hk
        obtain ⟨J2, k1, k2, k3⟩ := hd.sound q2 r2 q1 hR.gl (by rw [hR.len]; exact Nat.le_refl _)
        exact ⟨q4, _, r1, _, J2, rfl, k1, k2, k3⟩
      cases ae with
      | normal => exact fin hq
      | exit id => exact hq.elim
      | ret => exact fin hq

/-- What holds at a function's end, behind what is let go. -/
def endP (k : Nat) (ts : List RV) (P : AV -> Store -> Prop) : AExit -> Env -> Store -> Prop
  | .exit _ => fun _ _ => False
  | _ => fun O Y => oks O Y ts = true /\ ∃ v Y', P v Y' /\ DownV k (retV ts O Y) Y v Y'
theorem ACallsP.of_body {C : Ctx} {f : FuncId} {n : Nat} {ts : List RV} {ac : ACode} (hc : cFn C f = some (n, ts, ac)) {args : List AV} {Y : Store} {P : AV -> Store -> Prop} (hn : args.length <= n)
    (h : Wf Y.length Y -> RLs Y.length args -> zW C n Y.length ac (endP Y.length ts P) (z27 args) Y) : ACallsP C f args Y P := by
  simp only [cFn, Option.bind_eq_some_iff] at hc
  obtain ⟨fn, hf, hc⟩ := hc
  split at hc
  · cases hc
  · rename_i hname
    simp only [Option.bind_eq_some_iff, Option.map_eq_some_iff, Prod.mk.injEq] at hc
    obtain ⟨c, hb, ts', hts, ac', hac, rfl, rfl, rfl⟩ := hc
    intro J w cargs hR ha
    left
    constructor
    · have hname' : (fn.name == "runtime.NumGoroutine") = false := by simpa using hname
      have h1 : fn.name ≠ "runtime.NumGoroutine" := by simpa using hname'
      simp [callFunc, hf, h1, hb]
    · have hl := ha.length
      refine calls_of_wp hf hb ?_
      have hw := h hR.wf (by rw [<- hR.len]; exact VRt.rl _ _ ha) c hac J w hR.gl hR.len J { tmps := cargs.toArray ++ Array.replicate (fn.ntmps - cargs.toArray.size) undef, defers := [] } w (Step.refl _ _) hR
        (z8j ha _) (by simp; omega)
      refine wp_mono hw ?_
      rintro e a' w' ⟨ae, O', Y2, J', rfl, hq, q1, q2, q3, q4, q5⟩
      have fin : (oks O' Y2 ts' = true /\ ∃ v Y', P v Y' /\ DownV Y.length (retV ts' O' Y2) Y2 v Y') -> a'.defers = [] /\ ∃ v_1, (results fn a'.tmps).run C.P w' = .ok v_1 w' /\ ∃ cv v J' Y', Ending.returned v_1 = .returned cv /\ P v Y' /\ Step J w J' w' /\ Rel C J' Y' w' /\ VR J' w' v cv := by
        rintro ⟨hk, v, Y', hp, hd⟩
        obtain ⟨rv, r1, r2⟩ := z7a q2 q3 hts hk
        obtain ⟨J2, k1, k2, k3⟩ := hd.sound q2 r2 q1 hR.gl (by rw [hR.len]; exact Nat.le_refl _)
        exact ⟨q4, _, r1, _, v, J2, Y', rfl, hp, k1, k2, k3⟩
      cases ae with
      | normal => exact fin hq
      | exit id => exact hq.elim
      | ret => exact fin hq
theorem ACallsP.mono {C : Ctx} {f : FuncId} {args : List AV} {Y : Store} {P P' : AV -> Store -> Prop} (h : ACallsP C f args Y P) (hp : ∀ v Y', P v Y' -> P' v Y') : ACallsP C f args Y P' := by
  intro J w cargs hR ha
  rcases h J w cargs hR ha with ⟨h1, h2⟩ | ⟨cv, v, J', Y', w', h1, h2, h3⟩
  · refine .inl ⟨h1, h2.mono ?_⟩
    rintro e w' ⟨cv, v, J', Y', rfl, k1, k2⟩
    exact ⟨cv, v, J', Y', rfl, hp _ _ k1, k2⟩
  · exact .inr ⟨cv, v, J', Y', w', h1, hp _ _ h2, h3⟩

def z41 (ts : List RV) (v : AV) (Y' : Store) : AExit -> Env -> Store -> Prop
  | .exit _ => fun _ _ => False
  | _ => fun O Y => oks O Y ts = true /\ retV ts O Y = v /\ Y = Y'
theorem ACallsTo.of_body_keep {C : Ctx} {f : FuncId} {n : Nat} {ts : List RV} {ac : ACode} (hc : cFn C f = some (n, ts, ac)) {args : List AV} {Y Y' : Store} {v : AV} (hn : args.length <= n)
    (h : zW C n Y.length ac (z41 ts v Y') (z27 args) Y) : ACallsTo C f args Y v Y' := by
  simp only [cFn, Option.bind_eq_some_iff] at hc
  obtain ⟨fn, hf, hc⟩ := hc
  split at hc
  · cases hc
  · rename_i hname
    simp only [Option.bind_eq_some_iff, Option.map_eq_some_iff, Prod.mk.injEq] at hc
    obtain ⟨c, hb, ts', hts, ac', hac, rfl, rfl, rfl⟩ := hc
    intro J w cargs hR ha
    left
    constructor
    · have hname' : (fn.name == "runtime.NumGoroutine") = false := by simpa using hname
      have h1 : fn.name ≠ "runtime.NumGoroutine" := by simpa using hname'
      simp [callFunc, hf, h1, hb]
    · have hl := ha.length
      refine calls_of_wp hf hb ?_
      have hw := h c hac J w hR.gl hR.len J { tmps := cargs.toArray ++ Array.replicate (fn.ntmps - cargs.toArray.size) undef, defers := [] } w (Step.refl _ _) hR
        (z8j ha _) (by simp; omega)
      refine wp_mono hw ?_
      rintro e a' w' ⟨ae, O', Y2, J', rfl, hq, q1, q2, q3, q4, q5⟩
      have fin : oks O' Y2 ts' = true /\ retV ts' O' Y2 = v /\ Y2 = Y' -> a'.defers = [] /\ ∃ v_1, (results fn a'.tmps).run C.P w' = .ok v_1 w' /\ ∃ cv J', Ending.returned v_1 = .returned cv /\ Step J w J' w' /\ Rel C J' Y' w' /\ VR J' w' v cv := by
        rintro ⟨hk, rfl, rfl⟩
        obtain ⟨rv, r1, r2⟩ := z7a q2 q3 hts hk
        exact ⟨q4, _, r1, _, J', rfl, q1, q2, r2⟩
      cases ae with
      | normal => exact fin hq
      | exit id => exact hq.elim
      | ret => exact fin hq

/-! Letting go at a function's end. -/
section
variable {τ news : Store}
def z28 (τ news kept : Store) (idx : Nat -> Nat) (fzl : Nat -> Bool) : DC :=
  ⟨τ ++ news, τ.length + kept.length, fun r => if r < τ.length then r else τ.length + idx (r - τ.length), fun r => decide (τ.length <= r) && fzl (r - τ.length)⟩
theorem z6d (kept : Store) (idx : Nat -> Nat) (fzl : Nat -> Bool) : ∀ r, r < τ.length -> r < (z28 τ news kept idx fzl).n /\ (z28 τ news kept idx fzl).pre r = r := fun r hr => by
  exact ⟨by show r < τ.length + kept.length; omega, by simp [z28, hr]⟩
theorem z9x {kept : Store} {idx : Nat -> Nat} {fzl : Nat -> Bool} (hτ : Wf τ.length τ) (h1 : ∀ j, j < kept.length -> idx j < news.length) (h2 : ∀ i j, i < kept.length -> j < kept.length -> idx i = idx j -> i = j)
    (h3 : ∀ (j : Nat) (o' : AObj), kept[j]? = some (some o') -> ∃ o, news[idx j]? = some (some o) /\ DRss (z28 τ news kept idx fzl) o' o) (h4 : ∀ j, j < kept.length -> fzl (idx j) = true -> kept[j]? = some none) :
    DownS τ.length (z28 τ news kept idx fzl) (τ ++ kept) := by
  refine ⟨by simp [z28], fun r hr => ⟨by simp; omega, (z6d kept idx fzl r hr).2⟩, fun r hr => ?_, fun r r' hr hr' e => ?_, fun r o' hr => ?_, fun r hr r' hr' e => ?_⟩
  · simp only [z28, List.length_append] at hr ⊢
    split
    · omega
    · have := h1 (r - τ.length) (by omega); omega
  · simp only [z28, List.length_append] at hr hr' e
    split at e <;> split at e
    · exact e
    · omega
    · omega
    · have := h2 (r - τ.length) (r' - τ.length) (by omega) (by omega) (by omega); omega
  · by_cases hl : r < τ.length
    · rw [List.getElem?_append_left hl] at hr
      refine ⟨o', ?_, DRss.refl (z6d kept idx fzl) o' (hτ r o' hr)⟩
      simp only [z28, hl, if_true]
      rw [List.getElem?_append_left hl]; exact hr
    · rw [List.getElem?_append_right (by omega)] at hr
      obtain ⟨o, q1, q2⟩ := h3 _ o' hr
      refine ⟨o, ?_, q2⟩
      simp only [z28, hl, if_false]
      rw [List.getElem?_append_right (by omega), Nat.add_sub_cancel_left]; exact q1
  · simp only [z28, Bool.and_eq_true, decide_eq_true_eq, List.length_append] at hr hr' e
    split at e
    · omega
    · subst e
      rw [List.getElem?_append_right (by omega)]
      rw [Nat.add_sub_cancel_left] at hr
      exact h4 _ (by omega) hr.2

/-- A result that leads into no new object. -/
theorem DownV.pure {v : AV} (hτ : Wf τ.length τ) (hv : RL τ.length v) : DownV τ.length v (τ ++ news) v τ := by
  refine ⟨z28 τ news [] id (fun _ => true), rfl, by simpa using z9x (kept := []) (idx := id) (fzl := fun _ => true) (news := news) hτ (by simp) (by simp) (by simp) (by simp), DR.refl (z6d _ _ _) v hv⟩
theorem DownV.same {v : AV} (hτ : Wf τ.length τ) (hv : RL τ.length v) : DownV τ.length v τ v τ := by
  simpa using DownV.pure (news := []) hτ hv
/-- A new row, that nobody writes any more. -/
theorem DownV.froze {j off len esz : Nat} {lim : Option Nat} {o : AObj} (hτ : Wf τ.length τ) (ho : news[j]? = some (some o)) (hl : off + len <= o.length) (hr : RLss τ.length ((o.drop off).take len)) :
    DownV τ.length (.sl (τ.length + j) off len lim esz) (τ ++ news) (.vsl esz ((o.drop off).take len) false) τ := by
  refine ⟨z28 τ news [] id (fun _ => true), rfl, by simpa using z9x (kept := []) (idx := id) (fzl := fun _ => true) (news := news) hτ (by simp) (by simp) (by simp) (by simp), ?_⟩
  have e : ((o.drop off).take len).length = len := by simp; omega
  simp only [DR, z28]
  right
  left
  refine ⟨τ.length + j, off, lim, o, by rw [e], by simp, ?_, by rw [e]; exact hl, by simp, ?_⟩
  · rw [List.getElem?_append_right (by omega), Nat.add_sub_cancel_left]; exact ho
  · rw [e]; exact DRss.refl (z6d [] id (fun _ => true)) _ hr
/-- A new row, handed on to its new owner. -/
theorem DownV.own {j off len esz : Nat} {lim : Option Nat} {o : AObj} (hτ : Wf τ.length τ) (ho : news[j]? = some (some o)) (hr : RLss τ.length o) :
    DownV τ.length (.sl (τ.length + j) off len lim esz) (τ ++ news) (.sl τ.length off len lim esz) (τ ++ [some o]) := by
  have hj : j < news.length := (List.getElem?_eq_some_iff.1 ho).1
  refine ⟨z28 τ news [some o] (fun _ => j) (fun i => !decide (i = j)), rfl, z9x hτ (by simp [hj]) (fun a b h1 h2 _ => by simp at h1 h2; omega) (fun i o' hi => ?_) (fun i hi h => by simp at h), ?_⟩
  · cases i with
    | zero =>
      simp at hi; subst hi
      exact ⟨o, ho, DRss.refl (z6d _ _ _) _ hr⟩
    | succ i => simp at hi
  · simp only [DR, z28]
    simp
end
end Am
end Go.Proofs.YtjgljhbmljgaeaaDoor
end
section
/- THE ABSTRACT MACHINE, part 30: a range over a function: rounds; what turns that is no cells; the function's end. -/
namespace Go.Proofs.YtjgljhbmljgaeaaDoor
namespace Am
open Go.RowKit

/-! Where only what is no cells turns, all values stay. -/
structure Book (w w' : World) : Prop where
  size : w.heap.size <= w'.heap.size
  cells : ∀ (b : Nat) (c : Array Value) (ty : TypeId) (fz : Nat × Nat), w.heap[b]? = some (Obj.cells c ty fz) -> w'.heap[b]? = some (Obj.cells c ty fz)
  os : w'.os = w.os
  tape : w'.tape = w.tape
  output : w'.output = w.output
theorem Book.trans {a b c : World} (h : Book a b) (k : Book b c) : Book a c :=
  ⟨Nat.le_trans h.size k.size, fun i x ty fz hi => k.cells i x ty fz (h.cells i x ty fz hi), k.os.trans h.os, k.tape.trans h.tape, k.output.trans h.output⟩
theorem Book.putObj {w : World} {l : Nat} {o : Obj} (o' : Obj) (h : w.heap[l]? = some o) (ho : o.isCells = false) : Book w (w.putObj l o') :=
  ⟨by simp, fun b c ty fz hb => (by
    rw [World.putObj_heap_other]
    · exact hb
    · rintro rfl
      rw [h] at hb; cases hb
      cases ho), rfl, rfl, rfl⟩
theorem Book.alloc (w : World) (o : Obj) : Book w (w.alloc o) :=
  ⟨by simp, fun b c ty fz hb => (Below.heap_alloc w o b (Array.getElem?_eq_some_iff.1 hb).1).trans hb, rfl, rfl, rfl⟩
theorem Book.drew (w : World) : Book w w.drew := ⟨Nat.le_refl _, fun _ _ _ _ h => h, rfl, rfl, rfl⟩
section
variable {J : Places} {w w' : World}
theorem Imm.book (h : Book w w') {b : Nat} (hb : Imm J w b) : Imm J w' b := ⟨Nat.lt_of_lt_of_le hb.1 h.size, hb.2⟩
theorem Seg.book (h : Book w w') {b o : Nat} {vals : List Value} (hs : Seg w b o vals) : Seg w' b o vals := by
  obtain ⟨c, ty, fz, pre, post, h1, h2⟩ := hs
  exact ⟨c, ty, fz, pre, post, h.cells _ _ _ _ h1, h2⟩
end
mutual
theorem VR.book {J : Places} {w w' : World} (h : Book w w') : ∀ (a : AV) (v : Value), VR J w a v -> VR J w' a v
  | .any, _, _ => by simp only [VR]
  | .undef, _, hv => by simpa only [VR] using hv
  | .bool _, _, hv => by simpa only [VR] using hv
  | .int _ _, _, hv => by simpa only [VR] using hv
  | .str _, _, hv => by simpa only [VR] using hv
  | .nilp, _, hv => by simpa only [VR] using hv
  | .ptr r i off, v, hv => by simpa only [VR] using hv
  | .vp cs, v, hv => by
    simp only [VR] at hv ⊢
    obtain ⟨b, o, vals, h1, h2, h3, h4⟩ := hv
    exact ⟨b, o, vals, h1, h2.book h, h3.book h, VRs.book h cs vals h4⟩
  | .nilsl, _, hv => by simpa only [VR] using hv
  | .vsl esz es ex, v, hv => by
    simp only [VR] at hv ⊢
    rcases hv with hv | ⟨b, o, cap, vals, h1, h2, h3, h4, h5, h6, h7⟩
    · exact .inl hv
    · exact .inr ⟨b, o, cap, vals, h1, h2, h3, h4.book h, h5.book h, h6, VRss.book h es vals h7⟩
  | .sl r off len lim esz, v, hv => by simpa only [VR] using hv
  | .asl r i off len cap esz, v, hv => by simpa only [VR] using hv
  | .fn f caps, v, hv => by
    simp only [VR] at hv ⊢
    obtain ⟨vs, h1, h2⟩ := hv
    exact ⟨vs, h1, VRt.book h caps vs h2⟩
  | .nilfn, _, hv => by simpa only [VR] using hv
  | .agg cs, v, hv => by
    simp only [VR] at hv ⊢
    obtain ⟨vs, h1, h2⟩ := hv
    exact ⟨vs, h1, VRs.book h cs vs h2⟩
  | .tup cs, v, hv => by
    simp only [VR] at hv ⊢
    obtain ⟨vs, h1, h2⟩ := hv
    exact ⟨vs, h1, VRt.book h cs vs h2⟩
  | .bld r, v, hv => by simpa only [VR] using hv
  | .bnil, _, hv => by simpa only [VR] using hv
  | .bsl r len, v, hv => by simpa only [VR] using hv
theorem VRs.book {J : Places} {w w' : World} (h : Book w w') : ∀ (as_ : List AV) (vs : List Value), VRs J w as_ vs -> VRs J w' as_ vs
  | [], _, hv => by simpa only [VRs] using hv
  | a :: as_, vs, hv => by
    simp only [VRs] at hv ⊢
    obtain ⟨v, vs', h1, h2, h3⟩ := hv
    exact ⟨v, vs', h1, ⟨VR.book h a v h2.1, h2.2⟩, VRs.book h as_ vs' h3⟩
theorem VRt.book {J : Places} {w w' : World} (h : Book w w') : ∀ (as_ : List AV) (vs : List Value), VRt J w as_ vs -> VRt J w' as_ vs
  | [], _, hv => by simpa only [VRt] using hv
  | a :: as_, vs, hv => by
    simp only [VRt] at hv ⊢
    obtain ⟨v, vs', h1, h2, h3⟩ := hv
    exact ⟨v, vs', h1, VR.book h a v h2, VRt.book h as_ vs' h3⟩
theorem VRss.book {J : Places} {w w' : World} (h : Book w w') : ∀ (es : List (List AV)) (vs : List Value), VRss J w es vs -> VRss J w' es vs
  | [], _, hv => by simpa only [VRss] using hv
  | e :: es, vs, hv => by
    simp only [VRss] at hv ⊢
    obtain ⟨v1, v2, h1, h2, h3⟩ := hv
    exact ⟨v1, v2, h1, VRs.book h e v1 h2, VRss.book h es v2 h3⟩
end
section
variable {C : Ctx} {J J0 : Places} {Y : Store} {w w' w0 : World}
theorem ObjOK.book {pl : Place} {o : AObj} (h : ObjOK J w pl o) (hb : Book w w') : ObjOK J w' pl o := by
  obtain ⟨c, ty, fz, pre, mid, post, h1, h2, h3, h4, h5, h6⟩ := h.ex
  obtain ⟨c0, fz0, h0⟩ := h.tyk
  exact ⟨h.len, h.esz, ⟨c0, fz0, hb.cells _ _ _ _ h0⟩, c, ty, fz, pre, mid, post, hb.cells _ _ _ _ h1, h2, h3, h4, VRs.book hb _ _ h5, h6⟩
theorem Rel.book (h : Rel C J Y w) (hb : Book w w') : Rel C J Y w' :=
  ⟨h.len, fun r o hr => by obtain ⟨pl, h1, h2⟩ := h.alive r o hr; exact ⟨pl, h1, h2.book hb⟩, h.dead, h.inj, fun g cs hg => VR.book hb _ _ (h.gl g cs hg)⟩
theorem Step.book (h : Step J0 w0 J w) (hb : Book w w') (hlow : ∀ b, b < w0.heap.size -> w'.heap[b]? = w.heap[b]?) : Step J0 w0 J w' :=
  ⟨h.keep, Nat.le_trans h.size hb.size, fun b hb' hn => (hlow b hb').trans (h.imm b hb' hn), h.new, hb.os.trans h.os, hb.tape.trans h.tape, hb.output.trans h.output⟩
/-- What is no cells lies as_ it lay. -/
theorem Step.other {J' : Places} (h : Step J w J' w') (hR : Rel C J Y w) {l : Nat} {o : Obj} (hl : w.heap[l]? = some o) (ho : o.isCells = false) : w'.heap[l]? = some o := by
  rw [h.imm l (Array.getElem?_eq_some_iff.1 hl).1, hl]
  intro r pl hr e
  subst e
  have hrl : r < Y.length := by rw [<- hR.len]; exact (List.getElem?_eq_some_iff.1 hr).1
  cases hq : Y[r] with
  | none =>
    obtain ⟨pl', h1⟩ := hR.dead r (by rw [List.getElem?_eq_getElem hrl, hq])
    rw [h1] at hr; cases hr
  | some ob =>
    obtain ⟨pl', h1, h2⟩ := hR.alive r ob (by rw [List.getElem?_eq_getElem hrl, hq])
    rw [h1] at hr; cases hr
    obtain ⟨c0, fz0, h0⟩ := h2.tyk
    rw [hl] at h0; cases h0; cases ho
end

/-! Code within a round. -/
def z5q (rd : Option Nat) : Fence := { Fence.wide with round := rd }
theorem zk6 {rd : Option Nat} {n : Nat} {P : Program} {f : FuncId} {args : Array Value} {w : World} {R : Ending -> World -> Prop} (h : Calls P f args w R) : CallsIn (z5q rd) n P f args w R :=
  (callsIn_wide (n := n)).2 h
theorem zp3 {rd : Option Nat} {n : Nat} {P : Program} {r : String} {args : Array Value} {w : World} {R : Value -> World -> Prop} (h : Rows P r args w R) : RowsIn (z5q rd) n P r args w R :=
  fun c cs _ => let ⟨v, w', q, s⟩ := h c cs; ⟨v, w', q, (stepsIn_wide (P := P)).2 s⟩
theorem zg9 {rd : Option Nat} {m : Nat} {P : Program} {o : Oper} {a : Act} {w : World} {K : Act -> World -> Prop} {Q : Exit -> Act -> World -> Prop} (hd : ∀ c, o.op ≠ .defer c) (h : o.wp P a w K Q) : o.wpIn (z5q rd) m P a w K Q := by
  refine ⟨fun _ _ => trivial, ?_⟩
  rw [Oper.semAt_eq _ _ _ hd]
  unfold Oper.wp at h
  generalize (execOp a.eval o).run P w = r at h ⊢
  have dn : (z5q rd).depth.isSome = true -> 1 <= m := fun h => by simp [z5q, Fence.wide] at h
  cases r with
  | ok x w' =>
    cases x <;> simp only [Oper.upon, Oper.uponIn] at h ⊢ <;>
      first
        | exact h
        | exact h.elim
        | exact ⟨dn, (zk6 h).mono fun e w'' he => by cases e <;> exact he⟩
        | exact ⟨dn, zp3 h⟩
  | halt x w' => cases x <;> simp only [Oper.upon, Oper.uponIn] at h ⊢ <;> first | exact h | exact h.elim
theorem zam {rd : Option Nat} {m : Nat} {P : Program} {ops : Array Oper} {Q : Exit -> Act -> World -> Prop} (hnd : ∀ o ∈ ops, ∀ c, o.op ≠ .defer c) (hq : ¬ LetsOut Q) : ∀ (L : List Nat) (a : Act) (w : World), wpOps P ops Q L a w -> wpOpsIn (z5q rd) m P ops Q L a w
  | [], _, _, h => h
  | i :: L, a, w, h => by
    simp only [wpOps, wpOpsIn] at h ⊢
    cases ho : ops[i]? with
    | none => rw [ho] at h; exact zam hnd hq L a w h
    | some o =>
      rw [ho] at h
      simp only at h ⊢
      have hm : o ∈ ops := by
        obtain ⟨hi, rfl⟩ := Array.getElem?_eq_some_iff.1 ho
        exact Array.getElem_mem hi
      split at h
      · rename_i hw
        rw [if_pos hw]
        exact Oper.wpIn_mono (fun a w hh => zam hnd hq L a w hh) (zg9 (hnd o hm) (h.resolve_right fun k => hq k.2))
      · rename_i hw
        rw [if_neg hw]
        exact ⟨fun _ _ => trivial, zam hnd hq L _ w h⟩
theorem zqy {rd : Option Nat} {m : Nat} {P : Program} {ops : Array Oper} {Q : Exit -> Act -> World -> Prop} (hnd : ∀ o ∈ ops, ∀ c, o.op ≠ .defer c) (hq : ¬ LetsOut Q) {i : Nat} {K : Act -> World -> Prop} {a : Act} {w : World} (h : wpOp P ops Q i K a w) : wpOpIn (z5q rd) m P ops Q i K a w := by
  unfold wpOp at h
  unfold wpOpIn
  cases ho : ops[i]? with
  | none => rw [ho] at h; exact h
  | some o =>
    rw [ho] at h
    simp only at h ⊢
    have hm : o ∈ ops := by
      obtain ⟨hi, rfl⟩ := Array.getElem?_eq_some_iff.1 ho
      exact Array.getElem_mem hi
    split at h
    · rename_i hw
      rw [if_pos hw]
      exact zg9 (hnd o hm) (h.resolve_right fun k => hq k.2)
    · rename_i hw
      rw [if_neg hw]
      exact ⟨fun _ _ => trivial, h⟩
theorem zi1 {rd : Option Nat} {m : Nat} {P : Program} {md : Region.Mode} {ops : Array Oper} {Q : Exit -> Act -> World -> Prop} (hnd : ∀ o ∈ ops, ∀ c, o.op ≠ .defer c) (hq : ¬ LetsOut Q) : ∀ (fuel : Nat) (listed : Array Bool) (a : Act) (w : World), wpAny P md ops Q fuel listed a w ->
    wpAnyIn (z5q rd) m P md ops Q fuel listed a w
  | 0, _, _, _, h => h
  | fuel + 1, listed, a, w, h => ⟨h.1, fun i hi => wpOpIn_mono (fun a w hh => zi1 hnd hq fuel _ a w hh) (zqy hnd hq (h.2 i hi))⟩
def AOp.stk : AOp -> Bool
  | .stuck => true
  | _ => false
def zbr (l : List AIns) : Bool := l.all fun i => !i.op.stk
theorem zay {C : Ctx} {ops : Array Oper} {need : Nat -> Nd} : ∀ (l : List Oper) (i : Nat) (as_ : List AIns), cOps C ops need l i = some as_ -> zbr as_ = true -> ∀ o ∈ l, ∀ c, o.op ≠ .defer c
  | [], _, _, _, _, o, ho, _ => by simp at ho
  | x :: l, i, as_, h, hn, o, ho, c => by
    simp only [cOps, Option.bind_eq_some_iff, Option.map_eq_some_iff] at h
    obtain ⟨a, ha, as', has, rfl⟩ := h
    simp only [zbr, List.all_cons, Bool.and_eq_true] at hn
    rcases List.mem_cons.1 ho with rfl | ho
    · intro e
      simp only [cIns, Option.map_eq_some_iff] at ha
      obtain ⟨g, hg, rfl⟩ := ha
      have h1 := hn.1
      rw [e] at h1
      simp [cOp, AOp.stk] at h1
    · exact zay l (i + 1) as' has hn.2 o ho c

def PostI (n : Nat) (Q : AExit -> Env -> Store -> Prop) (J0 : Places) (w0 : World) (C : Ctx) (a : Act) : Exit -> Act -> World -> Prop :=
  fun e a' w' => ∃ ae O' Y' J', e = AExit.out ae /\ Q ae O' Y' /\ Step J0 w0 J' w' /\ Rel C J' Y' w' /\ EnvR J' w' O' a'.tmps /\ a'.defers = a.defers /\ a'.tmps.size = n
theorem PostI.tight {n : Nat} {Q : AExit -> Env -> Store -> Prop} {J0 : Places} {w0 : World} {C : Ctx} {a : Act} : ¬ LetsOut (PostI n Q J0 w0 C a) := by
  rintro ⟨a', w', ae, O', Y', J', h, _⟩
  cases ae <;> cases h
/-- The abstract code from this state on, in a round of the loop l (or in none). -/
def SWpI (rd : Option Nat) (C : Ctx) (n k : Nat) (ac : ACode) (Q : AExit -> Env -> Store -> Prop) (O : Env) (Y : Store) : Prop :=
  ∀ (c : Code), z12 C n c = some ac -> ∀ (m : Nat) (J0 : Places) (w0 : World), Glob C J0 w0 -> J0.length = k -> ∀ (J : Places) (a : Act) (w : World), Step J0 w0 J w -> Rel C J Y w -> EnvR J w O a.tmps -> a.tmps.size = n ->
    c.wpIn (z5q rd) m C.P (PostI n Q J0 w0 C a) a w
section
variable {rd : Option Nat} {C : Ctx} {n k : Nat} {Q : AExit -> Env -> Store -> Prop} {O : Env} {Y : Store}
theorem SWpI.skip (h : Q .normal O Y) : SWpI rd C n k .skip Q O Y := by
  intro c hc m J0 w0 hgl hk J a w hst hR hE hn
  rcases zec hc with rfl | ⟨l, rfl⟩
  · exact wpIn_skip ⟨.normal, O, Y, J, rfl, h, hst, hR, hE, rfl, hn⟩
  · exact wpIn_label ⟨.normal, O, Y, J, rfl, h, hst, hR, hE, rfl, hn⟩
theorem SWpI.seq {x y : ACode} (h : SWpI rd C n k x (z29 (SWpI rd C n k y Q) Q) O Y) : SWpI rd C n k (.seq x y) Q O Y := by
  intro c hc m J0 w0 hgl hk J a w hst hR hE hn
  obtain ⟨c1, c2, rfl, h1, h2⟩ := z9o hc
  refine wpIn_seq (wpIn_mono (h c1 h1 m J0 w0 hgl hk J a w hst hR hE hn) ?_)
  rintro e a' w' ⟨ae, O', Y', J', rfl, hq, q1, q2, q3, q4, q5⟩
  cases ae with
  | normal =>
    refine wpIn_mono (hq c2 h2 m J0 w0 hgl hk J' a' w' q1 q2 q3 q5) ?_
    rintro e a2 w2 ⟨ae, O2, Y2, J2, k1, k2, k3, k4, k5, k6, k7⟩
    exact ⟨ae, O2, Y2, J2, k1, k2, k3, k4, k5, k6.trans q4, k7⟩
  | exit id => exact ⟨_, O', Y', J', rfl, hq, q1, q2, q3, q4, q5⟩
  | ret => exact ⟨_, O', Y', J', rfl, hq, q1, q2, q3, q4, q5⟩
theorem SWpI.block {id : Nat} {x : ACode} (h : SWpI rd C n k x (blkQ id Q) O Y) : SWpI rd C n k (.block id x) Q O Y := by
  intro c hc m J0 w0 hgl hk J a w hst hR hE hn
  obtain ⟨c1, rfl, h1⟩ := zax hc
  refine wpIn_block (wpIn_mono (h c1 h1 m J0 w0 hgl hk J a w hst hR hE hn) ?_)
  rintro e a' w' ⟨ae, O', Y', J', rfl, hq, q⟩
  cases ae with
  | normal => exact ⟨.normal, O', Y', J', rfl, hq, q⟩
  | exit id' =>
    simp only [AExit.out, Exit.inBlock]
    simp only [blkQ] at hq
    split at hq
    · rename_i he
      rw [if_pos he]
      exact ⟨.normal, O', Y', J', rfl, hq, q⟩
    · rename_i he
      rw [if_neg he]
      exact ⟨.exit id', O', Y', J', rfl, hq, q⟩
  | ret => exact ⟨.ret, O', Y', J', rfl, hq, q⟩
theorem SWpI.reg {ops : List AIns} (hs : zbr ops = true) (h : zi C (Q .normal) ops Hist.none O Y) : SWpI rd C n k (.reg ops) Q O Y := by
  intro c hc m J0 w0 hgl hk J a w hst hR hE hn
  obtain ⟨id, os, draw, rfl⟩ := zea hc
  obtain ⟨hd, hc'⟩ := z9n hc
  clear hc
  have hdst := z9s hd
  rcases hc' with ⟨rfl, hc⟩ | ⟨rfl, p, q, hc⟩ | ⟨rfl, l, hl, h1⟩
  · obtain ⟨as_, e, hf, hok, hb, h1⟩ := z9p hc
    cases e
    have hnd : ∀ o ∈ os, ∀ c, o.op ≠ .defer c := fun o ho => zay os.toList 0 ops h1 hs o (by simpa using ho)
    have hrun := z82 (K := Q .normal) os.toList 0 ops (fun j => by simp) h1 Hist.none Hist.none O Y ⟨fun _ hs => hs.elim, fun _ _ => trivial, fun _ _ => trivial⟩ h
    obtain ⟨s1, R1⟩ := hR.drawn (w' := { w with drawn := w.drawn + 1 }) rfl rfl rfl rfl
    refine wpIn_region_any hf (zi1 hnd PostI.tight _ _ _ _ ?_)
    refine z6v hb hdst os.size (Array.replicate os.size false) (List.range' 0 os.size) (by simp) z6z List.pairwise_lt_range' (z9r os) (by simp)
      (fun x i hx hi hxi => zfy hok ((z6z i).1 hi).1 hxi) Hist.none O Y J a _ (by simpa using hrun) R1 (hE.mono s1) hn ?_
    intro O' Y' J' a' w' k1 k2 k3 k4 k5 k6
    exact ⟨.normal, O', Y', J', rfl, k1, hst.trans (s1.trans k2), k3, k4, k5, k6⟩
  · rcases hc with hc | hc
    · obtain ⟨_, _, e, _⟩ := z87 hc
      cases e
    · obtain ⟨_, _, e, _⟩ := z86 hc
      cases e
  · cases hl
    have hnd : ∀ o ∈ os, ∀ c, o.op ≠ .defer c := fun o ho => zay os.toList 0 ops h1 hs o (by simpa using ho)
    have hrun := z82 (K := Q .normal) os.toList 0 ops (fun j => by simp) h1 Hist.none Hist.none O Y ⟨fun _ hs => hs.elim, fun _ _ => trivial, fun _ _ => trivial⟩ h
    refine wpIn_region (zam hnd PostI.tight _ _ _ ?_)
    refine zbz hdst (List.range os.size) Hist.none O Y J a w (by rw [List.range_eq_range']; simpa using hrun) hR hE hn ?_
    intro O' Y' J' a' w' k1 k2 k3 k4 k5 k6
    exact ⟨.normal, O', Y', J', rfl, k1, hst.trans k2, k3, k4, k5, k6⟩
end
end Am
end Go.Proofs.YtjgljhbmljgaeaaDoor
end
section
/- THE ABSTRACT MACHINE, part 31: code that holds one range over a function; the function's end. -/
namespace Go.Proofs.YtjgljhbmljgaeaaDoor
namespace Am
open Go.RowKit
/-- Of the deferred calls: none are new, or the mark of one loop. -/
def DefOK (w : World) (a : Act) (w' : World) (a' : Act) : Prop :=
  a'.defers = a.defers \/ ∃ D, w.heap.size <= D /\ a'.defers = { target := .collected D, args := #[] } :: a.defers /\ w'.heap[D]? = some (.deferred (some []))
def PostD (n : Nat) (Q : AExit -> Env -> Store -> Prop) (J0 : Places) (w0 : World) (C : Ctx) (a : Act) : Exit -> Act -> World -> Prop :=
  fun e a' w' => ∃ ae O' Y' J', e = AExit.out ae /\ Q ae O' Y' /\ Step J0 w0 J' w' /\ Rel C J' Y' w' /\ EnvR J' w' O' a'.tmps /\ DefOK w0 a w' a' /\ a'.tmps.size = n
def SWpD (C : Ctx) (n k : Nat) (ac : ACode) (Q : AExit -> Env -> Store -> Prop) (O : Env) (Y : Store) : Prop :=
  ∀ (c : Code), z12 C n c = some ac -> ∀ (J0 : Places) (w0 : World), Glob C J0 w0 -> J0.length = k -> ∀ (J : Places) (a : Act) (w : World), Step J0 w0 J w -> Rel C J Y w -> EnvR J w O a.tmps -> a.tmps.size = n ->
    c.wpIn Fence.wide 2 C.P (PostD n Q J0 w0 C a) a w
section
variable {C : Ctx} {n k : Nat} {Q : AExit -> Env -> Store -> Prop} {O : Env} {Y : Store}
theorem SWpD.of {ac : ACode} (h : zW C n k ac Q O Y) : SWpD C n k ac Q O Y := by
  intro c hc J0 w0 hgl hk J a w hst hR hE hn
  refine wpIn_mono (wpIn_wide.2 (h c hc J0 w0 hgl hk J a w hst hR hE hn)) ?_
  rintro e a' w' ⟨ae, O', Y', J', h1, h2, h3, h4, h5, h6, h7⟩
  exact ⟨ae, O', Y', J', h1, h2, h3, h4, h5, .inl h6, h7⟩
/-- Plain code first. -/
theorem SWpD.seqS {x y : ACode} (h : zW C n k x (z29 (SWpD C n k y Q) Q) O Y) : SWpD C n k (.seq x y) Q O Y := by
  intro c hc J0 w0 hgl hk J a w hst hR hE hn
  obtain ⟨c1, c2, rfl, h1, h2⟩ := z9o hc
  refine wpIn_seq (wpIn_mono (wpIn_wide.2 (h c1 h1 J0 w0 hgl hk J a w hst hR hE hn)) ?_)
  rintro e a' w' ⟨ae, O', Y', J', rfl, hq, q1, q2, q3, q4, q5⟩
  cases ae with
  | normal =>
    refine wpIn_mono (hq c2 h2 J0 w0 hgl hk J' a' w' q1 q2 q3 q5) ?_
    rintro e a2 w2 ⟨ae, O2, Y2, J2, k1, k2, k3, k4, k5, k6, k7⟩
    refine ⟨ae, O2, Y2, J2, k1, k2, k3, k4, k5, ?_, k7⟩
    rcases k6 with k6 | ⟨D, d1, d2, d3⟩
    · exact .inl (k6.trans q4)
    · exact .inr ⟨D, d1, by rw [d2, q4], d3⟩
  | exit id => exact ⟨_, O', Y', J', rfl, hq, q1, q2, q3, .inl q4, q5⟩
  | ret => exact ⟨_, O', Y', J', rfl, hq, q1, q2, q3, .inl q4, q5⟩
/-- Plain code behind. -/
theorem SWpD.seqR {x y : ACode} (h : SWpD C n k x (z29 (fun O' Y' => zW C n Y'.length y Q O' Y') Q) O Y) : SWpD C n k (.seq x y) Q O Y := by
  intro c hc J0 w0 hgl hk J a w hst hR hE hn
  obtain ⟨c1, c2, rfl, h1, h2⟩ := z9o hc
  refine wpIn_seq (wpIn_mono (h c1 h1 J0 w0 hgl hk J a w hst hR hE hn) ?_)
  rintro e a' w' ⟨ae, O', Y', J', rfl, hq, q1, q2, q3, q4, q5⟩
  cases ae with
  | normal =>
    refine wpIn_mono (wpIn_wide.2 (hq c2 h2 J' w' q2.gl q2.len J' a' w' (Step.refl _ _) q2 q3 q5)) ?_
    rintro e a2 w2 ⟨ae, O2, Y2, J2, k1, k2, k3, k4, k5, k6, k7⟩
    refine ⟨ae, O2, Y2, J2, k1, k2, q1.trans k3, k4, k5, ?_, k7⟩
    rcases q4 with q4 | ⟨D, d1, d2, d3⟩
    · exact .inl (k6.trans q4)
    · exact .inr ⟨D, d1, k6.trans d2, k3.other q2 d3 rfl⟩
  | exit id => exact ⟨_, O', Y', J', rfl, hq, q1, q2, q3, q4, q5⟩
  | ret => exact ⟨_, O', Y', J', rfl, hq, q1, q2, q3, q4, q5⟩
theorem SWpD.block {id : Nat} {x : ACode} (h : SWpD C n k x (blkQ id Q) O Y) : SWpD C n k (.block id x) Q O Y := by
  intro c hc J0 w0 hgl hk J a w hst hR hE hn
  obtain ⟨c1, rfl, h1⟩ := zax hc
  refine wpIn_block (wpIn_mono (h c1 h1 J0 w0 hgl hk J a w hst hR hE hn) ?_)
  rintro e a' w' ⟨ae, O', Y', J', rfl, hq, q⟩
  cases ae with
  | normal => exact ⟨.normal, O', Y', J', rfl, hq, q⟩
  | exit id' =>
    simp only [AExit.out, Exit.inBlock]
    simp only [blkQ] at hq
    split at hq
    · rename_i he
      rw [if_pos he]
      exact ⟨.normal, O', Y', J', rfl, hq, q⟩
    · rename_i he
      rw [if_neg he]
      exact ⟨.exit id', O', Y', J', rfl, hq, q⟩
  | ret => exact ⟨.ret, O', Y', J', rfl, hq, q⟩
end
theorem zqz {C : Ctx} {n : Nat} {c : Code} {g : AX} {ps : List Nat} {xa xb : ACode} (hc : z12 C n c = some (.rangef g ps xa xb)) : ∃ go p ca cb, c = .rangeFunc go p ca cb /\ cX C go = some g /\ p.toList = ps /\ z12 C n ca = some xa /\ z12 C n cb = some xb := by
  cases c
  case rangeFunc go p ca cb =>
    simp only [z12, Option.bind_eq_some_iff, Option.map_eq_some_iff, ACode.rangef.injEq] at hc
    obtain ⟨g', h1, a', h2, b', h3, rfl, rfl, rfl, rfl⟩ := hc
    exact ⟨_, _, _, _, rfl, h1, rfl, h2, h3⟩
  case region id ops draw => rcases z4c hc with ⟨_, h⟩ | ⟨_, _, h⟩ <;> cases h
  all_goals simp [z12, Option.bind_eq_some_iff, Option.map_eq_some_iff] at hc
theorem ACallsTo.of_bodyD {C : Ctx} {f : FuncId} {n : Nat} {ts : List RV} {ac : ACode} (hc : cFn C f = some (n, ts, ac)) {args : List AV} {Y Y' : Store} {v : AV} (hn : args.length <= n)
    (h : Wf Y.length Y -> RLs Y.length args -> SWpD C n Y.length ac (endQ Y.length ts v Y') (z27 args) Y) : ACallsTo C f args Y v Y' := by
  simp only [cFn, Option.bind_eq_some_iff] at hc
  obtain ⟨fn, hf, hc⟩ := hc
  split at hc
  · cases hc
  · rename_i hname
    simp only [Option.bind_eq_some_iff, Option.map_eq_some_iff, Prod.mk.injEq] at hc
    obtain ⟨c, hb, ts', hts, ac', hac, rfl, rfl, rfl⟩ := hc
    intro J w cargs hR ha
    left
    constructor
    · have h1 : fn.name ≠ "runtime.NumGoroutine" := by simpa using hname
      simp [callFunc, hf, h1, hb]
    · have hl := ha.length
      refine (callsIn_wide (n := 2)).1 (callsIn_of_wp_marks hf hb trivial ?_)
      have hw := h hR.wf (by rw [<- hR.len]; exact VRt.rl _ _ ha) c hac J w hR.gl hR.len J { tmps := cargs.toArray ++ Array.replicate (fn.ntmps - cargs.toArray.size) undef, defers := [] } w (Step.refl _ _) hR
        (z8j ha _) (by simp; omega)
      refine wpIn_mono hw ?_
      rintro e a' w' ⟨ae, O', Y2, J', rfl, hq, q1, q2, q3, q4, q5⟩
      have fin : (oks O' Y2 ts' = true /\ DownV Y.length (retV ts' O' Y2) Y2 v Y') -> LeavesInM Fence.wide 2 C.P fn a'.tmps (fun e w' => ∃ cv J', e = .returned cv /\ Step J w J' w' /\ Rel C J' Y' w' /\ VR J' w' v cv) a'.defers .returning w' := by
        rintro ⟨hk, hd⟩
        rcases q4 with q4 | ⟨D, d1, d2, d3⟩
        · simp only at q4
          rw [q4]
          obtain ⟨rv, r1, r2⟩ := z7a q2 q3 hts hk
          obtain ⟨J2, k1, k2, k3⟩ := hd.sound q2 r2 q1 hR.gl (by rw [hR.len]; exact Nat.le_refl _)
          exact ⟨_, r1, _, J2, rfl, k1, k2, k3⟩
        · simp only at d2
          rw [d2]
          have hbk := Book.putObj (.deferred none) d3 rfl
          have R2 := q2.book hbk
          have E2 : EnvR J' (w'.putObj D (.deferred none)) O' a'.tmps := fun t => VR.book hbk _ _ (q3 t)
          have S2 : Step J w J' (w'.putObj D (.deferred none)) := q1.book hbk fun b hb => World.putObj_heap_other (by omega)
          obtain ⟨rv, r1, r2⟩ := z7a R2 E2 hts hk
          obtain ⟨J2, k1, k2, k3⟩ := hd.sound R2 r2 S2 hR.gl (by rw [hR.len]; exact Nat.le_refl _)
          exact ⟨by simp, .inl ⟨D, _, rfl, run_takeDeferred d3, ⟨_, r1, _, J2, rfl, k1, k2, k3⟩⟩⟩
      cases ae with
      | normal => exact fin hq
      | exit id => exact hq.elim
      | ret => exact fin hq
theorem VRss.elem {J : Places} {w : World} {k : Nat} : ∀ {es : List (List AV)} {vals : List Value}, VRss J w es vals -> (∀ e ∈ es, e.length = k) -> ∀ {i : Nat} {e : List AV}, es[i]? = some e -> ∃ A v B, vals = A ++ v ++ B /\ A.length = i * k /\ VRs J w e v
  | [], vals, h, _, i, e, hi => by simp at hi
  | x :: es, vals, h, hu, i, e, hi => by
    simp only [VRss] at h
    obtain ⟨v1, v2, rfl, h1, h2⟩ := h
    cases i with
    | zero =>
      simp at hi; subst hi
      exact ⟨[], v1, v2, by simp, by simp, h1⟩
    | succ i =>
      simp at hi
      obtain ⟨A, v, B, rfl, h3, h4⟩ := VRss.elem h2 (fun e he => hu e (by simp [he])) hi
      refine ⟨v1 ++ A, v, B, by simp [List.append_assoc], ?_, h4⟩
      rw [List.length_append, h3, <- h1.length, hu x (by simp), Nat.succ_mul, Nat.add_comm]
end Am
end Go.Proofs.YtjgljhbmljgaeaaDoor
end
section
/- THE ABSTRACT MACHINE, part 20: it runs: what is computed on given values holds of the model. -/
namespace Go.Proofs.YtjgljhbmljgaeaaDoor
namespace Am

/-! A number of rounds. -/
def z7m (C : Ctx) (n k : Nat) (x : ACode) (Q : AExit -> Env -> Store -> Prop) : Nat -> Env -> Store -> Prop
  | 0, _, _ => False
  | m + 1, O, Y => zW C n k x (z29 (z7m C n k x Q m) Q) O Y
theorem zqj {K K' : Env -> Store -> Prop} {Q Q' : AExit -> Env -> Store -> Prop} (hk : ∀ O Y, K O Y -> K' O Y) (hq : ∀ e O Y, Q e O Y -> Q' e O Y) (e : AExit) (O : Env) (Y : Store) (h : z29 K Q e O Y) : z29 K' Q' e O Y := by
  cases e with
  | normal => exact hk _ _ h
  | exit id => exact hq _ _ _ h
  | ret => exact hq _ _ _ h
theorem zW.rounds {C : Ctx} {n k m : Nat} {x : ACode} {Q : AExit -> Env -> Store -> Prop} {O : Env} {Y : Store} (h : z7m C n k x Q m O Y) : zW C n k (.loop x) Q O Y := by
  refine zW.loop (fun m O Y => z7m C n k x Q m O Y) m h ?_
  intro m O Y hm
  cases m with
  | zero => exact hm.elim
  | succ m => exact zW.mono hm (zqj (fun O Y h => ⟨m, Nat.lt_succ_self m, h⟩) fun _ _ _ h => h)

/-! The machine. -/
def envL (l : List AV) : Env := fun t => l.getD t .undef
def AOp.calm : AOp -> Bool
  | .alloc _ | .allB | .appB _ _ | .box _ | .store _ _ _ | .conv _ _ | .make _ _ _ _ | .app _ _ _ | .copy _ _ _ | .clear _ _ | .call _ _ => false
  | _ => true
theorem AOp.calm_ok {O : Env} {Y : Store} {op : AOp} {r : AV × Store} (hc : op.calm = true) (h : op.run O Y = some r) : r.2 = Y := by
  have mp : ∀ {o : Option AV} {r : AV × Store}, o.map (fun v => (v, Y)) = some r -> r.2 = Y := by
    intro o r h
    simp only [Option.map_eq_some_iff] at h
    obtain ⟨v, _, rfl⟩ := h; rfl
  cases op <;> simp only [AOp.calm, Bool.false_eq_true] at hc <;> simp only [AOp.run] at h
  case mv x => simp only [Option.some.injEq] at h; subst h; rfl
  case stuck => cases h
  case build => simp only [Option.map_eq_some_iff] at h; obtain ⟨v, _, rfl⟩ := h; rfl
  case lit => simp only [Option.map_eq_some_iff] at h; obtain ⟨v, _, rfl⟩ := h; rfl
  case lenArr => simp only [Option.some.injEq] at h; subst h; rfl
  case mkfn => simp only [Option.some.injEq] at h; subst h; rfl
  case pick => split at h <;> simp at h; subst h; rfl
  case nilc => split at h <;> simp at h <;> (subst h; rfl)
  case ext => split at h
              · exact mp h
              · cases h
  case lenStr => split at h <;> simp at h; subst h; rfl
  all_goals exact mp h

abbrev Cal := FuncId -> List AV -> Store -> Option (AV × Store)
def put? (l : List AV) (d : Option Nat) (v : AV) : List AV := match d with
  | none => l
  | some d => l.set d v
theorem z3z {l : List AV} {d : Option Nat} {v : AV} (hd : ∀ x, d = some x -> x < l.length) : putE (envL l) d v = envL (put? l d v) := by
  cases d with
  | none => rfl
  | some d =>
    have := hd d rfl
    funext t
    simp only [putE, upd, envL, put?, List.getD_eq_getElem?_getD, List.getElem?_set]
    by_cases h : t = d
    · subst h; simp [this]
    · rw [if_neg h, if_neg (fun e => h e.symm)]
def okD (l : List AV) : Option Nat -> Bool
  | none => true
  | some d => decide (d < l.length)
def zgv (call : Cal) (i : AIns) (l : List AV) (Y : Store) : Option (List AV × Store) :=
  if okD l i.dst = true then
    match z1c (envL l) i.guard with
    | some true => (match i.op with
      | .call f xs => if i.need = .same \/ i.need = .rd then none else (match f.ev (envL l) with
        | .fn fid caps => (call fid (xs.map (AX.ev (envL l)) ++ caps) Y).map fun r => (put? l i.dst r.1, r.2)
        | _ => none)
      | op => if (i.need = .same \/ i.need = .rd) /\ op.calm = false then none else (op.run (envL l) Y).map fun r => (put? l i.dst r.1, r.2))
    | some false => some (put? l i.dst .undef, Y)
    | none => none
  else none
/-- Effects and reads that stand in no order are not mixed here. -/
def okN (p r : Bool) : Nd -> Bool
  | .rd => !p
  | .ef => !r
  | .pu => false
  | .rd2 => false
  | .ef2 => false
  | _ => true
def z8r (call : Cal) : List AIns -> Bool -> Bool -> List AV -> Store -> Option (List AV × Store)
  | [], _, _, l, Y => some (l, Y)
  | i :: is, p, r, l, Y => if okN p r i.need = true then
      (match zgv call i l Y with
      | some q => z8r call is (p || i.need == .ef) (r || i.need == .rd) q.1 q.2
      | none => none)
    else none
def z2u (call : Cal) (ih : ACode -> List AV -> Store -> Option (AExit × List AV × Store)) : ACode -> List AV -> Store -> Option (AExit × List AV × Store)
  | .skip, l, Y => some (.normal, l, Y)
  | .reg ops, l, Y => match z8r call ops false false l Y with
    | some r => some (.normal, r.1, r.2)
    | none => none
  | .seq a b, l, Y => match ih a l Y with
    | some (.normal, l', Y') => ih b l' Y'
    | r => r
  | .cond c a b, l, Y => match c.ev (envL l) with
    | .bool true => ih a l Y
    | .bool false => ih b l Y
    | _ => none
  | .block id a, l, Y => match ih a l Y with
    | some (.exit i, l', Y') => if i = id then some (.normal, l', Y') else some (.exit i, l', Y')
    | r => r
  | .loop a, l, Y => match ih a l Y with
    | some (.normal, l', Y') => ih (.loop a) l' Y'
    | r => r
  | .exit id, l, Y => some (.exit id, l, Y)
  | .ret, l, Y => some (.ret, l, Y)
  | .scope a, l, Y => ih a l Y
  | .stuck, _, _ => none
  | .reg2 _ _, _, _ => none
  | .rangef _ _ _ _, _, _ => none
def runC (call : Cal) (fuel : Nat) : ACode -> List AV -> Store -> Option (AExit × List AV × Store) :=
  Nat.rec (motive := fun _ => ACode -> List AV -> Store -> Option (AExit × List AV × Store)) (fun _ _ _ => none) (fun _ ih => z2u call ih) fuel

mutual
def rlB (k : Nat) : AV -> Bool
  | .ptr r _ _ => Nat.blt r k
  | .sl r _ _ _ _ => Nat.blt r k
  | .asl r _ _ _ _ _ => Nat.blt r k
  | .bld r => Nat.blt r k
  | .bsl r _ => Nat.blt r k
  | .vp cs => rlsB k cs
  | .vsl _ es _ => z8p k es
  | .fn _ caps => rlsB k caps
  | .agg cs => rlsB k cs
  | .tup vs => rlsB k vs
  | _ => true
def rlsB (k : Nat) : List AV -> Bool
  | [] => true
  | a :: as_ => rlB k a && rlsB k as_
def z8p (k : Nat) : List (List AV) -> Bool
  | [] => true
  | e :: es => rlsB k e && z8p k es
end
mutual
theorem zz {k : Nat} : ∀ (a : AV), rlB k a = true -> RL k a
  | .ptr r _ _, h => by simpa [rlB, RL] using h
  | .sl r _ _ _ _, h => by simpa [rlB, RL] using h
  | .asl r _ _ _ _ _, h => by simpa [rlB, RL] using h
  | .bld r, h => by simpa [rlB, RL] using h
  | .bsl r _, h => by simpa [rlB, RL] using h
  | .vp cs, h => by simp only [rlB] at h; simp only [RL]; exact z74 cs h
  | .vsl _ es _, h => by simp only [rlB] at h; simp only [RL]; exact zcc es h
  | .fn _ caps, h => by simp only [rlB] at h; simp only [RL]; exact z74 caps h
  | .agg cs, h => by simp only [rlB] at h; simp only [RL]; exact z74 cs h
  | .tup vs, h => by simp only [rlB] at h; simp only [RL]; exact z74 vs h
  | .bnil, _ => by simp only [RL]
  | .any, _ => by simp only [RL]
  | .undef, _ => by simp only [RL]
  | .bool _, _ => by simp only [RL]
  | .int _ _, _ => by simp only [RL]
  | .str _, _ => by simp only [RL]
  | .nilp, _ => by simp only [RL]
  | .nilsl, _ => by simp only [RL]
  | .nilfn, _ => by simp only [RL]
theorem z74 {k : Nat} : ∀ (l : List AV), rlsB k l = true -> RLs k l
  | [], _ => by simp only [RLs]
  | a :: l, h => by simp only [rlsB, Bool.and_eq_true] at h; simp only [RLs]; exact ⟨zz a h.1, z74 l h.2⟩
theorem zcc {k : Nat} : ∀ (l : List (List AV)), z8p k l = true -> RLss k l
  | [], _ => by simp only [RLss]
  | a :: l, h => by simp only [z8p, Bool.and_eq_true] at h; simp only [RLss]; exact ⟨z74 a h.1, zcc l h.2⟩
end
def wfB (k : Nat) : Store -> Bool
  | [] => true
  | none :: Y => wfB k Y
  | some o :: Y => z8p k o && wfB k Y
theorem wfB_ok {k : Nat} {Y : Store} (h : wfB k Y = true) : Wf k Y := by
  induction Y with
  | nil => intro r o hr; simp at hr
  | cons x Y ih =>
    have ih' : wfB k Y = true -> Wf k (x :: Y) -> True := fun _ _ => trivial
    intro r o hr
    cases x with
    | none =>
      simp only [wfB] at h
      cases r with
      | zero => simp at hr
      | succ r => exact ih h r o (by simpa using hr)
    | some p =>
      simp only [wfB, Bool.and_eq_true] at h
      cases r with
      | zero => simp at hr; subst hr; exact zcc _ h.1
      | succ r => exact ih h.2 r o (by simpa using hr)

def zbc (k : Nat) (v : AV) (Y : Store) : AV × Store :=
  if rlB k v = true /\ k <= Y.length /\ wfB k (Y.take k) = true then (v, Y.take k) else (v, Y)
abbrev Tab := FuncId -> Option (Nat × List RV × ACode)
def zb0 (tab : Tab) (fuel : Nat) (call : Cal) (f : FuncId) (args : List AV) (Y : Store) : Option (AV × Store) :=
  match tab f with
  | none => none
  | some (n, ts, ac) => if args.length <= n then
      match runC call fuel ac (args ++ List.replicate (n - args.length) .undef) Y with
      | some (.exit _, _, _) => none
      | some (_, l, Y2) => if oks (envL l) Y2 ts = true then some (zbc Y.length (retV ts (envL l) Y2) Y2) else none
      | none => none
    else none
def runF (tab : Tab) (fuel depth : Nat) : Cal :=
  Nat.rec (motive := fun _ => Cal) (fun _ _ _ => none) (fun _ ih => zb0 tab fuel ih) depth

/-! Soundness. -/
section
variable {C : Ctx}
def z7l (C : Ctx) (call : Cal) : Prop := ∀ f args Y v Y', call f args Y = some (v, Y') -> ACallsTo C f args Y v Y'

theorem put?_length {l : List AV} {d : Option Nat} {v : AV} : (put? l d v).length = l.length := by cases d <;> simp [put?]
theorem zch {call : Cal} (hcal : z7l C call) {K : Env -> Store -> Prop} : ∀ (is : List AIns) (p r : Bool) (l l' : List AV) (Y Y' : Store), z8r call is p r l Y = some (l', Y') ->
    l'.length = l.length /\ ∀ H : Hist, (p = false -> ∀ s, ¬ H.pre s) -> (r = false -> ∀ s, H.rds s) -> K (envL l') Y' -> zi C K is H (envL l) Y
  | [], p, r, l, l', Y, Y', h => by
    simp only [z8r, Option.some.injEq, Prod.mk.injEq] at h
    obtain ⟨rfl, rfl⟩ := h
    exact ⟨rfl, fun _ _ _ h => h⟩
  | i :: is, p, r, l, l', Y, Y', h => by
    simp only [z8r] at h
    split at h
    case isFalse => cases h
    rename_i hN
    split at h
    · rename_i q hr
      obtain ⟨h1, h2⟩ := zch hcal (K := K) is _ _ q.1 l' q.2 Y' h
      obtain ⟨d, g, nd, op⟩ := i
      simp only at hN h2
      -- what has been seen, behind this one
      have hsame : ∀ H : Hist, (p = false -> ∀ s, ¬ H.pre s) -> (r = false -> ∀ s, H.rds s) -> K (envL l') Y' -> zi C K is H (envL q.1) q.2 := fun H hp hr' hK =>
        h2 H (fun e => hp (by cases p <;> simp_all)) (fun e => hr' (by cases r <;> simp_all)) hK
      unfold zgv at hr
      split at hr
      · rename_i hd
        have hd' : ∀ x, d = some x -> x < l.length := fun x hx => by subst hx; simpa [okD] using hd
        simp only at hr
        have nocall : op.isCall = false -> (match z1c (envL l) g with | some true => (if (nd = .same \/ nd = .rd) /\ op.calm = false then none else (op.run (envL l) Y).map fun r => (put? l d r.1, r.2)) | some false => some (put? l d .undef, Y) | none => none) = some q ->
            l'.length = l.length /\ ∀ H : Hist, (p = false -> ∀ s, ¬ H.pre s) -> (r = false -> ∀ s, H.rds s) -> K (envL l') Y' -> zi C K (⟨d, g, nd, op⟩ :: is) H (envL l) Y := by
          intro hc hm
          split at hm
          · rename_i hg
            split at hm
            · cases hm
            · rename_i hn
              simp only [Option.map_eq_some_iff] at hm
              obtain ⟨y, hy, rfl⟩ := hm
              refine ⟨by rw [h1, put?_length], fun H hp hr' hK => ?_⟩
              have hs := hsame H hp hr' hK
              have hcalm : nd = .same \/ nd = .rd -> y.2 = Y := fun hne => AOp.calm_ok (by
                cases hcc : op.calm with
                | true => rfl
                | false => exact absurd ⟨hne, hcc⟩ hn) hy
              rw [zgb hc]
              cases nd
              · simp only [zl, z24, hg, hy, Option.map_some, z3z hd']; exact hs
              · simp only [zl, z24, hg, hy, Option.map_some, z3z hd']; exact ⟨hcalm (.inl rfl), hs⟩
              · have e := hcalm (.inr rfl)
                simp only [okN, Bool.not_eq_true'] at hN
                simp only [zl, rdW, hg, hy, rdC, z3z hd']
                refine ⟨e, fun s hs => absurd hs (hp hN s), ?_⟩
                have := h2 ⟨H.pre, fun s => H.rds s /\ op.run (envL l) s = some (y.1, s), H.rd2⟩ (fun _ => hp hN) (fun e => by simp at e) hK
                rw [e] at this; exact this
              · simp only [okN, Bool.not_eq_true'] at hN
                simp only [zl, efW, hg, hy, efC, z3z hd']
                exact ⟨hr' hN _, h2 ⟨fun s => H.pre s \/ s = Y, H.rds, H.rd2⟩ (fun e => by simp at e) (fun _ => hr' hN) hK⟩
              · simp [okN] at hN
              · simp [okN] at hN
              · simp [okN] at hN
          · rename_i hg
            simp only [Option.some.injEq] at hm; subst hm
            refine ⟨by rw [h1, put?_length], fun H hp hr' hK => ?_⟩
            have hs := hsame H hp hr' hK
            rw [zgb hc]
            cases nd
            · simp only [zl, z24, hg, z3z hd']; exact hs
            · simp only [zl, z24, hg, z3z hd']; exact ⟨rfl, hs⟩
            · simp only [zl, rdW, hg, z3z hd']; exact hs
            · simp only [zl, efW, hg, z3z hd']; exact hs
            · simp [okN] at hN
            · simp [okN] at hN
            · simp [okN] at hN
          · cases hm
        cases op
        case call f xs =>
          simp only at hr
          split at hr
          · rename_i hg
            split at hr
            · cases hr
            · rename_i hn
              split at hr
              · rename_i fid caps hf
                simp only [Option.map_eq_some_iff] at hr
                obtain ⟨y, hy, rfl⟩ := hr
                refine ⟨by rw [h1, put?_length], fun H hp hr' hK => ?_⟩
                rw [z3j]
                simp only [hg, z2b, callW, hf]
                refine .inl ⟨y.1, y.2, hcal _ _ _ _ _ hy, ?_⟩
                rw [z3z hd']
                cases nd
                · exact ⟨trivial, hsame H hp hr' hK⟩
                · exact absurd (.inl rfl) hn
                · exact absurd (.inr rfl) hn
                · simp only [okN, Bool.not_eq_true'] at hN
                  exact ⟨hr' hN _, h2 ⟨fun s => H.pre s \/ s = Y, H.rds, H.rd2⟩ (fun e => by simp at e) (fun _ => hr' hN) hK⟩
                · simp [okN] at hN
                · simp [okN] at hN
                · simp [okN] at hN
              · cases hr
          · rename_i hg
            simp only [Option.some.injEq] at hr; subst hr
            refine ⟨by rw [h1, put?_length], fun H hp hr' hK => ?_⟩
            rw [z3j]
            simp only [hg, z2b, z3z hd']
            exact hsame H hp hr' hK
          · cases hr
        all_goals exact nocall rfl hr
      · cases hr
    · cases h

theorem zgu {call : Cal} (hcal : z7l C call) {n k : Nat} : ∀ (fuel : Nat) (ac : ACode) (l l' : List AV) (Y Y' : Store) (e : AExit), runC call fuel ac l Y = some (e, l', Y') ->
    l'.length = l.length /\ (∀ Q : AExit -> Env -> Store -> Prop, Q e (envL l') Y' -> zW C n k ac Q (envL l) Y) /\ ∀ a, ac = .loop a -> ∃ m, ∀ Q : AExit -> Env -> Store -> Prop, Q e (envL l') Y' -> z7m C n k a Q m (envL l) Y
  | 0, ac, l, l', Y, Y', e, h => by simp [runC] at h
  | fuel + 1, ac, l, l', Y, Y', e, h => by
    have ih := fun ac l l' Y Y' e h => zgu hcal (n := n) (k := k) fuel ac l l' Y Y' e h
    have h : z2u call (runC call fuel) ac l Y = some (e, l', Y') := h
    cases ac with
    | skip =>
      simp only [z2u, Option.some.injEq, Prod.mk.injEq] at h
      obtain ⟨rfl, rfl, rfl⟩ := h
      exact ⟨rfl, fun Q hQ => zW.zk hQ, fun a ha => by cases ha⟩
    | exit id =>
      simp only [z2u, Option.some.injEq, Prod.mk.injEq] at h
      obtain ⟨rfl, rfl, rfl⟩ := h
      exact ⟨rfl, fun Q hQ => zW.ze hQ, fun a ha => by cases ha⟩
    | ret =>
      simp only [z2u, Option.some.injEq, Prod.mk.injEq] at h
      obtain ⟨rfl, rfl, rfl⟩ := h
      exact ⟨rfl, fun Q hQ => zW.zq hQ, fun a ha => by cases ha⟩
    | reg ops =>
      simp only [z2u] at h
      split at h
      · rename_i r hr
        simp only [Option.some.injEq, Prod.mk.injEq] at h
        obtain ⟨rfl, rfl, rfl⟩ := h
        refine ⟨(zch hcal (K := fun _ _ => True) ops _ _ l r.1 Y r.2 hr).1, fun Q hQ => zW.zr ((zch hcal ops _ _ l r.1 Y r.2 hr).2 Hist.none (fun _ s h => h) (fun _ s => trivial) hQ), fun a ha => by cases ha⟩
      · cases h
    | scope x =>
      simp only [z2u] at h
      exact ⟨(ih _ _ _ _ _ _ h).1, fun Q hQ => zW.zc ((ih _ _ _ _ _ _ h).2.1 _ hQ), fun a ha => by cases ha⟩
    | stuck => simp [z2u] at h
    | reg2 => simp [z2u] at h
    | rangef => simp [z2u] at h
    | seq x y =>
      simp only [z2u] at h
      refine ⟨?_, ?_, fun a ha => by cases ha⟩
      · split at h
        · rename_i l1 Y1 h1
          exact (ih _ _ _ _ _ _ h).1.trans (ih _ _ _ _ _ _ h1).1
        · exact (ih _ _ _ _ _ _ h).1
      · intro Q hQ
        split at h
        · rename_i l1 Y1 h1
          exact zW.zs ((ih _ _ _ _ _ _ h1).2.1 _ ((ih _ _ _ _ _ _ h).2.1 _ hQ))
        · rename_i hne
          refine zW.zs ((ih _ _ _ _ _ _ h).2.1 _ ?_)
          cases e with
          | normal => exact absurd h (hne _ _)
          | exit id => exact hQ
          | ret => exact hQ
    | cond c x y =>
      simp only [z2u] at h
      split at h
      · rename_i hc
        exact ⟨(ih _ _ _ _ _ _ h).1, fun Q hQ => zW.cond hc (fun _ => (ih _ _ _ _ _ _ h).2.1 _ hQ) (fun e => by cases e), fun a ha => by cases ha⟩
      · rename_i hc
        exact ⟨(ih _ _ _ _ _ _ h).1, fun Q hQ => zW.cond hc (fun e => by cases e) (fun _ => (ih _ _ _ _ _ _ h).2.1 _ hQ), fun a ha => by cases ha⟩
      · cases h
    | block id x =>
      simp only [z2u] at h
      refine ⟨?_, ?_, fun a ha => by cases ha⟩
      · split at h
        · rename_i i l1 Y1 h1
          split at h <;> (simp only [Option.some.injEq, Prod.mk.injEq] at h; obtain ⟨_, rfl, rfl⟩ := h; exact (ih _ _ _ _ _ _ h1).1)
        · exact (ih _ _ _ _ _ _ h).1
      · intro Q hQ
        split at h
        · rename_i i l1 Y1 h1
          split at h
          · rename_i hi
            simp only [Option.some.injEq, Prod.mk.injEq] at h; obtain ⟨rfl, rfl, rfl⟩ := h
            refine zW.zb ((ih _ _ _ _ _ _ h1).2.1 _ ?_)
            simp only [blkQ, hi, if_true]; exact hQ
          · rename_i hi
            simp only [Option.some.injEq, Prod.mk.injEq] at h; obtain ⟨rfl, rfl, rfl⟩ := h
            refine zW.zb ((ih _ _ _ _ _ _ h1).2.1 _ ?_)
            simp only [blkQ, hi, if_false]; exact hQ
        · rename_i hne
          refine zW.zb ((ih _ _ _ _ _ _ h).2.1 _ ?_)
          cases e with
          | normal => exact hQ
          | exit i => exact absurd h (hne _ _ _)
          | ret => exact hQ
    | loop x =>
      simp only [z2u] at h
      have key : l'.length = l.length /\ ∃ m, ∀ Q : AExit -> Env -> Store -> Prop, Q e (envL l') Y' -> z7m C n k x Q m (envL l) Y := by
        split at h
        · rename_i l1 Y1 h1
          obtain ⟨k1, _, k3⟩ := ih _ _ _ _ _ _ h
          obtain ⟨m, hm⟩ := k3 x rfl
          exact ⟨k1.trans (ih _ _ _ _ _ _ h1).1, m + 1, fun Q hQ => (ih _ _ _ _ _ _ h1).2.1 _ (hm Q hQ)⟩
        · rename_i hne
          refine ⟨(ih _ _ _ _ _ _ h).1, 1, fun Q hQ => (ih _ _ _ _ _ _ h).2.1 _ ?_⟩
          cases e with
          | normal => exact absurd h (hne _ _)
          | exit id => exact hQ
          | ret => exact hQ
      obtain ⟨h1, m, hm⟩ := key
      exact ⟨h1, fun Q hQ => zW.rounds (hm Q hQ), fun a ha => by cases ha; exact ⟨m, hm⟩⟩

theorem zkr (args : List AV) (n : Nat) : envL (args ++ List.replicate n .undef) = z27 args := by
  funext t
  simp only [envL, z27, List.getD_eq_getElem?_getD]
  by_cases h : t < args.length
  · rw [List.getElem?_append_left h]
  · rw [List.getElem?_append_right (by omega), List.getElem?_eq_none (by omega : args.length <= t)]
    simp only [List.getElem?_replicate]
    split <;> rfl

theorem zk5 {tab : Tab} (htab : ∀ f e, tab f = some e -> cFn C f = some e) {fuel : Nat} {call : Cal} (hcal : z7l C call) : z7l C (zb0 tab fuel call) := by
  intro f args Y v Y' h
  unfold zb0 at h
  split at h
  · cases h
  · rename_i n ts ac hf
    split at h
    · rename_i hn
      have hc := htab _ _ hf
      have fin : ∀ (e : AExit) (l : List AV) (Y2 : Store), (∀ id, e ≠ .exit id) -> runC call fuel ac (args ++ List.replicate (n - args.length) .undef) Y = some (e, l, Y2) -> oks (envL l) Y2 ts = true -> zbc Y.length (retV ts (envL l) Y2) Y2 = (v, Y') -> ACallsTo C f args Y v Y' := by
        intro e l Y2 he hr hok hfin
        have h2 := fun k => (zgu hcal (n := n) (k := k) fuel ac _ _ _ _ _ hr).2.1
        rw [zkr] at h2
        unfold zbc at hfin
        split at hfin
        · rename_i hk
          simp only [Prod.mk.injEq] at hfin
          obtain ⟨rfl, rfl⟩ := hfin
          refine ACallsTo.of_body hc hn fun _ _ => h2 _ _ ?_
          have hl : (Y2.take Y.length).length = Y.length := by rw [List.length_take]; omega
          have hd : DownV Y.length (retV ts (envL l) Y2) Y2 (retV ts (envL l) Y2) (Y2.take Y.length) := by
            have := DownV.pure (τ := Y2.take Y.length) (news := Y2.drop Y.length) (v := retV ts (envL l) Y2) (by rw [hl]; exact wfB_ok hk.2.2) (by rw [hl]; exact zz _ hk.1)
            rwa [hl, List.take_append_drop] at this
          cases e with
          | normal => exact ⟨hok, hd⟩
          | exit id => exact absurd rfl (he id)
          | ret => exact ⟨hok, hd⟩
        · simp only [Prod.mk.injEq] at hfin
          obtain ⟨rfl, rfl⟩ := hfin
          refine ACallsTo.of_body_keep hc hn (h2 _ _ ?_)
          cases e with
          | normal => exact ⟨hok, rfl, rfl⟩
          | exit id => exact absurd rfl (he id)
          | ret => exact ⟨hok, rfl, rfl⟩
      split at h
      · cases h
      · rename_i e l Y2 hne hr
        split at h
        · rename_i hok
          simp only [Option.some.injEq] at h
          exact fin e l Y2 (fun id he => by subst he; exact absurd rfl (hne id)) hr hok h
        · cases h
      · cases h
    · cases h
theorem zp4 {tab : Tab} (htab : ∀ f e, tab f = some e -> cFn C f = some e) (fuel : Nat) : ∀ depth, z7l C (runF tab fuel depth)
  | 0 => by intro f args Y v Y' h; simp [runF] at h
  | d + 1 => zk5 htab (zp4 htab fuel d)
end
end Am
end Go.Proofs.YtjgljhbmljgaeaaDoor
end
section
/- THE ABSTRACT MACHINE, part 21: from a law's contract to its row. -/
namespace Go.Proofs.YtjgljhbmljgaeaaDoor
namespace Am
open Go.ChangeShapes Go.WideShapes Go.ChangeAt Go.RowKit

theorem Rel.empty {C : Ctx} (hg : ∀ g, C.gl g = none) (w : World) : Rel C [] [] w :=
  ⟨rfl, by simp, by simp, by simp, fun g cs h => by rw [hg] at h; cases h⟩

theorem ACallsTo.calls {C : Ctx} {f : FuncId} {e : Nat × List RV × ACode} (hc : cFn C f = some e) {args : List AV} {Y' : Store} {b : Bool} (h : ACallsTo C f args [] (.bool b) Y') {W : World} (hR : Rel C [] [] W) {cargs : List Value} (ha : VRt [] W args cargs) :
    Calls C.P f cargs.toArray W fun e w' => e = .returned (.bool b) /\ Below W.heap.size W w' := by
  rcases h [] W cargs hR ha with ⟨_, h⟩ | ⟨cv, J', w', h, _⟩
  · refine h.mono ?_
    rintro e w' ⟨cv, J', rfl, hs, _, hv⟩
    simp only [VR] at hv
    subst hv
    exact ⟨rfl, hs.os, hs.tape, hs.output, hs.size, fun k hk => hs.imm k hk (by simp)⟩
  · exfalso
    simp only [cFn, Option.bind_eq_some_iff] at hc
    obtain ⟨fn, hf, hc⟩ := hc
    split at hc
    · cases hc
    · rename_i hname
      simp only [Option.bind_eq_some_iff] at hc
      obtain ⟨c, hb, _⟩ := hc
      have h1 : fn.name ≠ "runtime.NumGoroutine" := by simpa using hname
      simp [callFunc, hf, h1, hb] at h

section
variable {H : Type} {enc : TypeId × Value -> H} {P : Program}
theorem zhr (hl : laidOutB P = true) {W W' : World} (hb : Below W.heap.size W W') : ∀ {ts : List TypeId} {vs : List Value} {ds : List (DataW H)} {ps : List MemPlace}, (ts.all fun t => P.readableRec t && decide (t < P.types.size)) = true ->
    DataW.TrodAll enc P W 0 (fun _ => true) true ts vs ds ps -> (∀ x ∈ ps, x.block < W.heap.size) -> DataW.TrodAll enc P W' 0 (fun b => decide (b < W.heap.size)) true ts vs ds ps
  | [], [], [], _, _, h, _ => h
  | t :: ts, v :: vs, d :: ds, ps, ht, h, hlt => by
    obtain ⟨p, q, h1, h2, rfl⟩ := h
    simp only [List.all_cons, Bool.and_eq_true, decide_eq_true_eq] at ht
    exact ⟨p, q, Below.trod hl ht.1.1 ht.1.2 h1 hb (fun x hx => hlt x (by simp [hx])), zhr hl hb ht.2 h2 (fun x hx => hlt x (by simp [hx])), rfl⟩
  | [], [], _ :: _, _, _, h, _ => h.elim
  | [], _ :: _, _, _, _, h, _ => h.elim
  | _ :: _, [], _, _, _, h, _ => h.elim
  | _ :: _, _ :: _, [], _, _, h, _ => h.elim

theorem zfn {f : Func} {s : ChangeSpec} {W W' : World} {args : Array Value} {ds gs : List (DataW H)} {before : List MemPlace} {tb : TypeId}
    (hW : DataW.Whole enc P f.params.toList s.vars false W args.toList ds gs before) (hvars : s.vars = []) (hfn : ∀ gs, gs = [] -> (s.fn H (ds ++ gs)).results = [.lit (.bool true)] /\ (s.fn H (ds ++ gs)).args = ds /\ (s.fn H (ds ++ gs)).vars = [])
    (hres : f.resultTypes = #[tb]) (htb : P.underlying tb = some .bool) (hl : laidOutB P = true) (hpar : (f.params.toList.all fun t => P.readableRec t && decide (t < P.types.size)) = true) (hb : Below W.heap.size W W') :
    s.post enc P f false true false false W args (.bool true) W' := by
  have hlt : ∀ p ∈ before, p.block < W.heap.size := fun p hp => hW.lt p hp
  have hW0 := hW
  obtain ⟨p, q, hA, hV, rfl, hfz, hnd⟩ := hW
  have hgs : gs = [] /\ q = [] := by
    rw [hvars] at hV
    cases gs with
    | nil => exact ⟨rfl, hV⟩
    | cons a l => exact hV.elim
  obtain ⟨rfl, rfl⟩ := hgs
  obtain ⟨k1, k2, k3⟩ := hfn [] rfl
  refine ⟨ds, [], _, [], p, [], hW0, ?_, ?_, ?_, hb.frame _, fun h => by cases h⟩
  · rw [k1, hres]
    exact trodAll_cons_mk (shut_bool htb _) trodAll_mk0
  · rw [k2]
    exact zhr hl hb hpar hA (fun x hx => hlt x (by simp [hx]))
  · rw [k3, hvars]; rfl
end
end Am
end Go.Proofs.YtjgljhbmljgaeaaDoor
end
