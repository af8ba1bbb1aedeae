/- THE ABSTRACT MACHINE, part 2: the abstract store, how it stands to a world, and the steps of a world: a new block, a write into an object, an append in place. -/
import Derived.Test.YtkffgmpbhahioaaAmCore
namespace Go.Proofs.Ytkffgmpbhahioaa
namespace Am

/-- The program, and what its package-level tables hold (as nobody writes them). -/
structure Ctx where
  P : Program
  gl : Nat → Option (List AV)

abbrev AObj := List (List AV)
abbrev Store := List (Option AObj)
abbrev Env := Nat → AV

structure ObjOK (γ : Places) (w : World) (pl : Place) (o : AObj) : Prop where
  len : o.length = pl.n
  esz : ∀ e ∈ o, e.length = pl.esz
  ex : ∃ c ty fz pre mid post, w.heap[pl.b]? = some (Obj.cells c ty fz) ∧ c.toList = pre ++ mid ++ post ∧ pre.length = pl.base ∧ c.size = pl.tot ∧ VRs γ w o.flatten mid ∧
    ∀ k, k < c.size → (decide (fz.1 ≤ k) && decide (k < fz.2)) = false

structure Rel (C : Ctx) (γ : Places) (σ : Store) (w : World) : Prop where
  len : γ.length = σ.length
  alive : ∀ (r : Nat) (o : AObj), σ[r]? = some (some o) → ∃ pl : Place, γ[r]? = some (true, pl) ∧ ObjOK γ w pl o
  dead : ∀ (r : Nat), σ[r]? = some none → ∃ pl : Place, γ[r]? = some (false, pl)
  inj : ∀ (r r' : Nat) (pl pl' : Place), γ[r]? = some (true, pl) → γ[r']? = some (true, pl') → pl.b = pl'.b → r = r'
  gl : ∀ (g : Nat) (cs : List AV), C.gl g = some cs → VR γ w (.vp cs) (.pointer (some ⟨g, 0, none⟩))

theorem flatten_length {es : AObj} {k : Nat} (h : ∀ e ∈ es, e.length = k) : es.flatten.length = es.length * k := by
  induction es with
  | nil => simp
  | cons e es ih =>
    have h1 := h e (by simp)
    have h2 := ih fun x hx => h x (by simp [hx])
    simp only [List.flatten_cons, List.length_append, h1, h2, List.length_cons, Nat.succ_mul]
    omega

theorem ObjOK.lt {γ : Places} {w : World} {pl : Place} {o : AObj} (h : ObjOK γ w pl o) : pl.b < w.heap.size := by
  obtain ⟨c, ty, fz, pre, mid, post, h1, _⟩ := h.ex
  rcases Nat.lt_or_ge pl.b w.heap.size with h2 | h2
  · exact h2
  · simp [Array.getElem?_eq_none h2] at h1

theorem ObjOK.inside {γ : Places} {w : World} {pl : Place} {o : AObj} (h : ObjOK γ w pl o) : pl.base + pl.n * pl.esz ≤ pl.tot := by
  obtain ⟨c, ty, fz, pre, mid, post, h1, h2, h3, h4, h5, _⟩ := h.ex
  have h6 := h5.length
  rw [flatten_length h.esz, h.len] at h6
  have h7 : c.toList.length = pre.length + mid.length + post.length := by rw [h2]; simp [Nat.add_assoc]
  rw [Array.length_toList] at h7
  omega

theorem ObjOK.mono {γ γ' : Places} {w w' : World} {pl : Place} {o : AObj} (h : ObjOK γ w pl o) (hs : Step γ w γ' w') (hb : w'.heap[pl.b]? = w.heap[pl.b]?) : ObjOK γ' w' pl o := by
  obtain ⟨c, ty, fz, pre, mid, post, h1, h2, h3, h4, h5, h6⟩ := h.ex
  exact ⟨h.len, h.esz, c, ty, fz, pre, mid, post, hb.trans h1, h2, h3, h4, h5.mono hs, h6⟩

theorem getElem?_append_one {α : Type} (l : List α) (x : α) (r : Nat) : (l ++ [x])[r]? = if r < l.length then l[r]? else if r = l.length then some x else none := by
  by_cases h : r < l.length
  · simp [h, List.getElem?_append_left h]
  · rw [List.getElem?_append_right (Nat.le_of_not_lt h), if_neg h]
    by_cases h2 : r = l.length
    · simp [h2]
    · rw [if_neg h2]
      have : ∃ k, r - l.length = k + 1 := ⟨r - l.length - 1, by omega⟩
      obtain ⟨k, hk⟩ := this
      simp [hk]

section
variable {C : Ctx} {γ : Places} {σ : Store} {w w' : World}

theorem Rel.place_lt (h : Rel C γ σ w) {r : Nat} {pl : Place} (hr : γ[r]? = some (true, pl)) : pl.b < w.heap.size := by
  cases hq : σ[r]? with
  | none =>
    have := List.getElem?_eq_none_iff.1 hq
    rw [← h.len] at this
    rw [List.getElem?_eq_none this] at hr; cases hr
  | some x => cases x with
    | none => obtain ⟨pl', h1⟩ := h.dead r hq; rw [h1] at hr; cases hr
    | some o =>
      obtain ⟨pl', h1, h2⟩ := h.alive r o hq
      rw [h1] at hr; cases hr; exact h2.lt

theorem Rel.drawn (h : Rel C γ σ w) (hw : w'.heap = w.heap) (ho : w'.os = w.os) (ht : w'.tape = w.tape) (hp : w'.output = w.output) : Step γ w γ w' ∧ Rel C γ σ w' := by
  have hs : Step γ w γ w' := ⟨fun _ fl _ h => ⟨fl, h⟩, by rw [hw]; exact Nat.le_refl _, fun _ _ _ => by rw [hw], fun r pl h => .inl ⟨r, pl, h, rfl⟩, ho, ht, hp⟩
  refine ⟨hs, h.len, fun r o hr => ?_, h.dead, h.inj, fun g cs hg => (h.gl g cs hg).mono hs⟩
  obtain ⟨pl, h1, h2⟩ := h.alive r o hr
  exact ⟨pl, h1, h2.mono hs (by rw [hw])⟩

/-- A new block that nobody will write: the store stays. -/
theorem Rel.fresh (h : Rel C γ σ w) {ob : Obj} (hw : w'.heap = w.heap.push ob) (ho : w'.os = w.os) (ht : w'.tape = w.tape) (hp : w'.output = w.output) :
    Step γ w γ w' ∧ Rel C γ σ w' ∧ Imm γ w' w.heap.size := by
  have hlt : ∀ (r : Nat) (pl : Place), γ[r]? = some (true, pl) → pl.b < w.heap.size := fun r pl hr => h.place_lt hr
  have hold : ∀ b, b < w.heap.size → w'.heap[b]? = w.heap[b]? := fun b hb => by
    rw [hw, Array.getElem?_push_lt hb, Array.getElem?_eq_getElem hb]
  have hs : Step γ w γ w' := ⟨fun _ fl _ h => ⟨fl, h⟩, by rw [hw]; simp, fun b hb _ => hold b hb, fun r pl h => .inl ⟨r, pl, h, rfl⟩, ho, ht, hp⟩
  refine ⟨hs, ⟨h.len, fun r o hr => ?_, h.dead, h.inj, fun g cs hg => (h.gl g cs hg).mono hs⟩, by rw [hw]; simp, fun r pl hr => ?_⟩
  · obtain ⟨pl, h1, h2⟩ := h.alive r o hr
    exact ⟨pl, h1, h2.mono hs (hold _ h2.lt)⟩
  · have := hlt r pl hr; omega

/-- A new block that is an object of the store. -/
theorem Rel.alloc (h : Rel C γ σ w) {c : Array Value} {ty : TypeId} {fz : Nat × Nat} {o : AObj} {esz : Nat} {vals rest : List Value}
    (hw : w'.heap = w.heap.push (.cells c ty fz)) (ho : w'.os = w.os) (ht : w'.tape = w.tape) (hp : w'.output = w.output)
    (hc : c.toList = vals ++ rest) (hv : VRs γ w o.flatten vals) (he : ∀ e ∈ o, e.length = esz) (hfz : ∀ k, k < c.size → (decide (fz.1 ≤ k) && decide (k < fz.2)) = false) :
    Step γ w (γ ++ [(true, ⟨w.heap.size, 0, esz, o.length, c.size⟩)]) w' ∧ Rel C (γ ++ [(true, ⟨w.heap.size, 0, esz, o.length, c.size⟩)]) (σ ++ [some o]) w' := by
  have hold : ∀ b, b < w.heap.size → w'.heap[b]? = w.heap[b]? := fun b hb => by
    rw [hw, Array.getElem?_push_lt hb, Array.getElem?_eq_getElem hb]
  have hnew : w'.heap[w.heap.size]? = some (.cells c ty fz) := by rw [hw]; simp
  have hget : ∀ (r : Nat) (pl : Place), (γ ++ [(true, ⟨w.heap.size, 0, esz, o.length, c.size⟩)])[r]? = some (true, pl) →
      (r < γ.length ∧ γ[r]? = some (true, pl)) ∨ (r = γ.length ∧ pl = ⟨w.heap.size, 0, esz, o.length, c.size⟩) := fun r pl hr => by
    rw [getElem?_append_one] at hr
    split at hr
    · exact .inl ⟨by assumption, hr⟩
    · split at hr
      · simp only [Option.some.injEq, Prod.mk.injEq, true_and] at hr; exact .inr ⟨by assumption, hr.symm⟩
      · cases hr
  have hs : Step γ w (γ ++ [(true, ⟨w.heap.size, 0, esz, o.length, c.size⟩)]) w' := by
    refine ⟨fun r fl pl hr => ⟨fl, ?_⟩, by rw [hw]; simp, fun b hb _ => hold b hb, fun r pl hr => ?_, ho, ht, hp⟩
    · rw [getElem?_append_one, if_pos]
      · exact hr
      · exact (List.getElem?_eq_some_iff.1 hr).1
    · rcases hget r pl hr with ⟨_, h1⟩ | ⟨_, rfl⟩
      · exact .inl ⟨r, pl, h1, rfl⟩
      · exact .inr (Nat.le_refl _)
  refine ⟨hs, by simp [h.len], fun r ob hr => ?_, fun r hr => ?_, fun r r' pl pl' h1 h2 h3 => ?_, fun g cs hg => (h.gl g cs hg).mono hs⟩
  · rw [getElem?_append_one] at hr
    split at hr
    · rename_i hlt
      obtain ⟨pl, h1, h2⟩ := h.alive r ob hr
      exact ⟨pl, by rw [getElem?_append_one, if_pos (by rw [h.len]; exact hlt)]; exact h1, h2.mono hs (hold _ h2.lt)⟩
    · split at hr
      · rename_i heq
        simp only [Option.some.injEq] at hr; subst hr
        refine ⟨⟨w.heap.size, 0, esz, o.length, c.size⟩, by rw [getElem?_append_one, heq, ← h.len]; simp, rfl, he, c, ty, fz, [], vals, rest, hnew, by simpa using hc, rfl, rfl, hv.mono hs, hfz⟩
      · cases hr
  · rw [getElem?_append_one] at hr
    split at hr
    · rename_i hlt
      obtain ⟨pl, h1⟩ := h.dead r hr
      exact ⟨pl, by rw [getElem?_append_one, if_pos (by rw [h.len]; exact hlt)]; exact h1⟩
    · split at hr <;> simp at hr
  · rcases hget r pl h1 with ⟨_, h1⟩ | ⟨h1, rfl⟩ <;> rcases hget r' pl' h2 with ⟨_, h2⟩ | ⟨h2, rfl⟩
    · exact h.inj r r' pl pl' h1 h2 h3
    · have := h.place_lt h1; simp only at h3; omega
    · have := h.place_lt h2; simp only at h3; omega
    · omega

/-- A write into a live object: only its block turns. -/
theorem Rel.write (h : Rel C γ σ w) {r : Nat} {pl : Place} {o : AObj} {c : Array Value} {ty : TypeId} {fz : Nat × Nat} {pre mid post : List Value} (hr : σ[r]? ≠ none)
    (hpl : γ[r]? = some (true, pl)) (hsz : w'.heap.size = w.heap.size) (hother : ∀ b, b ≠ pl.b → w'.heap[b]? = w.heap[b]?) (hb : w'.heap[pl.b]? = some (.cells c ty fz))
    (ho : w'.os = w.os) (ht : w'.tape = w.tape) (hp : w'.output = w.output)
    (hc : c.toList = pre ++ mid ++ post) (hpre : pre.length = pl.base) (htot : c.size = pl.tot) (hv : VRs γ w o.flatten mid) (hn : o.length = pl.n) (he : ∀ e ∈ o, e.length = pl.esz)
    (hfz : ∀ k, k < c.size → (decide (fz.1 ≤ k) && decide (k < fz.2)) = false) :
    Step γ w γ w' ∧ Rel C γ (σ.set r (some o)) w' := by
  have hs : Step γ w γ w' := ⟨fun _ fl _ h => ⟨fl, h⟩, by omega, fun b _ hn => hother b fun e => hn r pl hpl e.symm, fun r pl h => .inl ⟨r, pl, h, rfl⟩, ho, ht, hp⟩
  have hlt : r < σ.length := by
    rcases Nat.lt_or_ge r σ.length with h1 | h1
    · exact h1
    · exact absurd (List.getElem?_eq_none h1) hr
  refine ⟨hs, by simp [h.len], fun r' ob hr' => ?_, fun r' hr' => ?_, h.inj, fun g cs hg => (h.gl g cs hg).mono hs⟩
  · by_cases e : r = r'
    · subst e
      simp only [List.getElem?_set_self hlt, Option.some.injEq] at hr'
      subst hr'
      exact ⟨pl, hpl, hn, he, c, ty, fz, pre, mid, post, hb, hc, hpre, htot, hv.mono hs, hfz⟩
    · rw [List.getElem?_set_ne e] at hr'
      obtain ⟨pl', h1, h2⟩ := h.alive r' ob hr'
      exact ⟨pl', h1, h2.mono hs (hother _ fun e' => e (h.inj r r' pl pl' hpl h1 e'.symm))⟩
  · by_cases e : r = r'
    · subst e; simp [List.getElem?_set_self hlt] at hr'
    · rw [List.getElem?_set_ne e] at hr'
      exact h.dead r' hr'

/-- An append in place: the elder object is none any more; a new one lies in its block. -/
theorem Rel.replace (h : Rel C γ σ w) {r : Nat} {pl pl' : Place} {o : AObj} {c : Array Value} {ty : TypeId} {fz : Nat × Nat} {pre mid post : List Value} (hr : r < σ.length)
    (hpl : γ[r]? = some (true, pl)) (hbb : pl'.b = pl.b) (hsz : w'.heap.size = w.heap.size) (hother : ∀ b, b ≠ pl.b → w'.heap[b]? = w.heap[b]?) (hb : w'.heap[pl.b]? = some (.cells c ty fz))
    (ho : w'.os = w.os) (ht : w'.tape = w.tape) (hp : w'.output = w.output)
    (hc : c.toList = pre ++ mid ++ post) (hpre : pre.length = pl'.base) (htot : c.size = pl'.tot) (hv : VRs γ w o.flatten mid) (hn : o.length = pl'.n) (he : ∀ e ∈ o, e.length = pl'.esz)
    (hfz : ∀ k, k < c.size → (decide (fz.1 ≤ k) && decide (k < fz.2)) = false) :
    Step γ w (γ.set r (false, pl) ++ [(true, pl')]) w' ∧ Rel C (γ.set r (false, pl) ++ [(true, pl')]) (σ.set r none ++ [some o]) w' := by
  have hrγ : r < γ.length := by rw [h.len]; exact hr
  have hget : ∀ (q : Nat) (x : Place), (γ.set r (false, pl) ++ [(true, pl')])[q]? = some (true, x) → (q < γ.length ∧ q ≠ r ∧ γ[q]? = some (true, x)) ∨ (q = γ.length ∧ x = pl') := fun q x hq => by
    rw [getElem?_append_one] at hq
    simp only [List.length_set] at hq
    split at hq
    · rename_i hlt
      by_cases e : r = q
      · subst e; simp [List.getElem?_set_self hlt] at hq
      · rw [List.getElem?_set_ne e] at hq; exact .inl ⟨hlt, fun e' => e e'.symm, hq⟩
    · split at hq
      · simp only [Option.some.injEq, Prod.mk.injEq, true_and] at hq; exact .inr ⟨by assumption, hq.symm⟩
      · cases hq
  have hs : Step γ w (γ.set r (false, pl) ++ [(true, pl')]) w' := by
    refine ⟨fun q fl x hq => ?_, by omega, fun b _ hn => hother b fun e => hn r pl hpl e.symm, fun q x hx => ?_, ho, ht, hp⟩
    · have hql := (List.getElem?_eq_some_iff.1 hq).1
      rw [getElem?_append_one, if_pos (by simpa using hql)]
      by_cases e : r = q
      · subst e
        rw [hpl] at hq
        simp only [Option.some.injEq, Prod.mk.injEq] at hq
        exact ⟨false, by rw [List.getElem?_set_self hql, hq.2]⟩
      · exact ⟨fl, by rw [List.getElem?_set_ne e]; exact hq⟩
    · rcases hget q x hx with ⟨_, _, h1⟩ | ⟨_, rfl⟩
      · exact .inl ⟨q, x, h1, rfl⟩
      · exact .inl ⟨r, pl, hpl, hbb.symm⟩
  refine ⟨hs, by simp [h.len], fun q ob hq => ?_, fun q hq => ?_, fun q q' x x' h1 h2 h3 => ?_, fun g cs hg => (h.gl g cs hg).mono hs⟩
  · rw [getElem?_append_one] at hq
    simp only [List.length_set] at hq
    split at hq
    · rename_i hlt
      by_cases e : r = q
      · subst e; simp [List.getElem?_set_self hlt] at hq
      · rw [List.getElem?_set_ne e] at hq
        obtain ⟨x, h1, h2⟩ := h.alive q ob hq
        refine ⟨x, ?_, h2.mono hs (hother _ fun e' => e (h.inj r q pl x hpl h1 e'.symm))⟩
        rw [getElem?_append_one]
        simp only [List.length_set]
        rw [if_pos (by rw [h.len]; exact hlt), List.getElem?_set_ne e]
        exact h1
    · split at hq
      · rename_i heq
        simp only [Option.some.injEq] at hq; subst hq
        refine ⟨pl', ?_, hn, he, c, ty, fz, pre, mid, post, by rw [hbb]; exact hb, hc, hpre, htot, hv.mono hs, hfz⟩
        rw [getElem?_append_one]
        simp only [List.length_set]
        rw [heq, ← h.len]; simp
      · cases hq
  · rw [getElem?_append_one] at hq ⊢
    simp only [List.length_set] at hq ⊢
    split at hq
    · rename_i hlt
      rw [if_pos (by rw [h.len]; exact hlt)]
      by_cases e : r = q
      · subst e; exact ⟨pl, by rw [List.getElem?_set_self hrγ]⟩
      · rw [List.getElem?_set_ne e] at hq ⊢; exact h.dead q hq
    · split at hq <;> simp at hq
  · rcases hget q x h1 with ⟨_, e1, k1⟩ | ⟨k1, l1⟩ <;> rcases hget q' x' h2 with ⟨_, e2, k2⟩ | ⟨k2, l2⟩
    · exact h.inj q q' x x' k1 k2 h3
    · exact absurd (h.inj q r x pl k1 hpl (h3.trans (by rw [l2]; exact hbb))) e1
    · exact absurd (h.inj q' r x' pl k2 hpl (h3.symm.trans (by rw [l1]; exact hbb))) e2
    · omega
end

/-! The environment: a function's slots. -/
def ofC : Value → AV
  | .bool b => .bool b
  | .int k n => .int k n
  | .string s => .str s.data.toList
  | .pointer none => .nilp
  | .slice none 0 0 => .nilsl
  | .nilFunc => .nilfn
  | _ => .any
def ofV : Value → AV
  | .bool b => .bool b
  | .int k n => .int k n
  | .string s => .str s.data.toList
  | .pointer none => .nilp
  | .slice none 0 0 => .nilsl
  | .nilFunc => .nilfn
  | .agg cs => if cs.toList.all Value.oneCell' then .agg (cs.toList.map ofC) else .any
  | _ => .any
theorem ofC_ok (γ : Places) (w : World) (v : Value) : VR γ w (ofC v) v := by
  unfold ofC
  split <;> simp [VR]
theorem ofCs_ok (γ : Places) (w : World) (vs : List Value) (h : ∀ v ∈ vs, v.oneCell' = true) : VRs γ w (vs.map ofC) vs := by
  induction vs with
  | nil => exact VRs.nil
  | cons v vs ih => exact VRs.cons ⟨ofC_ok γ w v, h v (by simp)⟩ (ih fun x hx => h x (by simp [hx]))
theorem ofV_ok (γ : Places) (w : World) (v : Value) : VR γ w (ofV v) v := by
  unfold ofV
  split <;> try (simp [VR]; done)
  split
  · rename_i h
    simp only [VR]
    exact ⟨_, by simp, ofCs_ok γ w _ (List.all_eq_true.1 h)⟩
  · simp [VR]

def ev (C : Ctx) (ρ : Env) : Operand → AV
  | .tmp t => ρ t
  | .const v => ofV v
  | .global g => match C.gl g with | some cs => .vp cs | none => .any
  | .func f => .fn f []

def EnvR (γ : Places) (w : World) (ρ : Env) (tmps : Array Value) : Prop := ∀ t, VR γ w (ρ t) (tmps.getD t undef)

theorem EnvR.mono {γ γ' : Places} {w w' : World} {ρ : Env} {tmps : Array Value} (h : EnvR γ w ρ tmps) (hs : Step γ w γ' w') : EnvR γ' w' ρ tmps := fun t => (h t).mono hs

theorem ev_ok {C : Ctx} {γ : Places} {σ : Store} {w : World} {ρ : Env} {a : Act} (hR : Rel C γ σ w) (hE : EnvR γ w ρ a.tmps) (x : Operand) : VR γ w (ev C ρ x) (a.eval x) := by
  cases x with
  | tmp t => exact hE t
  | const v => exact ofV_ok γ w v
  | global g =>
    simp only [ev, Act.eval]
    split
    · rename_i cs hg; exact hR.gl g cs hg
    · simp [VR]
  | func f => simp [ev, Act.eval, VR, VRt]

/-- Slot d holds v. -/
def upd (ρ : Env) (d : Nat) (v : AV) : Env := fun t => if t = d then v else ρ t
def putE (ρ : Env) (d : Option Nat) (v : AV) : Env := match d with | some d => upd ρ d v | none => ρ

theorem EnvR.put {γ : Places} {w : World} {ρ : Env} {a : Act} (h : EnvR γ w ρ a.tmps) {d : Option Nat} {v : AV} {cv : Value} (hd : ∀ x, d = some x → x < a.tmps.size) (hv : VR γ w v cv) :
    EnvR γ w (putE ρ d v) (a.put d cv).tmps := by
  cases d with
  | none => exact h
  | some d =>
    have hd' := hd d rfl
    intro t
    have ht := h t
    simp only [Act.put, putE, upd, Array.getD_eq_getD_getElem?, Array.getElem?_setIfInBounds] at ht ⊢
    by_cases e : t = d
    · subst e; simp [hd', hv]
    · have : ¬ d = t := fun e' => e e'.symm
      simp [e, this, ht]

end Am
end Go.Proofs.Ytkffgmpbhahioaa
