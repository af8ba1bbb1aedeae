/- THE ABSTRACT MACHINE, part 23: what comes in, by its type, as abstract values. -/
import Derived.Test.YtkffgmpbhahioaaAmTop
set_option linter.unusedVariables false
namespace Go.Proofs.Ytkffgmpbhahioaa
namespace Am
open Go.ChangeShapes Go.WideShapes Go.ChangeAt Go.RowKit

/-- Types of plain data. -/
inductive Ty where
  | int (k : IntKind)
  | bool
  | str
  | sl (sz : Nat) (e : Ty)
  | row (ts : List Ty)
  deriving Inhabited
def tile (P : Program) : List Field → Nat → Option Nat
  | [], n => some n
  | f :: l, n => if f.offset = n then tile P l (n + P.cellsOf f.type) else none
def tyOf (P : Program) : Nat → TypeId → Option Ty
  | 0, _ => none
  | d + 1, t => match P.underlying t with
    | some .bool => some .bool
    | some (.int k) => some (.int k)
    | some .string => some .str
    | some (.slice e) => if 0 < P.cellsOf e then (tyOf P d e).map (.sl (P.cellsOf e)) else none
    | some (.struct fs) => if tile P fs.toList 0 = some (P.cellsOf t) then (fs.toList.mapM fun f => tyOf P d f.type).map .row else none
    | some (.array n e) => if P.cellsOf t = n * P.cellsOf e then (tyOf P d e).map fun ty => .row (List.replicate n ty) else none
    | _ => none
mutual
/-- The cells of a value of a type. -/
def ShC : Ty → List AV → Prop
  | .int k, cs => ∃ n, cs = [.int k n] ∧ k.min ≤ n ∧ n ≤ k.max
  | .bool, cs => ∃ b, cs = [.bool b]
  | .str, cs => ∃ s : List UInt8, cs = [.str s] ∧ s.length ≤ maxLen
  | .sl sz e, cs => cs = [.nilsl] ∨ ∃ es, cs = [.vsl sz es false] ∧ es.length ≤ maxLen ∧ (∀ x ∈ es, x.length = sz) ∧ ∀ x ∈ es, ShC e x
  | .row ts, cs => ShRow ts cs
def ShRow : List Ty → List AV → Prop
  | [], cs => cs = []
  | t :: ts, cs => ∃ a b, cs = a ++ b ∧ ShC t a ∧ ShRow ts b
end
/-- An argument of a type. -/
def Sh : Ty → AV → Prop
  | .row ts, a => ∃ cs, a = .agg cs ∧ ShRow ts cs
  | t, a => ShC t [a]
def ShAll : List Ty → List AV → Prop
  | [], avs => avs = []
  | t :: ts, avs => ∃ a avs', avs = a :: avs' ∧ Sh t a ∧ ShAll ts avs'

section
variable {H : Type} {enc : TypeId × Value → H} {P : Program} {w : World}

theorem cells_at {base : Nat} {a : Addr} {n : Nat} {cs : List Value} (h : w.cells? base a n = some cs) : cs.length = n ∧ ∀ i, i < n → w.cell? (a.add i) = cs[i]? :=
  ⟨(World.cells?_some h).2.1, (World.cells?_some h).2.2⟩
theorem cell_some {a : Addr} {v : Value} (h : w.cell? a = some v) : a.spot = none ∧ ∃ c ty fz, w.heap[a.block]? = some (.cells c ty fz) ∧ c[a.off]? = some v := by
  unfold World.cell? at h
  split at h
  · rename_i c ty fz hh
    split at h
    · cases h
    · rename_i hs
      exact ⟨by simpa using hs, c, ty, fz, hh, h⟩
  · cases h
theorem seg_of {b o n : Nat} {vals : List Value} (hn : 0 < n) (hl : vals.length ≤ n) (hall : ∀ k, k < n → ∃ v, w.cell? ⟨b, o + k, none⟩ = some v) (hv : ∀ k, k < vals.length → w.cell? ⟨b, o + k, none⟩ = vals[k]?) :
    b < w.heap.size ∧ Seg w b o vals := by
  obtain ⟨v0, h0⟩ := hall 0 hn
  obtain ⟨_, c, ty, fz, hc, h0'⟩ := cell_some h0
  simp only [Nat.add_zero] at hc h0'
  have hget : ∀ k, w.cell? ⟨b, k, none⟩ = c[k]? := fun k => by simp [World.cell?, hc]
  have ho : o + vals.length ≤ c.size := by
    by_cases hz : vals.length = 0
    · have := (Array.getElem?_eq_some_iff.1 h0').1; omega
    · have := hv (vals.length - 1) (by omega)
      rw [hget, List.getElem?_eq_getElem (by omega)] at this
      have := (Array.getElem?_eq_some_iff.1 this).1; omega
  refine ⟨?_, c, ty, fz, c.toList.take o, c.toList.drop (o + vals.length), hc, ?_, by simp; omega⟩
  · rcases Nat.lt_or_ge b w.heap.size with h | h
    · exact h
    · simp [Array.getElem?_eq_none h] at hc
  · have e : vals = (c.toList.drop o).take vals.length := by
      apply List.ext_getElem?
      intro k
      simp only [List.getElem?_take, List.getElem?_drop]
      by_cases hk : k < vals.length
      · rw [if_pos hk, ← hv k hk, hget]; simp
      · rw [if_neg hk, List.getElem?_eq_none (by omega)]
    conv => lhs; rw [← List.take_append_drop o c.toList, ← List.take_append_drop vals.length (c.toList.drop o), ← e]
    simp [List.append_assoc]

theorem mapM_get {α β : Type} {f : α → Option β} : ∀ {l : List α} {r : List β}, l.mapM f = some r → r.length = l.length ∧ ∀ (i : Nat) (x : α), l[i]? = some x → f x = r[i]?
  | [], r, h => by simp at h; subst h; simp
  | x :: l, r, h => by
    simp only [List.mapM_cons, Option.bind_eq_bind, Option.bind_eq_some_iff, Option.pure_def, Option.some.injEq] at h
    obtain ⟨y, hy, r', hr, rfl⟩ := h
    obtain ⟨h1, h2⟩ := mapM_get hr
    refine ⟨by simp [h1], fun i z hz => ?_⟩
    cases i with
    | zero => simp at hz; subst hz; simp [hy]
    | succ i => simp at hz; simpa using h2 i z hz

theorem read_row {n : Nat} {spare : Nat → Bool} {held : Bool} {base : Nat} {cs : List Value} {d : Nat}
    (ih : ∀ (t : TypeId) (ty : Ty) (cs : List Value) (x : DataW H × List MemPlace), tyOf P d t = some ty → DataW.trod enc P w base spare held n t cs = some x → cs.length = P.cellsOf t → ∃ avs, VRs [] w avs cs ∧ ShC ty avs) :
    ∀ (l : List Field) (k : Nat) (tys : List Ty), tile P l k = some cs.length → l.mapM (fun f => tyOf P d f.type) = some tys →
      (∀ f ∈ l, ∃ x, DataW.trod enc P w base spare held n f.type ((cs.drop f.offset).take (P.cellsOf f.type)) = some x) → k ≤ cs.length → ∃ avs, VRs [] w avs (cs.drop k) ∧ ShRow tys avs
  | [], k, tys, hk, ht, _, _ => by
    simp only [tile, Option.some.injEq] at hk
    simp at ht
    subst ht
    exact ⟨[], by rw [hk]; simp [VRs], by simp [ShRow]⟩
  | f :: l, k, tys, hk, ht, hx, hle => by
    simp only [tile] at hk
    split at hk
    · rename_i hf
      simp only [List.mapM_cons, Option.bind_eq_bind, Option.bind_eq_some_iff, Option.pure_def, Option.some.injEq] at ht
      obtain ⟨ty, hty, tys', htys, rfl⟩ := ht
      have hle2 : k + P.cellsOf f.type ≤ cs.length := by
        have : ∀ (l : List Field) (a b : Nat), tile P l a = some b → a ≤ b := by
          intro l
          induction l with
          | nil => intro a b h; simp [tile] at h; omega
          | cons f l ih => intro a b h; simp only [tile] at h; split at h; · have := ih _ _ h; omega
                           · cases h
        exact this l _ _ hk
      obtain ⟨x, hx1⟩ := hx f (by simp)
      obtain ⟨avs, h1, h2⟩ := ih f.type ty _ x hty hx1 (by simp; omega)
      obtain ⟨bs, h3, h4⟩ := read_row ih l (k + P.cellsOf f.type) tys' hk htys (fun g hg => hx g (by simp [hg])) hle2
      refine ⟨avs ++ bs, ?_, avs, bs, rfl, h2, h4⟩
      have e : cs.drop k = (cs.drop k).take (P.cellsOf f.type) ++ cs.drop (k + P.cellsOf f.type) := by
        rw [← List.drop_drop, List.take_append_drop]
      rw [e]
      rw [hf] at h1
      exact h1.append h3
    · cases hk
theorem read_arr {n : Nat} {spare : Nat → Bool} {held : Bool} {base : Nat} {d : Nat} {e : TypeId} {ty : Ty} (hty : tyOf P d e = some ty)
    (ih : ∀ (t : TypeId) (ty : Ty) (cs : List Value) (x : DataW H × List MemPlace), tyOf P d t = some ty → DataW.trod enc P w base spare held n t cs = some x → cs.length = P.cellsOf t → ∃ avs, VRs [] w avs cs ∧ ShC ty avs) :
    ∀ (m : Nat) (cs : List Value), cs.length = m * P.cellsOf e → (∀ i, i < m → ∃ x, DataW.trod enc P w base spare held n e ((cs.drop (i * P.cellsOf e)).take (P.cellsOf e)) = some x) →
      ∃ avs, VRs [] w avs cs ∧ ShRow (List.replicate m ty) avs
  | 0, cs, hl, _ => by
    have : cs = [] := List.eq_nil_of_length_eq_zero (by simpa using hl)
    subst this
    exact ⟨[], by simp [VRs], by simp [ShRow]⟩
  | m + 1, cs, hl, hx => by
    rw [Nat.succ_mul] at hl
    obtain ⟨x, h0⟩ := hx 0 (by omega)
    simp only [Nat.zero_mul, List.drop_zero] at h0
    obtain ⟨avs, h1, h2⟩ := ih e ty _ x hty h0 (by simp; omega)
    obtain ⟨bs, h3, h4⟩ := read_arr hty ih m (cs.drop (P.cellsOf e)) (by simp; omega) (fun i hi => by
      obtain ⟨y, hy⟩ := hx (i + 1) (by omega)
      refine ⟨y, ?_⟩
      rw [List.drop_drop, Nat.add_comm, ← Nat.succ_mul]; exact hy)
    refine ⟨avs ++ bs, ?_, avs, bs, rfl, h2, h4⟩
    rw [← List.take_append_drop (P.cellsOf e) cs]
    exact h1.append h3

theorem read_ok {base : Nat} {held : Bool} : ∀ (fuel d : Nat) (t : TypeId) (ty : Ty) (cs : List Value) (x : DataW H × List MemPlace), tyOf P d t = some ty →
    DataW.trod enc P w base (fun _ => true) held fuel t cs = some x → ∃ avs, VRs [] w avs cs ∧ ShC ty avs
  | 0, _, _, _, _, _, _, h => by simp [DataW.trod] at h
  | _ + 1, 0, _, _, _, _, ht, _ => by simp [tyOf] at ht
  | fuel + 1, d + 1, t, ty, cs, x, ht, h => by
    have ih := fun (t : TypeId) (ty : Ty) (cs : List Value) (x : DataW H × List MemPlace) (h1 : tyOf P d t = some ty) (h2 : DataW.trod enc P w base (fun _ => true) held fuel t cs = some x) (_ : cs.length = P.cellsOf t) => read_ok fuel d t ty cs x h1 h2
    unfold tyOf at ht
    split at ht
    · rename_i hu
      simp only [Option.some.injEq] at ht; subst ht
      obtain ⟨b, rfl, _⟩ := DataW.trod_bool hu h
      exact ⟨[.bool b], .one ⟨VR.bool, rfl⟩, by simp [ShC]⟩
    · rename_i k hu
      simp only [Option.some.injEq] at ht; subst ht
      obtain ⟨n, rfl, _, hw⟩ := DataW.trod_int hu h
      simp only [Lit.wf, Bool.and_eq_true, decide_eq_true_eq] at hw
      exact ⟨[.int k n], .one ⟨VR.int, rfl⟩, by simp only [ShC]; exact ⟨n, rfl, hw.1, hw.2⟩⟩
    · rename_i hu
      simp only [Option.some.injEq] at ht; subst ht
      obtain ⟨s, rfl, _, hs⟩ := DataW.trod_string hu h
      refine ⟨[.str s.data.toList], .one ⟨by simp [VR], rfl⟩, by simp only [ShC]; exact ⟨_, rfl, by simpa using hs⟩⟩
    · rename_i e hu
      split at ht
      · rename_i hpos
        simp only [Option.map_eq_some_iff] at ht
        obtain ⟨te, hte, rfl⟩ := ht
        rcases DataW.trod_slice hu h with ⟨rfl, _⟩ | ⟨a, len, cap, elems, rest, n, hn, rfl, _, hb, hl, hm, hlen, hel, hsp, _⟩
        · exact ⟨[.nilsl], .one ⟨by simp [VR], rfl⟩, by simp [ShC]⟩
        · obtain ⟨hrl, hr⟩ := hsp rfl
          have hn' : n = fuel := by omega
          subst hn'
          -- each element's cells
          have each : ∀ i, i < cap → ∃ cs y, w.cells? base (a.add (i * P.cellsOf e)) (P.cellsOf e) = some cs ∧ DataW.trod enc P w base (fun _ => true) held n e cs = some y := by
            intro i hi
            have : ∃ y, (w.cells? base (a.add (i * P.cellsOf e)) (P.cellsOf e)).bind (DataW.trod enc P w base (fun _ => true) held n e) = some y := by
              by_cases hil : i < len
              · rw [hel i hil]; exact ⟨_, List.getElem?_eq_getElem (by omega)⟩
              · have := hr (i - len) (by omega)
                rw [show len + (i - len) = i by omega] at this
                rw [this]; exact ⟨_, List.getElem?_eq_getElem (by omega)⟩
            obtain ⟨y, hy⟩ := this
            rw [Option.bind_eq_some_iff] at hy
            obtain ⟨cs, h1, h2⟩ := hy
            exact ⟨cs, y, h1, h2⟩
          by_cases hc0 : cap = 0
          · subst hc0
            have : len = 0 := by omega
            subst this
            exact ⟨[.vsl (P.cellsOf e) [] false], .one ⟨by simp only [VR]; exact .inl ⟨by simp, a, rfl⟩, rfl⟩, by simp [ShC]⟩
          · have hspot : a.spot = none := by
              obtain ⟨cs, y, h1, _⟩ := each 0 (by omega)
              obtain ⟨hl1, hc1⟩ := cells_at h1
              have := hc1 0 hpos
              rw [List.getElem?_eq_getElem (by omega)] at this
              have := (cell_some this).1
              simpa [Addr.add] using this
            obtain ⟨b, o, spot⟩ := a
            simp only at hspot
            subst hspot
            have cellAt : ∀ i j, i < cap → j < P.cellsOf e → ∃ v, w.cell? ⟨b, o + (i * P.cellsOf e + j), none⟩ = some v := by
              intro i j hi hj
              obtain ⟨cs, y, h1, _⟩ := each i hi
              obtain ⟨hl1, hc1⟩ := cells_at h1
              have := hc1 j hj
              rw [List.getElem?_eq_getElem (by omega)] at this
              rw [add_plain, add_plain, Nat.add_assoc] at this
              exact ⟨_, this⟩
            -- the first m elements
            have firsts : ∀ m, m ≤ cap → ∃ (es : List (List AV)) (vals : List Value), es.length = m ∧ vals.length = m * P.cellsOf e ∧ (∀ x ∈ es, x.length = P.cellsOf e) ∧ (∀ x ∈ es, ShC te x) ∧ VRss [] w es vals ∧
                ∀ k, k < vals.length → w.cell? ⟨b, o + k, none⟩ = vals[k]? := by
              intro m
              induction m with
              | zero => intro _; exact ⟨[], [], rfl, by simp, by simp, by simp, by simp [VRss], by simp⟩
              | succ m ihm =>
                intro hm'
                obtain ⟨es, vals, k1, k2, k3, k4, k5, k6⟩ := ihm (by omega)
                obtain ⟨cs, y, h1, h2⟩ := each m (by omega)
                obtain ⟨hl1, hc1⟩ := cells_at h1
                obtain ⟨avs, q1, q2⟩ := read_ok n d e te cs y hte h2
                refine ⟨es ++ [avs], vals ++ cs, by simp [k1], by simp [k2, hl1, Nat.succ_mul], ?_, ?_, ?_, ?_⟩
                · intro x hx
                  simp only [List.mem_append, List.mem_singleton] at hx
                  rcases hx with hx | rfl
                  · exact k3 x hx
                  · rw [q1.length, hl1]
                · intro x hx
                  simp only [List.mem_append, List.mem_singleton] at hx
                  rcases hx with hx | rfl
                  · exact k4 x hx
                  · exact q2
                · rw [VRss.flat, List.flatten_append]
                  refine (VRss.flat.1 k5).append ?_
                  simpa using q1
                · intro k hk
                  by_cases hk1 : k < vals.length
                  · rw [List.getElem?_append_left hk1]; exact k6 k hk1
                  · rw [List.getElem?_append_right (by omega)]
                    simp only [List.length_append] at hk
                    have := hc1 (k - vals.length) (by omega)
                    rw [add_plain, add_plain] at this
                    rw [← this, k2]
                    congr 2
                    omega
            obtain ⟨es, vals, k1, k2, k3, k4, k5, k6⟩ := firsts len hl
            have hmul : len * P.cellsOf e ≤ cap * P.cellsOf e := Nat.mul_le_mul_right _ hl
            obtain ⟨hbl, hseg⟩ := seg_of (w := w) (b := b) (o := o) (n := cap * P.cellsOf e) (vals := vals) (Nat.mul_pos (by omega) hpos) (by omega) (by
              intro k hk
              have h1 : k / P.cellsOf e < cap := Nat.div_lt_of_lt_mul (by rw [Nat.mul_comm]; exact hk)
              obtain ⟨v, hv⟩ := cellAt (k / P.cellsOf e) (k % P.cellsOf e) h1 (Nat.mod_lt _ hpos)
              rw [Nat.mul_comm, Nat.div_add_mod] at hv
              exact ⟨v, hv⟩) k6
            refine ⟨[.vsl (P.cellsOf e) es false], .one ⟨?_, rfl⟩, ?_⟩
            · simp only [VR]
              right
              exact ⟨b, o, cap, vals, by rw [k1], by omega, by simp, ⟨hbl, by simp⟩, hseg, k3, k5⟩
            · simp only [ShC]
              right
              exact ⟨es, rfl, by omega, k3, k4⟩
      · cases ht
    · rename_i fs hu
      split at ht
      · rename_i htile
        simp only [Option.map_eq_some_iff] at ht
        obtain ⟨tys, htys, rfl⟩ := ht
        obtain ⟨xs, n, hn, _, hcl, hxl, hxs⟩ := DataW.trod_struct hu h
        have hn' : n = fuel := by omega
        subst hn'
        obtain ⟨avs, h1, h2⟩ := read_row (cs := cs) ih fs.toList 0 tys (by rw [hcl]; exact htile) htys (fun f hf => by
          obtain ⟨i, hi⟩ := List.getElem?_of_mem hf
          have hi' : fs[i]? = some f := by simpa using hi
          rw [hxs i f hi']
          have : i < xs.length := by rw [hxl]; exact (Array.getElem?_eq_some_iff.1 hi').1
          exact ⟨_, List.getElem?_eq_getElem this⟩) (Nat.zero_le _)
        exact ⟨avs, by simpa using h1, by simpa only [ShC] using h2⟩
      · cases ht
    · rename_i n e hu
      split at ht
      · rename_i hsz
        simp only [Option.map_eq_some_iff] at ht
        obtain ⟨te, hte, rfl⟩ := ht
        obtain ⟨xs, m, hm, _, hcl, hxl, hxs⟩ := DataW.trod_array hu h
        have hm' : m = fuel := by omega
        subst hm'
        obtain ⟨avs, h1, h2⟩ := read_arr hte ih n cs (by rw [hcl, hsz]) (fun i hi => by
          rw [hxs i hi]; exact ⟨_, List.getElem?_eq_getElem (by omega)⟩)
        exact ⟨avs, h1, by simpa only [ShC] using h2⟩
      · cases ht
    · cases ht

theorem open_val {r : Reach} {b0 base : Nat} {held : Bool} {d : Nat} {t : TypeId} {ty : Ty} {v : Value} {x : DataW H} {ps : List MemPlace} (ht : tyOf P d t = some ty) (hval : Value.okWide P w r b0 t v)
    (hd : DataW.Trod enc P w base (fun _ => true) held t v x ps) : ∃ a, VR [] w a v ∧ Sh ty a := by
  obtain ⟨fuel, hf⟩ := hd
  obtain ⟨avs, h1, h2⟩ := read_ok fuel d t ty _ _ ht hf
  have one : v.oneCell' = true → (∀ ts, ty ≠ .row ts) → ∃ a, VR [] w a v ∧ Sh ty a := by
    intro hv hr
    rw [cells_of_one hv] at h1
    cases avs with
    | nil => simp [VRs] at h1
    | cons a avs =>
      simp only [VRs] at h1
      obtain ⟨v', vs', he, h3, h4⟩ := h1
      simp only [List.cons.injEq] at he
      obtain ⟨rfl, rfl⟩ := he
      have : avs = [] := by cases avs <;> simp [VRs] at h4 ⊢
      subst this
      refine ⟨a, h3.1, ?_⟩
      cases ty <;> first | exact h2 | exact absurd rfl (hr _)
  have agg : (∃ cs, v = .agg cs) → (∃ ts, ty = .row ts) → ∃ a, VR [] w a v ∧ Sh ty a := by
    rintro ⟨cs, rfl⟩ ⟨ts, rfl⟩
    simp only [ShC] at h2
    refine ⟨.agg avs, ?_, avs, rfl, h2⟩
    simp only [VR]
    exact ⟨cs.toList, by simp, by simpa [Value.cells] using h1⟩
  cases d with
  | zero => simp [tyOf] at ht
  | succ d =>
    unfold tyOf at ht
    unfold Value.okWide at hval
    split at ht
    · rename_i hu
      simp only [Option.some.injEq] at ht; subst ht
      simp only [hu, Cell.okWide, Cell.ok] at hval
      refine one ?_ (by simp)
      cases v <;> simp_all <;> rfl
    · rename_i k hu
      simp only [Option.some.injEq] at ht; subst ht
      simp only [hu, Cell.okWide, Cell.ok] at hval
      refine one ?_ (by simp)
      cases v <;> simp_all <;> rfl
    · rename_i hu
      simp only [Option.some.injEq] at ht; subst ht
      simp only [hu, Cell.okWide, Cell.ok] at hval
      refine one ?_ (by simp)
      cases v <;> simp_all <;> rfl
    · rename_i e hu
      split at ht
      · simp only [Option.map_eq_some_iff] at ht
        obtain ⟨te, _, rfl⟩ := ht
        simp only [hu, Cell.okWide, Cell.ok] at hval
        refine one ?_ (by simp)
        cases v <;> simp_all <;> rfl
      · cases ht
    · rename_i fs hu
      split at ht
      · simp only [Option.map_eq_some_iff] at ht
        obtain ⟨te, _, rfl⟩ := ht
        simp only [hu] at hval
        obtain ⟨cs, hcs, _⟩ := hval
        exact agg ⟨cs, hcs⟩ ⟨_, rfl⟩
      · cases ht
    · rename_i n e hu
      split at ht
      · simp only [Option.map_eq_some_iff] at ht
        obtain ⟨te, _, rfl⟩ := ht
        simp only [hu] at hval
        obtain ⟨cs, hcs, _⟩ := hval
        exact agg ⟨cs, hcs⟩ ⟨_, rfl⟩
      · cases ht
    · cases ht

def tysOf (P : Program) (d : Nat) : List TypeId → Option (List Ty)
  | [] => some []
  | t :: ts => (tyOf P d t).bind fun ty => (tysOf P d ts).map (ty :: ·)
theorem open_all {r : Reach} {b0 base : Nat} {held : Bool} {d : Nat} : ∀ {ts : List TypeId} {tys : List Ty} {vs : List Value} {xs : List (DataW H)} {ps : List MemPlace}, tysOf P d ts = some tys →
    (∀ (j : Nat) t v, ts[j]? = some t → vs[j]? = some v → Value.okWide P w r b0 t v) → DataW.TrodAll enc P w base (fun _ => true) held ts vs xs ps → ∃ avs, VRt [] w avs vs ∧ ShAll tys avs
  | [], tys, vs, xs, ps, ht, _, h => by
    simp only [tysOf, Option.some.injEq] at ht; subst ht
    obtain ⟨rfl, _⟩ := trodAll_nil h
    exact ⟨[], VRt.nil, rfl⟩
  | t :: ts, tys, vs, xs, ps, ht, hval, h => by
    simp only [tysOf, Option.bind_eq_some_iff, Option.map_eq_some_iff] at ht
    obtain ⟨ty, h1, tys', h2, rfl⟩ := ht
    obtain ⟨v, vs', x, xs', p, q, rfl, rfl, rfl, h3, h4⟩ := trodAll_cons h
    obtain ⟨a, k1, k2⟩ := open_val h1 (hval 0 t v rfl rfl) h3
    obtain ⟨avs, k3, k4⟩ := open_all h2 (fun j t' v' hj hv => hval (j + 1) t' v' (by simpa using hj) (by simpa using hv)) h4
    exact ⟨a :: avs, VRt.cons k1 k3, a, avs, rfl, k2, k4⟩
end
end Am
end Go.Proofs.Ytkffgmpbhahioaa
