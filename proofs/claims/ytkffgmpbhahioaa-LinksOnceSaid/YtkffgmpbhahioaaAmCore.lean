/- THE ABSTRACT MACHINE, part 1: abstract values, how they stand to the model's values in a world, and that this stays when a world goes on. No program in sight. -/
import Derived.Calls
import Derived.Orders
import Derived.Laws.Entries
import Derived.Laws.World
import Derived.Laws.Sem
namespace Go.Proofs.Ytkffgmpbhahioaa
namespace Am

/-- Abstract values. 'ptr', 'sl', 'asl' lead into the abstract store (writable memory); 'vp', 'vsl' are memory that nobody writes any more, told by its content. -/
inductive AV where
  | any
  | undef
  | bool (b : Bool)
  | int (k : IntKind) (n : Int)
  | str (s : List UInt8)
  | nilp
  | ptr (r i off : Nat)
  | vp (cs : List AV)
  | nilsl
  | vsl (esz : Nat) (es : List (List AV)) (ex : Bool)
  | sl (r off len : Nat) (lim : Option Nat) (esz : Nat)
  | asl (r i off len cap esz : Nat)
  | fn (f : FuncId) (caps : List AV)
  | nilfn
  | agg (cs : List AV)
  | tup (vs : List AV)
  deriving Inhabited

/-- Where an object of the abstract store lies: block, first cell, cells of an element, known elements, cells of the block. -/
structure Place where
  b : Nat
  base : Nat
  esz : Nat
  n : Nat
  tot : Nat

/-- Each object's place, and whether it lives (a dead one's block belongs to nobody, or to a younger object). -/
abbrev Places := List (Bool × Place)

def Imm (γ : Places) (w : World) (b : Nat) : Prop := b < w.heap.size ∧ ∀ (r : Nat) (pl : Place), γ[r]? = some (true, pl) → pl.b ≠ b

def Seg (w : World) (b o : Nat) (vals : List Value) : Prop :=
  ∃ c ty fz pre post, w.heap[b]? = some (Obj.cells c ty fz) ∧ c.toList = pre ++ vals ++ post ∧ pre.length = o

structure SlOK (pl : Place) (off len cap : Nat) (lim : Option Nat) (b o : Nat) : Prop where
  le : len ≤ cap
  lim_ : ∀ c, lim = some c → cap = c
  room : lim = none → pl.n ≤ off + cap
  inside : pl.base + (off + cap) * pl.esz ≤ pl.tot
  at_ : cap ≠ 0 → b = pl.b ∧ o = pl.base + off * pl.esz
  blk : b = pl.b
  ole : o ≤ pl.tot

mutual
def VR (γ : Places) (w : World) : AV → Value → Prop
  | .any, _ => True
  | .undef, v => v = Go.undef
  | .bool b, v => v = .bool b
  | .int k n, v => v = .int k n
  | .str s, v => v = .string ⟨s.toArray⟩
  | .nilp, v => v = .pointer none
  | .ptr r i off, v => ∃ (fl : Bool) (pl : Place), γ[r]? = some (fl, pl) ∧ v = .pointer (some ⟨pl.b, pl.base + i * pl.esz + off, none⟩)
  | .vp cs, v => ∃ b o vals, v = .pointer (some ⟨b, o, none⟩) ∧ Imm γ w b ∧ Seg w b o vals ∧ VRs γ w cs vals
  | .nilsl, v => v = .slice none 0 0
  | .vsl esz es ex, v => (es = [] ∧ ∃ a, v = .slice (some a) 0 0) ∨ ∃ b o cap vals, v = .slice (some ⟨b, o, none⟩) es.length cap ∧ es.length ≤ cap ∧ (ex = true → cap = es.length) ∧ Imm γ w b ∧ Seg w b o vals ∧
      (∀ e ∈ es, e.length = esz) ∧ VRss γ w es vals
  | .sl r off len lim esz, v => ∃ (fl : Bool) (pl : Place) (b o cap : Nat), γ[r]? = some (fl, pl) ∧ pl.esz = esz ∧ v = .slice (some ⟨b, o, none⟩) len cap ∧ SlOK pl off len cap lim b o
  | .asl r i off len cap _, v => ∃ (fl : Bool) (pl : Place) (b o : Nat), γ[r]? = some (fl, pl) ∧ v = .slice (some ⟨b, o, none⟩) len cap ∧ len ≤ cap ∧
      (cap ≠ 0 → b = pl.b ∧ o = pl.base + i * pl.esz + off)
  | .fn f caps, v => ∃ vs, v = .func (.func f) #[] (List.toArray vs) ∧ VRt γ w caps vs
  | .nilfn, v => v = .nilFunc
  | .agg cs, v => ∃ vs, v = .agg (List.toArray vs) ∧ VRs γ w cs vs
  | .tup cs, v => ∃ vs, v = .tuple (List.toArray vs) ∧ VRt γ w cs vs
/-- Cells: each is one cell's value. -/
def VRs (γ : Places) (w : World) : List AV → List Value → Prop
  | [], vs => vs = []
  | a :: as, vs => ∃ v vs', vs = v :: vs' ∧ (VR γ w a v ∧ v.oneCell' = true) ∧ VRs γ w as vs'
/-- Arguments, results, captured values: whole values. -/
def VRt (γ : Places) (w : World) : List AV → List Value → Prop
  | [], vs => vs = []
  | a :: as, vs => ∃ v vs', vs = v :: vs' ∧ VR γ w a v ∧ VRt γ w as vs'
def VRss (γ : Places) (w : World) : List (List AV) → List Value → Prop
  | [], vs => vs = []
  | e :: es, vs => ∃ v1 v2, vs = v1 ++ v2 ∧ VRs γ w e v1 ∧ VRss γ w es v2
end

/-- A world goes on: what no live object lies in stays. -/
structure Step (γ : Places) (w : World) (γ' : Places) (w' : World) : Prop where
  keep : ∀ (r : Nat) (fl : Bool) (pl : Place), γ[r]? = some (fl, pl) → ∃ fl', γ'[r]? = some (fl', pl)
  size : w.heap.size ≤ w'.heap.size
  imm : ∀ (b : Nat), b < w.heap.size → (∀ (r : Nat) (pl : Place), γ[r]? = some (true, pl) → pl.b ≠ b) → w'.heap[b]? = w.heap[b]?
  new : ∀ (r : Nat) (pl : Place), γ'[r]? = some (true, pl) → (∃ (r' : Nat) (pl' : Place), γ[r']? = some (true, pl') ∧ pl'.b = pl.b) ∨ w.heap.size ≤ pl.b
  os : w'.os = w.os
  tape : w'.tape = w.tape
  output : w'.output = w.output

theorem Step.refl (γ : Places) (w : World) : Step γ w γ w :=
  ⟨fun _ fl _ h => ⟨fl, h⟩, Nat.le_refl _, fun _ _ _ => rfl, fun r pl h => .inl ⟨r, pl, h, rfl⟩, rfl, rfl, rfl⟩

theorem Step.imm_imm {γ γ' : Places} {w w' : World} (h : Step γ w γ' w') {b : Nat} (hb : Imm γ w b) : Imm γ' w' b := by
  refine ⟨Nat.lt_of_lt_of_le hb.1 h.size, fun r pl hr e => ?_⟩
  rcases h.new r pl hr with ⟨r', pl', h1, h2⟩ | h1
  · exact hb.2 r' pl' h1 (h2.trans e)
  · have := hb.1; omega

theorem Step.trans {γ γ' γ'' : Places} {w w' w'' : World} (h : Step γ w γ' w') (k : Step γ' w' γ'' w'') : Step γ w γ'' w'' where
  keep r fl pl hr := by
    obtain ⟨fl', h1⟩ := h.keep r fl pl hr
    exact k.keep r fl' pl h1
  size := Nat.le_trans h.size k.size
  imm b hb hn := by
    have h2 : Imm γ' w' b := h.imm_imm ⟨hb, hn⟩
    rw [k.imm b h2.1 h2.2, h.imm b hb hn]
  new r pl hr := by
    rcases k.new r pl hr with ⟨r', pl', h1, h2⟩ | h1
    · rcases h.new r' pl' h1 with ⟨r'', pl'', h3, h4⟩ | h3
      · exact .inl ⟨r'', pl'', h3, h4.trans h2⟩
      · exact .inr (by omega)
    · exact .inr (Nat.le_trans h.size h1)
  os := k.os.trans h.os
  tape := k.tape.trans h.tape
  output := k.output.trans h.output

theorem Seg.mono {γ γ' : Places} {w w' : World} (h : Step γ w γ' w') {b o : Nat} {vals : List Value} (hb : Imm γ w b) (hs : Seg w b o vals) : Seg w' b o vals := by
  obtain ⟨c, ty, fz, pre, post, h1, h2⟩ := hs
  exact ⟨c, ty, fz, pre, post, (h.imm b hb.1 hb.2).trans h1, h2⟩

mutual
theorem VR.mono {γ γ' : Places} {w w' : World} (h : Step γ w γ' w') : ∀ (a : AV) (v : Value), VR γ w a v → VR γ' w' a v
  | .any, _, _ => by simp only [VR]
  | .undef, _, hv => by simpa only [VR] using hv
  | .bool _, _, hv => by simpa only [VR] using hv
  | .int _ _, _, hv => by simpa only [VR] using hv
  | .str _, _, hv => by simpa only [VR] using hv
  | .nilp, _, hv => by simpa only [VR] using hv
  | .ptr r i off, v, hv => by
    simp only [VR] at hv ⊢
    obtain ⟨fl, pl, h1, h2⟩ := hv
    obtain ⟨fl', h3⟩ := h.keep r fl pl h1
    exact ⟨fl', pl, h3, h2⟩
  | .vp cs, v, hv => by
    simp only [VR] at hv ⊢
    obtain ⟨b, o, vals, h1, h2, h3, h4⟩ := hv
    exact ⟨b, o, vals, h1, h.imm_imm h2, h3.mono h h2, VRs.mono h cs vals h4⟩
  | .nilsl, _, hv => by simpa only [VR] using hv
  | .vsl esz es ex, v, hv => by
    simp only [VR] at hv ⊢
    rcases hv with hv | ⟨b, o, cap, vals, h1, h2, h3, h4, h5, h6, h7⟩
    · exact .inl hv
    · exact .inr ⟨b, o, cap, vals, h1, h2, h3, h.imm_imm h4, h5.mono h h4, h6, VRss.mono h es vals h7⟩
  | .sl r off len lim esz, v, hv => by
    simp only [VR] at hv ⊢
    obtain ⟨fl, pl, b, o, cap, h1, h2⟩ := hv
    obtain ⟨fl', h3⟩ := h.keep r fl pl h1
    exact ⟨fl', pl, b, o, cap, h3, h2⟩
  | .asl r i off len cap esz, v, hv => by
    simp only [VR] at hv ⊢
    obtain ⟨fl, pl, b, o, h1, h2⟩ := hv
    obtain ⟨fl', h3⟩ := h.keep r fl pl h1
    exact ⟨fl', pl, b, o, h3, h2⟩
  | .fn f caps, v, hv => by
    simp only [VR] at hv ⊢
    obtain ⟨vs, h1, h2⟩ := hv
    exact ⟨vs, h1, VRt.mono h caps vs h2⟩
  | .nilfn, _, hv => by simpa only [VR] using hv
  | .agg cs, v, hv => by
    simp only [VR] at hv ⊢
    obtain ⟨vs, h1, h2⟩ := hv
    exact ⟨vs, h1, VRs.mono h cs vs h2⟩
  | .tup cs, v, hv => by
    simp only [VR] at hv ⊢
    obtain ⟨vs, h1, h2⟩ := hv
    exact ⟨vs, h1, VRt.mono h cs vs h2⟩
theorem VRs.mono {γ γ' : Places} {w w' : World} (h : Step γ w γ' w') : ∀ (as : List AV) (vs : List Value), VRs γ w as vs → VRs γ' w' as vs
  | [], _, hv => by simpa only [VRs] using hv
  | a :: as, vs, hv => by
    simp only [VRs] at hv ⊢
    obtain ⟨v, vs', h1, h2, h3⟩ := hv
    exact ⟨v, vs', h1, ⟨VR.mono h a v h2.1, h2.2⟩, VRs.mono h as vs' h3⟩
theorem VRt.mono {γ γ' : Places} {w w' : World} (h : Step γ w γ' w') : ∀ (as : List AV) (vs : List Value), VRt γ w as vs → VRt γ' w' as vs
  | [], _, hv => by simpa only [VRt] using hv
  | a :: as, vs, hv => by
    simp only [VRt] at hv ⊢
    obtain ⟨v, vs', h1, h2, h3⟩ := hv
    exact ⟨v, vs', h1, VR.mono h a v h2, VRt.mono h as vs' h3⟩
theorem VRss.mono {γ γ' : Places} {w w' : World} (h : Step γ w γ' w') : ∀ (es : List (List AV)) (vs : List Value), VRss γ w es vs → VRss γ' w' es vs
  | [], _, hv => by simpa only [VRss] using hv
  | e :: es, vs, hv => by
    simp only [VRss] at hv ⊢
    obtain ⟨v1, v2, h1, h2, h3⟩ := hv
    exact ⟨v1, v2, h1, VRs.mono h e v1 h2, VRss.mono h es v2 h3⟩
end

/-! Lists of cells, and of values. -/
section lists
variable {γ : Places} {w : World}
def VC (γ : Places) (w : World) (a : AV) (v : Value) : Prop := VR γ w a v ∧ v.oneCell' = true
theorem VRs.nil : VRs γ w [] [] := by simp [VRs]
theorem VRs.cons {a : AV} {as : List AV} {v : Value} {vs : List Value} (h : VC γ w a v) (hs : VRs γ w as vs) : VRs γ w (a :: as) (v :: vs) := by
  simp only [VRs]; exact ⟨v, vs, rfl, h, hs⟩
theorem VRs.one {a : AV} {v : Value} (h : VC γ w a v) : VRs γ w [a] [v] := .cons h .nil
theorem VRs.length : ∀ {as : List AV} {vs : List Value}, VRs γ w as vs → as.length = vs.length
  | [], vs, h => by simp only [VRs] at h; simp [h]
  | a :: as, vs, h => by
    simp only [VRs] at h
    obtain ⟨v, vs', rfl, _, h3⟩ := h
    simp [VRs.length h3]
theorem VRs.get : ∀ {as : List AV} {vs : List Value}, VRs γ w as vs → ∀ {i : Nat} {a : AV}, as[i]? = some a → ∃ v, vs[i]? = some v ∧ VC γ w a v
  | [], vs, h, i, a, hi => by simp at hi
  | x :: as, vs, h, i, a, hi => by
    simp only [VRs] at h
    obtain ⟨v, vs', rfl, h2, h3⟩ := h
    cases i with
    | zero => simp at hi; subst hi; exact ⟨v, by simp, h2⟩
    | succ i => simp at hi; simpa using VRs.get h3 hi
theorem VRs.of_get : ∀ {as : List AV} {vs : List Value}, as.length = vs.length → (∀ (i : Nat) (a : AV) (v : Value), as[i]? = some a → vs[i]? = some v → VC γ w a v) → VRs γ w as vs
  | [], vs, hl, _ => by cases vs <;> simp_all [VRs]
  | a :: as, [], hl, _ => by simp at hl
  | a :: as, v :: vs, hl, h =>
    VRs.cons (h 0 a v (by simp) (by simp)) (VRs.of_get (by simpa using hl) fun i a' v' h1 h2 => h (i + 1) a' v' (by simpa using h1) (by simpa using h2))
theorem VRs.one_ {as : List AV} {vs : List Value} (h : VRs γ w as vs) : ∀ v ∈ vs, v.oneCell' = true := by
  induction as generalizing vs with
  | nil => simp only [VRs] at h; simp [h]
  | cons a as ih =>
    simp only [VRs] at h
    obtain ⟨v, vs', rfl, h2, h3⟩ := h
    intro x hx
    cases hx with
    | head => exact h2.2
    | tail _ hx => exact ih h3 x hx
theorem VRs.append {as bs : List AV} {vs us : List Value} (h : VRs γ w as vs) (k : VRs γ w bs us) : VRs γ w (as ++ bs) (vs ++ us) := by
  induction as generalizing vs with
  | nil => simp only [VRs] at h; subst h; simpa using k
  | cons a as ih =>
    simp only [VRs] at h
    obtain ⟨v, vs', rfl, h2, h3⟩ := h
    exact VRs.cons h2 (ih h3)
theorem VRs.append_inv {as bs : List AV} {vs : List Value} (h : VRs γ w (as ++ bs) vs) : ∃ v1 v2, vs = v1 ++ v2 ∧ VRs γ w as v1 ∧ VRs γ w bs v2 := by
  induction as generalizing vs with
  | nil => exact ⟨[], vs, rfl, VRs.nil, by simpa using h⟩
  | cons a as ih =>
    simp only [List.cons_append, VRs] at h
    obtain ⟨v, vs', rfl, h2, h3⟩ := h
    obtain ⟨v1, v2, rfl, h4, h5⟩ := ih h3
    exact ⟨v :: v1, v2, rfl, VRs.cons h2 h4, h5⟩
theorem VRs.take {as : List AV} {vs : List Value} (h : VRs γ w as vs) (n : Nat) : VRs γ w (as.take n) (vs.take n) := by
  refine VRs.of_get (by simp [h.length]) fun i a v h1 h2 => ?_
  simp only [List.getElem?_take] at h1 h2
  split at h1
  · rename_i hi
    rw [if_pos hi] at h2
    obtain ⟨v', h3, h4⟩ := h.get h1
    rw [h2] at h3; cases h3; exact h4
  · simp at h1
theorem VRs.drop {as : List AV} {vs : List Value} (h : VRs γ w as vs) (n : Nat) : VRs γ w (as.drop n) (vs.drop n) := by
  refine VRs.of_get (by simp [h.length]) fun i a v h1 h2 => ?_
  simp only [List.getElem?_drop] at h1 h2
  obtain ⟨v', h3, h4⟩ := h.get h1
  rw [h2] at h3; cases h3; exact h4
theorem VRs.rep {a : AV} {v : Value} (h : VC γ w a v) (n : Nat) : VRs γ w (List.replicate n a) (List.replicate n v) := by
  induction n with
  | zero => exact VRs.nil
  | succ n ih => exact VRs.cons h ih
theorem VRss.flat : ∀ {es : List (List AV)} {vs : List Value}, VRss γ w es vs ↔ VRs γ w es.flatten vs
  | [], vs => by simp [VRss, VRs]
  | e :: es, vs => by
    simp only [VRss, List.flatten_cons]
    constructor
    · rintro ⟨v1, v2, rfl, h1, h2⟩
      exact h1.append (VRss.flat.1 h2)
    · intro h
      obtain ⟨v1, v2, rfl, h1, h2⟩ := h.append_inv
      exact ⟨v1, v2, rfl, h1, VRss.flat.2 h2⟩
theorem VRt.nil : VRt γ w [] [] := by simp [VRt]
theorem VRt.cons {a : AV} {as : List AV} {v : Value} {vs : List Value} (h : VR γ w a v) (hs : VRt γ w as vs) : VRt γ w (a :: as) (v :: vs) := by
  simp only [VRt]; exact ⟨v, vs, rfl, h, hs⟩
theorem VRt.length : ∀ {as : List AV} {vs : List Value}, VRt γ w as vs → as.length = vs.length
  | [], vs, h => by simp only [VRt] at h; simp [h]
  | a :: as, vs, h => by
    simp only [VRt] at h
    obtain ⟨v, vs', rfl, _, h3⟩ := h
    simp [VRt.length h3]
theorem VRt.get : ∀ {as : List AV} {vs : List Value}, VRt γ w as vs → ∀ {i : Nat} {a : AV}, as[i]? = some a → ∃ v, vs[i]? = some v ∧ VR γ w a v
  | [], vs, h, i, a, hi => by simp at hi
  | x :: as, vs, h, i, a, hi => by
    simp only [VRt] at h
    obtain ⟨v, vs', rfl, h2, h3⟩ := h
    cases i with
    | zero => simp at hi; subst hi; exact ⟨v, by simp, h2⟩
    | succ i => simp at hi; simpa using VRt.get h3 hi
theorem VRt.append {as bs : List AV} {vs us : List Value} (h : VRt γ w as vs) (k : VRt γ w bs us) : VRt γ w (as ++ bs) (vs ++ us) := by
  induction as generalizing vs with
  | nil => simp only [VRt] at h; subst h; simpa using k
  | cons a as ih =>
    simp only [VRt] at h
    obtain ⟨v, vs', rfl, h2, h3⟩ := h
    exact VRt.cons h2 (ih h3)
end lists

end Am
end Go.Proofs.Ytkffgmpbhahioaa
