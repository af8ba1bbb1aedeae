/- THE ABSTRACT MACHINE, part 8: what makes memory, or writes many cells: conversions, make, append, copy, clear. -/
import Derived.Test.YtkffgmpbhahioaaAmArith
namespace Go.Proofs.Ytkffgmpbhahioaa
namespace Am

section
variable {C : Ctx} {γ : Places} {σ : Store} {w : World}

theorem Rel.kill (h : Rel C γ σ w) {r : Nat} {pl : Place} (hr : γ[r]? = some (true, pl)) : Step γ w (γ.set r (false, pl)) w ∧ Rel C (γ.set r (false, pl)) (σ.set r none) w := by
  have hrl : r < γ.length := (List.getElem?_eq_some_iff.1 hr).1
  have hget : ∀ (q : Nat) (x : Place), (γ.set r (false, pl))[q]? = some (true, x) → q ≠ r ∧ γ[q]? = some (true, x) := fun q x hq => by
    by_cases e : r = q
    · subst e; rw [List.getElem?_set_self hrl] at hq; simp at hq
    · rw [List.getElem?_set_ne e] at hq; exact ⟨fun e' => e e'.symm, hq⟩
  have hs : Step γ w (γ.set r (false, pl)) w := by
    refine ⟨fun q fl x hq => ?_, Nat.le_refl _, fun _ _ _ => rfl, fun q x hx => .inl ⟨q, x, (hget q x hx).2, rfl⟩, rfl, rfl, rfl⟩
    by_cases e : r = q
    · subst e
      rw [hr] at hq
      simp only [Option.some.injEq, Prod.mk.injEq] at hq
      exact ⟨false, by rw [List.getElem?_set_self hrl, hq.2]⟩
    · exact ⟨fl, by rw [List.getElem?_set_ne e]; exact hq⟩
  refine ⟨hs, by simp [h.len], fun q o hq => ?_, fun q hq => ?_, fun q q' x x' h1 h2 h3 => h.inj q q' x x' (hget q x h1).2 (hget q' x' h2).2 h3, fun g cs hg => (h.gl g cs hg).mono hs⟩
  · by_cases e : r = q
    · subst e
      rw [List.getElem?_set_self (by rw [← h.len]; exact hrl)] at hq; cases hq
    · rw [List.getElem?_set_ne e] at hq
      obtain ⟨x, h1, h2⟩ := h.alive q o hq
      exact ⟨x, by rw [List.getElem?_set_ne e]; exact h1, h2.mono hs rfl⟩
  · by_cases e : r = q
    · subst e; exact ⟨pl, by rw [List.getElem?_set_self hrl]⟩
    · rw [List.getElem?_set_ne e] at hq
      obtain ⟨x, h1⟩ := h.dead q hq
      exact ⟨x, by rw [List.getElem?_set_ne e]; exact h1⟩

/-! Bytes. -/
def B8 (b : UInt8) : AV := .int .u8 b.toNat
def byteEs (s : List UInt8) : List (List AV) := s.map fun b => [B8 b]
def byteOf1 : List AV → Option UInt8
  | [.int .u8 n] => some (UInt8.ofNat n.toNat)
  | _ => none
def bytesOf : List (List AV) → Option (List UInt8)
  | [] => some []
  | e :: es => (byteOf1 e).bind fun b => (bytesOf es).map (b :: ·)
theorem bytesOf_byteEs (s : List UInt8) : bytesOf (byteEs s) = some s := by
  induction s with
  | nil => rfl
  | cons b s ih =>
    have : UInt8.ofNat (b.toNat : Int).toNat = b := by simp
    simp only [byteEs, List.map_cons, bytesOf, byteOf1, B8, this, Option.bind_some]
    have ih' : bytesOf (s.map fun b => [B8 b]) = some s := ih
    simp only [B8] at ih'
    simp [ih']
theorem byteEs_flatten (s : List UInt8) : (byteEs s).flatten = s.map B8 := by
  induction s with
  | nil => rfl
  | cons b s ih => simp only [byteEs, List.map_cons, List.flatten_cons] at ih ⊢; simp [ih]
theorem VRs_bytes (s : List UInt8) : VRs γ w (s.map B8) (s.map fun b => Value.int .u8 b.toNat) := by
  induction s with
  | nil => exact VRs.nil
  | cons b s ih => exact VRs.cons ⟨by simp [VR, B8], rfl⟩ ih

theorem bytesOf_vals {es : List (List AV)} {s : List UInt8} {vals : List Value} (h : bytesOf es = some s) (hv : VRs γ w es.flatten vals) : ∃ ns : List Int, vals = ns.map (Value.int .u8) ∧ s = ns.map fun n => UInt8.ofNat n.toNat := by
  induction es generalizing s vals with
  | nil =>
    simp only [bytesOf, Option.some.injEq] at h; subst h
    simp only [List.flatten_nil, VRs] at hv; subst hv
    exact ⟨[], rfl, rfl⟩
  | cons e es ih =>
    simp only [bytesOf, Option.bind_eq_some_iff, Option.map_eq_some_iff] at h
    obtain ⟨b, hb, s', hs', rfl⟩ := h
    unfold byteOf1 at hb
    split at hb
    · rename_i n
      simp only [Option.some.injEq] at hb; subst hb
      simp only [List.flatten_cons] at hv
      obtain ⟨v1, v2, rfl, h1, h2⟩ := hv.append_inv
      simp only [VRs] at h1
      obtain ⟨v, vs', rfl, h3, rfl⟩ := h1
      simp only [VR] at h3
      obtain ⟨ns, rfl, rfl⟩ := ih hs' h2
      exact ⟨n :: ns, by simp [h3.1], by simp⟩
    · cases hb

theorem run_push_bytes (f : Value → ByteArray → Sem (ForInStep ByteArray)) (hf : ∀ (n : Int) (acc : ByteArray), f (.int .u8 n) acc = pure (ForInStep.yield (acc.push (UInt8.ofNat n.toNat)))) (ns : List Int) :
    ∀ (acc : ByteArray), (forIn (m := Sem) (ns.map (Value.int .u8)) acc f).run C.P w = .ok ⟨acc.data ++ (ns.map fun n => UInt8.ofNat n.toNat).toArray⟩ w := by
  induction ns with
  | nil => intro acc; simp
  | cons n ns ih =>
    intro acc
    simp only [List.map_cons, List.forIn_cons, Sem.run_bind, hf, Sem.run_pure, Result.andThen_ok]
    rw [ih]
    congr 2
    apply Array.ext'
    simp [ByteArray.push]

def tyInt (C : Ctx) (t : TypeId) : Option IntKind := match C.P.underlying t with | some (.int k) => some k | _ => none
def tyU8Sl (C : Ctx) (t : TypeId) : Bool := match tySl C t with | some e => (match C.P.underlying e with | some (.int .u8) => true | _ => false) | none => false
theorem tyInt_u {t : TypeId} {k : IntKind} (h : tyInt C t = some k) : C.P.underlying t = some (.int k) := by
  unfold tyInt at h; split at h
  · rename_i h1; simp at h; subst h; exact h1
  · cases h
theorem tyU8Sl_u {t : TypeId} (h : tyU8Sl C t = true) : ∃ e, C.P.underlying t = some (.slice e) ∧ C.P.underlying e = some (.int .u8) := by
  unfold tyU8Sl at h
  split at h
  · rename_i e he
    split at h
    · exact ⟨e, tySl_u he, by assumption⟩
    · cases h
  · cases h
def aConv (C : Ctx) (σ : Store) (src dst : TypeId) (x : AV) : Option (AV × Store) :=
  match x with
  | .int _ n => (tyInt C src).bind fun _ => (tyInt C dst).map fun k => (.int k (k.wrap n), σ)
  | .str s => if tyStr C dst = true ∧ (C.P.underlying src).isSome = true then some (.str s, σ) else if tyU8Sl C dst = true ∧ (C.P.underlying src).isSome = true then some (.sl σ.length 0 s.length none 1, σ ++ [some (byteEs s)]) else none
  | x => if tyStr C dst = true ∧ tyU8Sl C src = true then (slElems σ x).bind fun es => (bytesOf es).map fun s => (.str s, σ) else none

theorem appendCap_ge (n o : Nat) (e : TypeId) (t : Nat) : n ≤ (Question.appendCap n o e).cut t := by simp [Question.cut]

theorem conv_bytes_ok (hR : Rel C γ σ w) {src dst : TypeId} {x a : AV} {vx : Value} {σ' : Store} (hx : VR γ w x vx) (hs : tyStr C dst = true) (hu : tyU8Sl C src = true) {es : List (List AV)} {s : List UInt8}
    (h1 : slElems σ x = some es) (h2 : bytesOf es = some s) (ha : a = .str s) (hσ : σ' = σ) : Out C γ w ((convert src dst vx).run C.P w) a σ' := by
  subst ha; subst hσ
  obtain ⟨e, hse, hue⟩ := tyU8Sl_u hu
  obtain ⟨ad, cap, rfl, hmem, hnil⟩ := slElems_ok (C := C) hR hx h1
  refine Out.same hR (cv := .string ⟨s.toArray⟩) ?_ (by simp only [VR])
  have hconv : (convert src dst (.slice ad es.length cap)).run C.P w = (Conv.bytesToString (.slice ad es.length cap)).run C.P w := by
    simp [convert, run_underlying (tyStr_u hs), run_underlying hse, run_underlying hue]
  rw [hconv]
  cases ad with
  | none =>
    have hx' := hnil rfl
    subst hx'
    simp only [slElems, Option.some.injEq] at h1
    subst h1
    simp only [bytesOf, Option.some.injEq] at h2; subst h2
    rfl
  | some ad =>
    by_cases hne : es.length = 0
    · have : es = [] := List.eq_nil_of_length_eq_zero hne
      subst this
      simp only [bytesOf, Option.some.injEq] at h2; subst h2
      simp [Conv.bytesToString, loadCells, loadCellsFrom]
      rfl
    · obtain ⟨b, o, vals, hb, hseg, hv⟩ := hmem hne
      simp only [Option.some.injEq] at hb; subst hb
      obtain ⟨ns, rfl, rfl⟩ := bytesOf_vals h2 hv
      have hl : (ns.map (Value.int .u8)).length = es.length := by
        have e1 := hv.length
        have : ∀ (es : List (List AV)) (s : List UInt8), bytesOf es = some s → es.flatten.length = es.length := by
          intro es
          induction es with
          | nil => intro s _; rfl
          | cons e es ih =>
            intro s h
            simp only [bytesOf, Option.bind_eq_some_iff, Option.map_eq_some_iff] at h
            obtain ⟨b, hb, s', hs', rfl⟩ := h
            unfold byteOf1 at hb
            split at hb
            · simp [ih s' hs']
            · cases hb
        rw [← this es _ h2]; exact e1.symm
      have hload := run_loadCells_seg (C := C) hseg
      rw [hl] at hload
      simp only [Conv.bytesToString, Sem.run_bind, hload, Result.andThen_ok, List.forIn_toArray]
      rw [run_push_bytes _ (fun _ _ => rfl)]
      simp

theorem conv_ok (hR : Rel C γ σ w) {src dst : TypeId} {x a : AV} {vx : Value} {σ' : Store} (hx : VR γ w x vx) (h : aConv C σ src dst x = some (a, σ')) : Out C γ w ((convert src dst vx).run C.P w) a σ' := by
  unfold aConv at h
  split at h
  · rename_i k n
    simp only [Option.bind_eq_some_iff, Option.map_eq_some_iff, Prod.mk.injEq] at h
    obtain ⟨k0, hk0, k', hk, rfl, rfl⟩ := h
    simp only [VR] at hx; subst hx
    exact Out.same hR (cv := .int k' (k'.wrap n)) (by simp [convert, run_underlying (tyInt_u hk), run_underlying (tyInt_u hk0), Conv.intToInt]) VR.int
  · rename_i s
    simp only [VR] at hx; subst hx
    split at h
    · rename_i hc
      simp only [Option.some.injEq, Prod.mk.injEq] at h
      obtain ⟨rfl, rfl⟩ := h
      cases hu : C.P.underlying src with
      | none => simp [hu] at hc
      | some d => exact Out.same hR (cv := .string ⟨s.toArray⟩) (by cases d <;> simp [convert, run_underlying (tyStr_u hc.1), run_underlying hu]) (by simp only [VR])
    · split at h
      · rename_i hc
        simp only [Option.some.injEq, Prod.mk.injEq] at h
        obtain ⟨rfl, rfl⟩ := h
        obtain ⟨e, hse, hue⟩ := tyU8Sl_u hc.1
        cases hu : C.P.underlying src with
        | none => simp [hu] at hc
        | some d =>
          have hconv : (convert src dst (.string ⟨s.toArray⟩)).run C.P w = (Conv.stringToBytes e ⟨s.toArray⟩).run C.P w := by
            cases d <;> simp [convert, run_underlying hse, run_underlying hu, run_underlying hue]
          rw [hconv]
          let w1 : World := { w with drawn := w.drawn + 1 }
          let cap := (Question.appendCap s.length 0 e).cut (w.tape w.drawn (Question.appendCap s.length 0 e))
          have hcap : s.length ≤ cap := appendCap_ge _ _ _ _
          let c : Array Value := (s.map fun b => Value.int .u8 b.toNat).toArray ++ Array.replicate (cap - s.length) (.int .u8 0)
          have hsz : c.size = cap := by simp [c]; omega
          let w2 : World := { w1 with heap := w1.heap.push (.cells c e (cap, cap + 1)) }
          obtain ⟨h0, h0'⟩ := hR.drawn (w' := w1) rfl rfl rfl rfl
          obtain ⟨h1, h2⟩ := h0'.alloc (w' := w2) (c := c) (ty := e) (fz := (cap, cap + 1)) (o := byteEs s) (esz := 1) (vals := s.map fun b => Value.int .u8 b.toNat)
            (rest := List.replicate (cap - s.length) (.int .u8 0)) rfl rfl rfl rfl (by simp [c]) (by rw [byteEs_flatten]; exact VRs_bytes s) (by simp [byteEs])
            (by intro k hk; rw [hsz] at hk; simp; omega)
          refine ⟨.slice (some ⟨w.heap.size, 0, none⟩) s.length cap, _, w2, ?_, h0.trans h1, h2, ?_⟩
          · have hdata : (⟨s.toArray⟩ : ByteArray).data.map (fun b => Value.int .u8 b.toNat) = (s.map fun b => Value.int .u8 b.toNat).toArray := by simp
            have hsh : ({ w1 with heap := w1.heap.push (.cells c e) } : World).shape? w.heap.size = some (e, c.size) := by
              simp [World.shape?, w1]
            have hfr : ({ w1 with heap := w1.heap.push (.cells c e) } : World).freeze { block := w.heap.size, off := c.size } 1 = w2 := by
              have hm : ∀ f : Obj → Obj, f (.cells c e) = .cells c e (cap, cap + 1) → (w.heap.push (Obj.cells c e)).modify w.heap.size f = w.heap.push (.cells c e (cap, cap + 1)) := by
                intro f hf
                apply Array.ext_getElem?
                intro i
                rw [Array.getElem?_modify, Array.getElem?_push, Array.getElem?_push]
                by_cases hi : i = w.heap.size
                · subst hi; simp [hf]
                · have : ¬ w.heap.size = i := fun e => hi e.symm
                  simp [hi, this]
              unfold World.freeze
              rw [if_neg (by decide)]
              simp only [w2, w1, hsz]
              rw [hm _ (by simp)]
            simp only [Conv.stringToBytes, Sem.run_bind, run_choose, Question.forced, Bool.false_eq_true, if_false, Result.andThen_ok, ba_size, newRow, run_newObj, Sem.run_pure, hdata]
            have e1 : (Question.appendCap s.length 0 e).cut (w.tape w.drawn (Question.appendCap s.length 0 e)) = cap := rfl
            rw [e1]
            have e2 : (s.map fun b => Value.int .u8 b.toNat).toArray ++ Array.replicate (cap - s.length) (.int .u8 0) = c := rfl
            simp only [e2]
            have e3 : (markStringish ⟨w.heap.size, 0, none⟩).run C.P { w1 with heap := w1.heap.push (.cells c e) } = .ok () w2 := by
              simp only [markStringish, Sem.run_bind, run_shape, Result.andThen_ok, hsh]
              simp only [run_freeze, hfr]
            have e4 : ({ heap := w.heap.push (.cells c e), tape := w.tape, drawn := w.drawn + 1, os := w.os, output := w.output } : World) = { w1 with heap := w1.heap.push (.cells c e) } := rfl
            rw [e4]
            simp only [e3, Result.andThen_ok]
          · simp only [VR]
            exact ⟨true, _, w.heap.size, 0, cap, by rw [← hR.len, List.getElem?_concat_length], rfl, rfl, hcap, by simp, by simp [byteEs]; omega, by simp [hsz], by simp [w1], by simp [w1], Nat.zero_le _⟩
      · cases h
  · rename_i x hni hns
    split at h
    · rename_i hc
      simp only [Option.bind_eq_some_iff, Option.map_eq_some_iff, Prod.mk.injEq] at h
      obtain ⟨es, hes, s, hs, ha, hσ⟩ := h
      exact conv_bytes_ok hR hx hc.1 hc.2 hes hs ha.symm hσ.symm
    · cases h
end
end Am
end Go.Proofs.Ytkffgmpbhahioaa
