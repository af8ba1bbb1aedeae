/- THE ABSTRACT MACHINE, part 4: operations that leave the store as it is: addresses, parts, slices, numbers, strings, conversions. -/
import Derived.Test.YtkffgmpbhahioaaAmMem
namespace Go.Proofs.Ytkffgmpbhahioaa
namespace Am

section
variable {C : Ctx} {γ : Places} {σ : Store} {w : World}

/-! Fields. -/
def tyField (C : Ctx) (s : TypeId) (f : Nat) : Option (TypeId × Nat) :=
  match C.P.underlying s with
  | some (.struct fs) => match fs[f]? with | some fd => some (fd.type, fd.offset) | none => none
  | _ => none
def tyFieldOff (C : Ctx) (s : TypeId) (f : Nat) : Option Nat :=
  match C.P.underlying s with
  | some (.struct fs) => match fs[f]? with | some fd => (match tySize C fd.type with | some (_ + 1) => some fd.offset | _ => none) | none => none
  | _ => none
def aFieldAddr (C : Ctx) (s : TypeId) (f : Nat) : AV → Option AV
  | .ptr r i off => (tyFieldOff C s f).map fun k => .ptr r i (off + k)
  | .vp cs => (tyFieldOff C s f).bind fun k => if k ≤ cs.length then some (.vp (cs.drop k)) else none
  | _ => none
theorem Seg.drop_ {b o : Nat} {vals : List Value} (h : Seg w b o vals) (k : Nat) (hk : k ≤ vals.length) : Seg w b (o + k) (vals.drop k) := by
  have := h.sub k (vals.length - k) hk
  rwa [List.take_of_length_le (by simp)] at this
theorem run_fieldAt {s : TypeId} {f k : Nat} (h : tyFieldOff C s f = some k) (b o : Nat) : (Instr.fieldAt s (.pointer (some ⟨b, o, none⟩)) f).run C.P w = .ok (.pointer (some ⟨b, o + k, none⟩)) w := by
  unfold tyFieldOff at h
  cases hu : C.P.underlying s with
  | none => simp [hu] at h
  | some d => cases d with
    | struct fs =>
      simp only [hu] at h
      cases hf : fs[f]? with
      | none => simp [hf] at h
      | some fd =>
        simp only [hf] at h
        cases hs : tySize C fd.type with
        | none => simp [hs] at h
        | some n => cases n with
          | zero => simp [hs] at h
          | succ n =>
            simp [hs] at h; subst h
            simp [Instr.fieldAt, run_underlying hu, hf, Instr.sureAddr, fieldPlace, run_sizeOf hs, addr_add]
    | _ => simp [hu] at h
theorem fieldAddr_ok {s : TypeId} {f : Nat} {p a : AV} {cp : Value} (hp : VR γ w p cp) (h : aFieldAddr C s f p = some a) :
    ∃ v, (Instr.fieldAt s cp f).run C.P w = .ok v w ∧ VR γ w a v := by
  unfold aFieldAddr at h
  split at h
  · rename_i r i off
    simp only [Option.map_eq_some_iff] at h
    obtain ⟨k, hk, rfl⟩ := h
    simp only [VR] at hp ⊢
    obtain ⟨fl, pl, hpl, rfl⟩ := hp
    exact ⟨_, run_fieldAt hk _ _, fl, pl, hpl, by simp [Nat.add_assoc]⟩
  · rename_i cs
    simp only [Option.bind_eq_some_iff] at h
    obtain ⟨k, hk, h⟩ := h
    split at h
    · rename_i hle
      simp only [Option.some.injEq] at h
      subst h
      simp only [VR] at hp ⊢
      obtain ⟨b, o, vals, rfl, h1, h2, h3⟩ := hp
      exact ⟨_, run_fieldAt hk _ _, b, o + k, vals.drop k, rfl, h1, h2.drop_ k (by rw [← h3.length]; exact hle), h3.drop k⟩
    · cases h
  · cases h

theorem part_ok {t : TypeId} {off n : Nat} {ag : Bool} {cs : List AV} {vals : List Value} {a : AV} (hag : tyAgg C t = some ag) (hn : tySize C t = some n) (hv : VRs γ w cs vals)
    (ha : subCells cs off n ag = some a) : ∃ v, (part t vals.toArray off).run C.P w = .ok v w ∧ VR γ w a v := by
  unfold subCells at ha
  cases ag with
  | true =>
    simp only [if_true] at ha
    split at ha
    · simp only [Option.some.injEq] at ha
      subst ha
      refine ⟨.agg ((vals.drop off).take n).toArray, ?_, ?_⟩
      · simp [part, run_isAgg hag, run_sizeOf hn]
      · simp only [VR]; exact ⟨_, rfl, (hv.drop off).take n⟩
    · cases ha
  | false =>
    simp only [Bool.false_eq_true, if_false] at ha
    obtain ⟨v, h1, h2⟩ := hv.get ha
    exact ⟨v, by simp [part, run_isAgg hag, h1], h2.1⟩
def aField (C : Ctx) (s : TypeId) (f : Nat) : AV → Option AV
  | .agg cs => (tyField C s f).bind fun x => (tyAgg C x.1).bind fun ag => (tySize C x.1).bind fun n => subCells cs x.2 n ag
  | _ => none
theorem field_ok {s : TypeId} {f : Nat} {x a : AV} {cx : Value} (hx : VR γ w x cx) (h : aField C s f x = some a) : ∃ v, (Instr.field s cx f).run C.P w = .ok v w ∧ VR γ w a v := by
  unfold aField at h
  split at h
  · rename_i cs
    simp only [Option.bind_eq_some_iff] at h
    obtain ⟨⟨t, off⟩, hf, ag, hag, n, hn, h⟩ := h
    simp only [VR] at hx
    obtain ⟨vals, rfl, h2⟩ := hx
    obtain ⟨v, h3, h4⟩ := part_ok (C := C) hag hn h2 h
    refine ⟨v, ?_, h4⟩
    unfold tyField at hf
    cases hu : C.P.underlying s with
    | none => simp [hu] at hf
    | some d => cases d with
      | struct fs =>
        simp only [hu] at hf
        cases hff : fs[f]? with
        | none => simp [hff] at hf
        | some fd =>
          simp [hff] at hf
          obtain ⟨rfl, rfl⟩ := hf
          simp only [Instr.field, Sem.run_bind, run_underlying hu, Result.andThen_ok, hff, asAgg, Sem.run_pure, h3]
      | _ => simp [hu] at hf
  · cases h

/-! Elements. -/
def tyArr (C : Ctx) (t : TypeId) : Option (Nat × TypeId) := match C.P.underlying t with | some (.array n e) => some (n, e) | _ => none
def tySl (C : Ctx) (t : TypeId) : Option TypeId := match C.P.underlying t with | some (.slice e) => some e | _ => none
def tyStr (C : Ctx) (t : TypeId) : Bool := match C.P.underlying t with | some .string => true | _ => false
theorem tyArr_u {t : TypeId} {n : Nat} {e : TypeId} (h : tyArr C t = some (n, e)) : C.P.underlying t = some (.array n e) := by
  unfold tyArr at h; split at h
  · rename_i h1; simp at h; obtain ⟨rfl, rfl⟩ := h; exact h1
  · cases h
theorem tySl_u {t e : TypeId} (h : tySl C t = some e) : C.P.underlying t = some (.slice e) := by
  unfold tySl at h; split at h
  · rename_i h1; simp at h; subst h; exact h1
  · cases h
theorem tyStr_u {t : TypeId} (h : tyStr C t = true) : C.P.underlying t = some .string := by
  unfold tyStr at h; split at h
  · assumption
  · cases h

def aIdxArr (n sz : Nat) (i : Int) : AV → Option AV
  | .ptr r j off => if 0 ≤ i ∧ i < n then some (.ptr r j (off + i.toNat * sz)) else none
  | .vp cs => if 0 ≤ i ∧ i < n then (if i.toNat * sz ≤ cs.length then some (.vp (cs.drop (i.toNat * sz))) else none) else none
  | _ => none
def aIdxSl (sz : Nat) (i : Int) : AV → Option AV
  | .vsl esz es _ => if esz = sz ∧ 0 ≤ i then (es[i.toNat]?).map .vp else none
  | .sl r off len _ esz => if esz = sz ∧ 0 ≤ i ∧ i < len then some (.ptr r (off + i.toNat) 0) else none
  | .asl r j off len _ esz => if esz = sz ∧ 0 ≤ i ∧ i < len then some (.ptr r j (off + i.toNat * sz)) else none
  | _ => none
def aIndexAddr (C : Ctx) (t : TypeId) (x ix : AV) : Option AV :=
  match ix with
  | .int _ i => match tyArr C t with
    | some ne => (tySize C ne.2).bind fun sz => aIdxArr ne.1 sz i x
    | none => (tySl C t).bind fun e => (tySize C e).bind fun sz => aIdxSl sz i x
  | _ => none

theorem indexAddr_ok {t : TypeId} {x ix a : AV} {cx ci : Value} (hx : VR γ w x cx) (hi : VR γ w ix ci) (h : aIndexAddr C t x ix = some a) :
    ∃ v, (Instr.indexAt t cx ci).run C.P w = .ok v w ∧ VR γ w a v := by
  unfold aIndexAddr at h
  split at h
  · rename_i k i
    simp only [VR] at hi
    subst hi
    split at h
    · rename_i ne hne
      obtain ⟨n, e⟩ := ne
      have hu := tyArr_u hne
      simp only [Option.bind_eq_some_iff] at h
      obtain ⟨sz, hsz, h⟩ := h
      unfold aIdxArr at h
      split at h
      · rename_i r j off
        split at h
        · rename_i hin
          simp only [Option.some.injEq] at h; subst h
          simp only [VR] at hx ⊢
          obtain ⟨fl, pl, hpl, rfl⟩ := hx
          refine ⟨.pointer (some ⟨pl.b, pl.base + j * pl.esz + off + i.toNat * sz, none⟩), ?_, fl, pl, hpl, by simp [Nat.add_assoc]⟩
          simp [Instr.indexAt, asIntOf, run_underlying hu, Instr.sureAddr, hin, run_sizeOf hsz, addr_add]
        · cases h
      · rename_i cs
        split at h
        · rename_i hin
          split at h
          · rename_i hle
            simp only [Option.some.injEq] at h; subst h
            simp only [VR] at hx ⊢
            obtain ⟨b, o, vals, rfl, h1, h2, h3⟩ := hx
            refine ⟨.pointer (some ⟨b, o + i.toNat * sz, none⟩), ?_, b, o + i.toNat * sz, vals.drop (i.toNat * sz), rfl, h1, h2.drop_ _ (by rw [← h3.length]; exact hle), h3.drop _⟩
            simp [Instr.indexAt, asIntOf, run_underlying hu, Instr.sureAddr, hin, run_sizeOf hsz, addr_add]
          · cases h
        · cases h
      · cases h
    · simp only [Option.bind_eq_some_iff] at h
      obtain ⟨e, he, sz, hsz, h⟩ := h
      have hu := tySl_u he
      unfold aIdxSl at h
      split at h
      · rename_i esz es ex
        split at h
        · rename_i hin
          simp only [Option.map_eq_some_iff] at h
          obtain ⟨cs, hcs, rfl⟩ := h
          obtain ⟨rfl, hi0⟩ := hin
          simp only [VR] at hx ⊢
          rcases hx with ⟨rfl, _⟩ | ⟨b, o, cap, vals, rfl, hc1, hc2, h1, h2, h3, h4⟩
          · simp at hcs
          have hlt : i.toNat < es.length := by
            rcases Nat.lt_or_ge i.toNat es.length with h | h
            · exact h
            · simp [List.getElem?_eq_none h] at hcs
          have h5 := VRss.flat.1 h4
          obtain ⟨hf, hfl, hcl⟩ := flatten_at h3 hcs
          rw [hf] at h5
          obtain ⟨m12, m3, rfl, h7, h8⟩ := h5.append_inv
          obtain ⟨m1, m2, rfl, h9, h10⟩ := h7.append_inv
          have hm1 := h9.length
          refine ⟨.pointer (some ⟨b, o + i.toNat * esz, none⟩), ?_, b, o + i.toNat * esz, m2, rfl, h1, ?_, h10⟩
          · simp [Instr.indexAt, asIntOf, run_underlying hu, run_sizeOf hsz, addr_add, hi0]
            intro hge; omega
          · obtain ⟨c, ty, fz, pre, post, k1, k2, k3⟩ := h2
            exact ⟨c, ty, fz, pre ++ m1, m3 ++ post, k1, by simp [k2, List.append_assoc], by simp [k3, ← hm1, hfl]⟩
        · cases h
      · rename_i r off len lim esz
        split at h
        · rename_i hin
          simp only [Option.some.injEq] at h; subst h
          obtain ⟨rfl, hi0, hi1⟩ := hin
          simp only [VR] at hx ⊢
          obtain ⟨fl, pl, b, o, cap, hpl, he1, rfl, hok⟩ := hx
          have hcap : cap ≠ 0 := by have := hok.le; omega
          obtain ⟨rfl, rfl⟩ := hok.at_ hcap
          refine ⟨.pointer (some ⟨pl.b, pl.base + off * pl.esz + i.toNat * esz, none⟩), ?_, fl, pl, hpl, by simp [he1, Nat.add_mul, Nat.add_assoc]⟩
          simp [Instr.indexAt, asIntOf, run_underlying hu, run_sizeOf hsz, addr_add, hi0]
          intro hge; omega
        · cases h
      · rename_i r j off len cap esz
        split at h
        · rename_i hin
          simp only [Option.some.injEq] at h; subst h
          obtain ⟨rfl, hi0, hi1⟩ := hin
          simp only [VR] at hx ⊢
          obtain ⟨fl, pl, b, o, hpl, rfl, hle, hat⟩ := hx
          have hcap : cap ≠ 0 := by omega
          obtain ⟨rfl, rfl⟩ := hat hcap
          refine ⟨.pointer (some ⟨pl.b, pl.base + j * pl.esz + off + i.toNat * esz, none⟩), ?_, fl, pl, hpl, by simp [Nat.add_assoc]⟩
          simp [Instr.indexAt, asIntOf, run_underlying hu, run_sizeOf hsz, addr_add, hi0]
          intro hge; omega
        · cases h
      · cases h
  · cases h

def aIndex (C : Ctx) (t : TypeId) (x ix : AV) : Option AV :=
  match x, ix with
  | .agg cs, .int _ i => (tyArr C t).bind fun ne => if 0 ≤ i ∧ i < (ne.1 : Int) then (tyAgg C ne.2).bind fun ag => (tySize C ne.2).bind fun sz => subCells cs (i.toNat * sz) sz ag else none
  | .str s, .int _ i => if tyStr C t = true then (if 0 ≤ i then (s[i.toNat]?).map fun b => .int .u8 b.toNat else none) else none
  | _, _ => none
theorem index_ok {t : TypeId} {x ix a : AV} {cx ci : Value} (hx : VR γ w x cx) (hi : VR γ w ix ci) (h : aIndex C t x ix = some a) : ∃ v, (Instr.index t cx ci).run C.P w = .ok v w ∧ VR γ w a v := by
  unfold aIndex at h
  split at h
  · rename_i cs k i
    simp only [VR] at hi hx
    subst hi
    obtain ⟨vals, rfl, hv⟩ := hx
    simp only [Option.bind_eq_some_iff] at h
    obtain ⟨⟨n, e⟩, hne, h⟩ := h
    split at h
    · rename_i hin
      simp only [Option.bind_eq_some_iff] at h
      obtain ⟨ag, hag, sz, hsz, h⟩ := h
      obtain ⟨v, h3, h4⟩ := part_ok (C := C) hag hsz hv h
      refine ⟨v, ?_, h4⟩
      simp only at hin
      simp [Instr.index, asIntOf, run_underlying (tyArr_u hne), hin, run_sizeOf hsz, h3]
    · cases h
  · rename_i s k i
    simp only [VR] at hi hx
    subst hi; subst hx
    split at h
    · rename_i hst
      split at h
      · rename_i hi0
        simp only [Option.map_eq_some_iff] at h
        obtain ⟨b, hb, rfl⟩ := h
        refine ⟨.int .u8 b.toNat, ?_, by simp [VR]⟩
        have : (⟨s.toArray⟩ : ByteArray)[i.toNat]? = some b := by
          show (if h : i.toNat < _ then _ else _) = _
          have hlt : i.toNat < s.length := by
            rcases Nat.lt_or_ge i.toNat s.length with h | h
            · exact h
            · simp [List.getElem?_eq_none h] at hb
          rw [dif_pos (by simpa [ByteArray.size] using hlt)]
          rw [List.getElem?_eq_getElem hlt] at hb
          exact hb
        simp [Instr.index, asIntOf, run_underlying (tyStr_u hst), hi0, this]
      · cases h
    · cases h
  · cases h

/-! Length. -/
theorem VR.int {k : IntKind} {n : Int} : VR γ w (.int k n) (.int k n) := by simp only [VR]
theorem VR.bool {b : Bool} : VR γ w (.bool b) (.bool b) := by simp only [VR]
theorem ba_size (s : List UInt8) : (⟨s.toArray⟩ : ByteArray).size = s.length := by show s.toArray.size = _; simp
def aLen (C : Ctx) (t : TypeId) (x : AV) : Option AV :=
  match x with
  | .str s => if tyStr C t = true then some (.int .i64 s.length) else none
  | .nilsl => (tySl C t).map fun _ => .int .i64 0
  | .vsl _ es _ => (tySl C t).map fun _ => .int .i64 es.length
  | .sl _ _ len _ _ => (tySl C t).map fun _ => .int .i64 len
  | .asl _ _ _ len _ _ => (tySl C t).map fun _ => .int .i64 len
  | .agg _ => (tyArr C t).map fun ne => .int .i64 ne.1
  | _ => none
theorem len_ok {t ty : TypeId} {x a : AV} {cx : Value} (hx : VR γ w x cx) (h : aLen C t x = some a) : ∃ v, (Builtin.len_ #[t] ty #[cx]).run C.P w = .ok v w ∧ VR γ w a v := by
  unfold aLen at h
  split at h
  · rename_i s
    split at h
    · rename_i hst
      simp only [Option.some.injEq] at h; subst h
      simp only [VR] at hx; subst hx
      exact ⟨.int .i64 s.length, by simp [Builtin.len_, run_underlying (tyStr_u hst), goInt, ba_size], VR.int⟩
    · cases h
  · simp only [Option.map_eq_some_iff] at h
    obtain ⟨e, he, rfl⟩ := h
    simp only [VR] at hx; subst hx
    exact ⟨.int .i64 0, by simp [Builtin.len_, run_underlying (tySl_u he), goInt], VR.int⟩
  · rename_i esz es ex
    simp only [Option.map_eq_some_iff] at h
    obtain ⟨e, he, rfl⟩ := h
    simp only [VR] at hx
    rcases hx with ⟨rfl, a, rfl⟩ | ⟨b, o, cap, vals, rfl, _⟩
    · exact ⟨.int .i64 0, by simp [Builtin.len_, run_underlying (tySl_u he), goInt], VR.int⟩
    exact ⟨.int .i64 es.length, by simp [Builtin.len_, run_underlying (tySl_u he), goInt], VR.int⟩
  · rename_i r off len lim esz
    simp only [Option.map_eq_some_iff] at h
    obtain ⟨e, he, rfl⟩ := h
    simp only [VR] at hx
    obtain ⟨fl, pl, b, o, cap, hpl, _, rfl, _⟩ := hx
    exact ⟨.int .i64 len, by simp [Builtin.len_, run_underlying (tySl_u he), goInt], VR.int⟩
  · rename_i r i off len cap esz
    simp only [Option.map_eq_some_iff] at h
    obtain ⟨e, he, rfl⟩ := h
    simp only [VR] at hx
    obtain ⟨fl, pl, b, o, hpl, rfl, _⟩ := hx
    exact ⟨.int .i64 len, by simp [Builtin.len_, run_underlying (tySl_u he), goInt], VR.int⟩
  · simp only [Option.map_eq_some_iff] at h
    obtain ⟨⟨n, e⟩, he, rfl⟩ := h
    simp only [VR] at hx
    obtain ⟨vals, rfl, _⟩ := hx
    exact ⟨.int .i64 n, by simp [Builtin.len_, run_underlying (tyArr_u he), goInt], VR.int⟩
  · cases h
end
end Am
end Go.Proofs.Ytkffgmpbhahioaa
