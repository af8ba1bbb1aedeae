/- THE ABSTRACT MACHINE, part 5: slices of slices, strings and arrays; what a slice holds. -/
import Derived.Test.YtkffgmpbhahioaaAmPure
namespace Go.Proofs.Ytkffgmpbhahioaa
namespace Am

section
variable {C : Ctx} {γ : Places} {σ : Store} {w : World}

theorem flatten_take {sz : Nat} (l : List (List AV)) (k : Nat) (hl : ∀ e ∈ l, e.length = sz) : (l.take k).flatten = l.flatten.take (k * sz) := by
  induction l generalizing k with
  | nil => simp
  | cons x l ih =>
    cases k with
    | zero => simp
    | succ k =>
      rw [List.take_succ_cons, List.flatten_cons, ih k (fun e he => hl e (by simp [he])), List.flatten_cons, show (k + 1) * sz = x.length + k * sz by rw [hl x (by simp), Nat.succ_mul, Nat.add_comm],
        List.take_length_add_append]
theorem flatten_drop {sz : Nat} (l : List (List AV)) (k : Nat) (hl : ∀ e ∈ l, e.length = sz) : (l.drop k).flatten = l.flatten.drop (k * sz) := by
  induction l generalizing k with
  | nil => simp
  | cons x l ih =>
    cases k with
    | zero => simp
    | succ k =>
      rw [List.drop_succ_cons, ih k (fun e he => hl e (by simp [he])), List.flatten_cons, show (k + 1) * sz = x.length + k * sz by rw [hl x (by simp), Nat.succ_mul, Nat.add_comm],
        List.drop_length_add_append]
def OV (γ : Places) (w : World) : Option AV → Option Value → Prop
  | none, none => True
  | some a, some v => VR γ w a v
  | _, _ => False
def bnd (x : Option AV) (d : Nat) : Option Nat :=
  match x with
  | none => some d
  | some (.int _ n) => if 0 ≤ n then some n.toNat else none
  | some _ => none
theorem bnd_inv {x : Option AV} {v : Option Value} {d l : Nat} (hv : OV γ w x v) (h : bnd x d = some l) : (v = none ∧ x = none ∧ l = d) ∨ ∃ k, v = some (.int k (l : Int)) := by
  unfold bnd at h
  split at h
  · cases v with
    | none => simp at h; exact .inl ⟨rfl, rfl, h.symm⟩
    | some v => simp [OV] at hv
  · cases v with
    | none => simp [OV] at hv
    | some v =>
      simp only [OV, VR] at hv
      subst hv
      rename_i k n
      split at h
      · simp only [Option.some.injEq] at h
        have : (l : Int) = n := by omega
        exact .inr ⟨k, by rw [this]⟩
      · cases h
  · cases h

theorem run_sliceBound {k : IntKind} {l y : Nat} {code : BoundsCode} (h : l ≤ y) : (Instr.sliceBound (.int k (l : Int)) y code).run C.P w = .ok l w := by
  have h1 : (0 : Int) ≤ (l : Int) ∧ (l : Int) ≤ (y : Int) := by omega
  simp [Instr.sliceBound, asIntOf, h]

theorem run_sliceBounds {isSl : Bool} {len cap l h m : Nat} {lo hi mx : Option Value} (hm : (mx = none ∧ m = cap) ∨ ((∃ k, mx = some (.int k (m : Int))) ∧ m ≤ cap ∧ ∃ v, hi = some v))
    (hh : (hi = none ∧ h = len) ∨ ((∃ k, hi = some (.int k (h : Int))) ∧ h ≤ m)) (hl : (lo = none ∧ l = 0) ∨ ((∃ k, lo = some (.int k (l : Int))) ∧ l ≤ h)) :
    (Instr.sliceBounds isSl len cap lo hi mx).run C.P w = .ok (l, h, m) w := by
  rcases hm with ⟨rfl, rfl⟩ | ⟨⟨k, rfl⟩, hm, v, hv⟩
  · rcases hh with ⟨rfl, rfl⟩ | ⟨⟨k', rfl⟩, hh⟩ <;> rcases hl with ⟨rfl, rfl⟩ | ⟨⟨k'', rfl⟩, hl⟩ <;> simp [Instr.sliceBounds, run_sliceBound, *]
  · rcases hh with ⟨rfl, rfl⟩ | ⟨⟨k', rfl⟩, hh⟩
    · cases hv
    · rcases hl with ⟨rfl, rfl⟩ | ⟨⟨k'', rfl⟩, hl⟩ <;> simp [Instr.sliceBounds, run_sliceBound, *]

def aSliceStr (s : List UInt8) (lo hi mx : Option AV) : Option AV :=
  match mx with
  | none => (bnd hi s.length).bind fun h => (bnd lo 0).bind fun l => if l ≤ h ∧ h ≤ s.length then some (.str ((s.take h).drop l)) else none
  | some _ => none
def aSliceVsl (esz : Nat) (es : List (List AV)) (ex : Bool) (lo hi mx : Option AV) : Option AV :=
  (bnd hi es.length).bind fun h => (bnd lo 0).bind fun l =>
    match mx with
    | none => if l ≤ h ∧ h ≤ es.length then some (.vsl esz ((es.take h).drop l) (ex && (h == es.length))) else none
    | some _ => (bnd mx 0).bind fun m => if hi.isSome = true ∧ l ≤ h ∧ h ≤ m ∧ m ≤ es.length then some (.vsl esz ((es.take h).drop l) (m == h)) else none
def aSliceSl (n r off len : Nat) (lim : Option Nat) (esz : Nat) (lo hi mx : Option AV) : Option AV :=
  (bnd hi len).bind fun h => (bnd lo 0).bind fun l =>
    match mx with
    | none => if l ≤ h ∧ (h ≤ len ∨ (lim = none ∧ off + h ≤ n)) then some (.sl r (off + l) (h - l) (lim.map (· - l)) esz) else none
    | some _ => (bnd mx 0).bind fun m => if hi.isSome = true ∧ l ≤ h ∧ h ≤ m ∧ (m ≤ len ∨ (lim = none ∧ off + m ≤ n)) then some (.sl r (off + l) (h - l) (some (m - l)) esz) else none
def aSliceAsl (r i off len cap esz : Nat) (lo hi mx : Option AV) : Option AV :=
  (bnd hi len).bind fun h => (bnd lo 0).bind fun l =>
    match mx with
    | none => if l ≤ h ∧ h ≤ cap then some (.asl r i (off + l * esz) (h - l) (cap - l) esz) else none
    | some _ => (bnd mx 0).bind fun m => if hi.isSome = true ∧ l ≤ h ∧ h ≤ m ∧ m ≤ cap then some (.asl r i (off + l * esz) (h - l) (m - l) esz) else none
/-- How many elements of an object are known. -/
def knownN (σ : Store) (r : Nat) : Nat := match σ[r]? with | some (some o) => o.length | _ => 0
def aSlice (C : Ctx) (σ : Store) (t : TypeId) (x : AV) (lo hi mx : Option AV) : Option AV :=
  match x with
  | .str s => if tyStr C t = true then aSliceStr s lo hi mx else none
  | .nilsl => (tySl C t).bind fun e => (tySize C e).bind fun _ => (bnd hi 0).bind fun h => (bnd lo 0).bind fun l => (bnd mx 0).bind fun m => if h = 0 ∧ l = 0 ∧ m = 0 ∧ (mx.isSome = true → hi.isSome = true) then some .nilsl else none
  | .vsl esz es ex => (tySl C t).bind fun e => (tySize C e).bind fun sz => if sz = esz then aSliceVsl esz es ex lo hi mx else none
  | .sl r off len lim esz => (tySl C t).bind fun e => (tySize C e).bind fun sz => if sz = esz then aSliceSl (knownN σ r) r off len lim esz lo hi mx else none
  | .asl r i off len cap esz => (tySl C t).bind fun e => (tySize C e).bind fun sz => if sz = esz then aSliceAsl r i off len cap esz lo hi mx else none
  | .ptr r i off => (tyArr C t).bind fun ne => (tySize C ne.2).bind fun sz => aSliceAsl r i off ne.1 ne.1 sz lo hi mx
  | _ => none

theorem extract_list (s : List UInt8) (l h : Nat) : (⟨s.toArray⟩ : ByteArray).extract l h = ⟨((s.take h).drop l).toArray⟩ := by
  have e : ((⟨s.toArray⟩ : ByteArray).extract l h).data = (s.toArray).extract l h := by simp
  cases hx : (⟨s.toArray⟩ : ByteArray).extract l h with
  | mk d =>
    rw [hx] at e
    simp only at e
    rw [e]
    congr 1
    apply Array.ext'
    simp [List.drop_take]

theorem slice_ok (hR : Rel C γ σ w) {t : TypeId} {x a : AV} {cx : Value} {lo hi mx : Option AV} {clo chi cmx : Option Value} (hx : VR γ w x cx) (hlo : OV γ w lo clo) (hhi : OV γ w hi chi) (hmx : OV γ w mx cmx)
    (h : aSlice C σ t x lo hi mx = some a) : ∃ v, (Instr.sliceAt t cx clo chi cmx).run C.P w = .ok v w ∧ VR γ w a v := by
  unfold aSlice at h
  split at h
  · -- a string
    rename_i s
    simp only [VR] at hx; subst hx
    split at h
    · rename_i hst
      have hu := tyStr_u hst
      unfold aSliceStr at h
      split at h
      · simp only [Option.bind_eq_some_iff] at h
        obtain ⟨hn, hh, ln, hln, h⟩ := h
        split at h
        · rename_i hle
          simp only [Option.some.injEq] at h; subst h
          have hm0 : cmx = none := by cases cmx <;> simp [OV] at hmx ⊢
          subst hm0
          have hb := run_sliceBounds (C := C) (w := w) (isSl := false) (len := s.length) (cap := s.length) (l := ln) (h := hn) (m := s.length) (lo := clo) (hi := chi) (mx := none) (.inl ⟨rfl, rfl⟩)
            (by rcases bnd_inv hhi hh with ⟨h1, _, h2⟩ | h1
                · exact .inl ⟨h1, h2⟩
                · exact .inr ⟨h1, hle.2⟩)
            (by rcases bnd_inv hlo hln with ⟨h1, _, h2⟩ | h1
                · exact .inl ⟨h1, h2⟩
                · exact .inr ⟨h1, hle.1⟩)
          refine ⟨.string ⟨((s.take hn).drop ln).toArray⟩, ?_, by simp only [VR]⟩
          simp [Instr.sliceAt, run_underlying hu, Instr.slice, ba_size, hb, extract_list]
        · cases h
      · cases h
    · cases h
  · -- nil
    simp only [VR] at hx; subst hx
    simp only [Option.bind_eq_some_iff] at h
    obtain ⟨e, he, sz, hsz, hn, hh, ln, hln, mn, hmn, h⟩ := h
    split at h
    · rename_i hz
      obtain ⟨rfl, rfl, rfl, hsome⟩ := hz
      simp only [Option.some.injEq] at h; subst h
      have hb := run_sliceBounds (C := C) (w := w) (isSl := true) (len := 0) (cap := 0) (l := 0) (h := 0) (m := 0) (lo := clo) (hi := chi) (mx := cmx)
        (by rcases bnd_inv hmx hmn with ⟨h1, _, _⟩ | h1
            · exact .inl ⟨h1, rfl⟩
            · refine .inr ⟨h1, Nat.le_refl _, ?_⟩
              obtain ⟨k, rfl⟩ := h1
              have : hi.isSome = true := hsome (by cases mx <;> simp [OV] at hmx ⊢)
              cases chi with
              | none => cases hi <;> simp [OV] at hhi this
              | some v => exact ⟨v, rfl⟩)
        (by rcases bnd_inv hhi hh with ⟨h1, _, _⟩ | h1
            · exact .inl ⟨h1, rfl⟩
            · exact .inr ⟨h1, Nat.le_refl _⟩)
        (by rcases bnd_inv hlo hln with ⟨h1, _, _⟩ | h1
            · exact .inl ⟨h1, rfl⟩
            · exact .inr ⟨h1, Nat.le_refl _⟩)
      exact ⟨.slice none 0 0, by simp [Instr.sliceAt, run_underlying (tySl_u he), Instr.slice, hb, run_sizeOf hsz], by simp only [VR]⟩
    · cases h
  · -- memory that nobody writes
    rename_i esz es ex
    simp only [Option.bind_eq_some_iff] at h
    obtain ⟨e, he, sz, hsz, h⟩ := h
    split at h
    · rename_i hez
      subst hez
      unfold aSliceVsl at h
      simp only [Option.bind_eq_some_iff] at h
      obtain ⟨hn, hh, ln, hln, h⟩ := h
      simp only [VR] at hx
      obtain ⟨a, cap, rfl, hc1, hc2, key⟩ : ∃ a cap, cx = .slice (some a) es.length cap ∧ es.length ≤ cap ∧ (ex = true → cap = es.length) ∧
          ∀ m, ln ≤ hn → hn ≤ es.length → hn ≤ m → m ≤ cap → (Instr.sliceBounds true es.length cap clo chi cmx).run C.P w = .ok (ln, hn, m) w →
          ∀ ex' : Bool, (ex' = true → m = hn) → ∃ v, (Instr.sliceAt t (.slice (some a) es.length cap) clo chi cmx).run C.P w = .ok v w ∧ VR γ w (.vsl sz ((es.take hn).drop ln) ex') v := by
        rcases hx with ⟨rfl, a0, rfl⟩ | ⟨b, o, cap, vals, rfl, hc1, hc2, h1, h2, h3, h4⟩
        · refine ⟨a0, 0, rfl, by simp, fun _ => rfl, fun m hle1 hle2 hle3 hle4 hb ex' hex' => ?_⟩
          simp only [List.length_nil, Nat.le_zero] at hle2 hle4
          subst hle2 hle4
          simp only [Nat.le_zero] at hle1
          subst hle1
          simp only [List.length_nil] at hb
          exact ⟨.slice (some a0) 0 0, by simp [Instr.sliceAt, run_underlying (tySl_u he), Instr.slice, hb, run_sizeOf hsz], by simp only [VR]; exact .inl ⟨by simp, a0, rfl⟩⟩
        refine ⟨⟨b, o, none⟩, cap, rfl, hc1, hc2, ?_⟩
        have hfl := (VRss.flat.1 h4).length
        rw [flatten_length h3] at hfl
        intro m hle1 hle2 hle3 hle4 hb ex' hex'
        have hrun : (Instr.sliceAt t (.slice (some ⟨b, o, none⟩) es.length cap) clo chi cmx).run C.P w = .ok (.slice (some ⟨b, (if m = ln then o else o + ln * sz), none⟩) (hn - ln) (m - ln)) w := by
          by_cases hml : m = ln
          · subst hml
            simp [Instr.sliceAt, run_underlying (tySl_u he), Instr.slice, hb, run_sizeOf hsz]
          · simp [Instr.sliceAt, run_underlying (tySl_u he), Instr.slice, hb, run_sizeOf hsz, hml, addr_add]
        refine ⟨_, hrun, ?_⟩
        simp only [VR]
        right
        have hlen : ((es.take hn).drop ln).length = hn - ln := by simp; omega
        have hmul : ln * sz ≤ vals.length := by rw [← hfl]; exact Nat.mul_le_mul_right _ (by omega)
        have hflat : ((es.take hn).drop ln).flatten = (es.flatten.take (hn * sz)).drop (ln * sz) := by
          rw [flatten_drop _ _ (fun e h => h3 e (List.mem_of_mem_take h)), flatten_take _ _ h3]
        refine ⟨b, _, m - ln, (vals.take (hn * sz)).drop (ln * sz), by rw [hlen], by rw [hlen]; omega, fun hx => by rw [hlen]; have := hex' hx; omega, h1, ?_, fun e h => h3 e (List.mem_of_mem_take (List.mem_of_mem_drop h)), ?_⟩
        · by_cases hml : m = ln
          · have hz : (vals.take (hn * sz)).drop (ln * sz) = [] := by
              apply List.drop_of_length_le
              have : hn = ln := by omega
              simp [this]; omega
            rw [if_pos hml, hz]
            obtain ⟨c, ty, fz, pre, post, k1, k2, k3⟩ := h2
            exact ⟨c, ty, fz, pre, vals ++ post, k1, by simp [k2, List.append_assoc], k3⟩
          · rw [if_neg hml]
            have := h2.sub (ln * sz) (hn * sz - ln * sz) hmul
            rwa [← List.drop_take] at this
        · rw [VRss.flat, hflat]
          exact ((VRss.flat.1 h4).take _).drop _
      split at h
      · split at h
        · rename_i hle
          simp only [Option.some.injEq] at h; subst h
          have hm0 : cmx = none := by cases cmx <;> simp [OV] at hmx ⊢
          subst hm0
          refine key cap hle.1 hle.2 (by omega) (Nat.le_refl _) (run_sliceBounds (.inl ⟨rfl, rfl⟩) ?_ ?_) _ ?_
          · rcases bnd_inv hhi hh with ⟨k1, _, k2⟩ | k1
            · exact .inl ⟨k1, k2⟩
            · exact .inr ⟨k1, by omega⟩
          · rcases bnd_inv hlo hln with ⟨k1, _, k2⟩ | k1
            · exact .inl ⟨k1, k2⟩
            · exact .inr ⟨k1, hle.1⟩
          · intro hx
            simp only [Bool.and_eq_true, beq_iff_eq] at hx
            have := hc2 hx.1
            omega
        · cases h
      · simp only [Option.bind_eq_some_iff] at h
        obtain ⟨mn, hmn, h⟩ := h
        split at h
        · rename_i mx' hle
          simp only [Option.some.injEq] at h; subst h
          have hmm : ∃ k, cmx = some (.int k (mn : Int)) := by
            rcases bnd_inv hmx hmn with ⟨_, k1, _⟩ | k1
            · cases k1
            · exact k1
          have hhv : ∃ v, chi = some v := by
            cases chi with
            | none => have := hle.1; cases hi <;> simp [OV] at hhi this
            | some v => exact ⟨v, rfl⟩
          refine key mn hle.2.1 (by omega) hle.2.2.1 (by omega) (run_sliceBounds (.inr ⟨hmm, by omega, hhv⟩) ?_ ?_) _ ?_
          · rcases bnd_inv hhi hh with ⟨k1, _, k2⟩ | k1
            · exact .inl ⟨k1, k2⟩
            · exact .inr ⟨k1, hle.2.2.1⟩
          · rcases bnd_inv hlo hln with ⟨k1, _, k2⟩ | k1
            · exact .inl ⟨k1, k2⟩
            · exact .inr ⟨k1, hle.2.1⟩
          · intro hx; simpa using hx
        · cases h
    · cases h
  · -- a row of one's own
    rename_i r off len lim esz
    simp only [Option.bind_eq_some_iff] at h
    obtain ⟨e, he, sz, hsz, h⟩ := h
    split at h
    · rename_i hez
      subst hez
      unfold aSliceSl at h
      simp only [Option.bind_eq_some_iff] at h
      obtain ⟨hn, hh, ln, hln, h⟩ := h
      simp only [VR] at hx
      obtain ⟨fl, pl, b, o, cap, hpl, he1, rfl, hok⟩ := hx
      have hkn : knownN σ r ≤ pl.n := by
        unfold knownN
        cases hq : σ[r]? with
        | none => simp
        | some x => cases x with
          | none => simp
          | some o => obtain ⟨pl', h1, h2⟩ := hR.alive r o hq; rw [hpl] at h1; cases h1; exact Nat.le_of_eq h2.len
      have key : ∀ m, ln ≤ hn → hn ≤ m → m ≤ cap → (Instr.sliceBounds true len cap clo chi cmx).run C.P w = .ok (ln, hn, m) w →
          ∀ lim' : Option Nat, (∀ c, lim' = some c → m - ln = c) → (lim' = none → pl.n ≤ off + m) → ∃ v, (Instr.sliceAt t (.slice (some ⟨b, o, none⟩) len cap) clo chi cmx).run C.P w = .ok v w ∧ VR γ w (.sl r (off + ln) (hn - ln) lim' sz) v := by
        intro m hle1 hle3 hle4 hb lim' hlim1 hlim2
        have hrun : (Instr.sliceAt t (.slice (some ⟨b, o, none⟩) len cap) clo chi cmx).run C.P w = .ok (.slice (some ⟨b, (if m = ln then o else o + ln * sz), none⟩) (hn - ln) (m - ln)) w := by
          by_cases hml : m = ln
          · subst hml
            simp [Instr.sliceAt, run_underlying (tySl_u he), Instr.slice, hb, run_sizeOf hsz]
          · simp [Instr.sliceAt, run_underlying (tySl_u he), Instr.slice, hb, run_sizeOf hsz, hml, addr_add]
        refine ⟨_, hrun, ?_⟩
        simp only [VR]
        refine ⟨fl, pl, b, _, m - ln, hpl, he1, rfl, ⟨by omega, hlim1, fun hz => by have := hlim2 hz; omega, ?_, fun hne => ?_, hok.blk, ?_⟩⟩
        · have := hok.inside
          have h2 : off + ln + (m - ln) ≤ off + cap := by omega
          have h3 := Nat.mul_le_mul_right pl.esz h2
          omega
        · have hcap : cap ≠ 0 := by omega
          obtain ⟨rfl, rfl⟩ := hok.at_ hcap
          rw [if_neg (by omega), he1]
          exact ⟨rfl, by rw [Nat.add_mul, Nat.add_assoc]⟩
        · by_cases hml : m = ln
          · rw [if_pos hml]; exact hok.ole
          · rw [if_neg hml]
            obtain ⟨rfl, rfl⟩ := hok.at_ (by omega)
            have h2 : off + ln ≤ off + cap := by omega
            have h3 := Nat.mul_le_mul_right pl.esz h2
            have := hok.inside
            rw [Nat.add_mul] at h3
            rw [← he1]
            omega
      split at h
      · split at h
        · rename_i hle
          simp only [Option.some.injEq] at h; subst h
          have hm0 : cmx = none := by cases cmx <;> simp [OV] at hmx ⊢
          subst hm0
          have hcap : hn ≤ cap := by
            rcases hle.2 with h1 | ⟨h1, h2⟩
            · have := hok.le; omega
            · have := hok.room h1; omega
          refine key cap hle.1 hcap (Nat.le_refl _) (run_sliceBounds (.inl ⟨rfl, rfl⟩) ?_ ?_) _ ?_ ?_
          · rcases bnd_inv hhi hh with ⟨k1, _, k2⟩ | k1
            · exact .inl ⟨k1, k2⟩
            · exact .inr ⟨k1, hcap⟩
          · rcases bnd_inv hlo hln with ⟨k1, _, k2⟩ | k1
            · exact .inl ⟨k1, k2⟩
            · exact .inr ⟨k1, hle.1⟩
          · intro c hc
            simp only [Option.map_eq_some_iff] at hc
            obtain ⟨c', hc', rfl⟩ := hc
            rw [hok.lim_ c' hc']
          · intro hc
            simp only [Option.map_eq_none_iff] at hc
            exact hok.room hc
        · cases h
      · simp only [Option.bind_eq_some_iff] at h
        obtain ⟨mn, hmn, h⟩ := h
        split at h
        · rename_i mx' hle
          simp only [Option.some.injEq] at h; subst h
          have hmm : ∃ k, cmx = some (.int k (mn : Int)) := by
            rcases bnd_inv hmx hmn with ⟨_, k1, _⟩ | k1
            · cases k1
            · exact k1
          have hhv : ∃ v, chi = some v := by
            cases chi with
            | none => have := hle.1; cases hi <;> simp [OV] at hhi this
            | some v => exact ⟨v, rfl⟩
          have hcap : mn ≤ cap := by
            rcases hle.2.2.2 with h1 | ⟨h1, h2⟩
            · have := hok.le; omega
            · have := hok.room h1; omega
          refine key mn hle.2.1 hle.2.2.1 hcap (run_sliceBounds (.inr ⟨hmm, hcap, hhv⟩) ?_ ?_) _ ?_ ?_
          · rcases bnd_inv hhi hh with ⟨k1, _, k2⟩ | k1
            · exact .inl ⟨k1, k2⟩
            · exact .inr ⟨k1, hle.2.2.1⟩
          · rcases bnd_inv hlo hln with ⟨k1, _, k2⟩ | k1
            · exact .inl ⟨k1, k2⟩
            · exact .inr ⟨k1, hle.2.1⟩
          · intro c hc; simpa using hc
          · intro hc; cases hc
        · cases h
    · cases h
  · -- an array's slice
    rename_i r i off len cap esz
    simp only [Option.bind_eq_some_iff] at h
    obtain ⟨e, he, sz, hsz, h⟩ := h
    split at h
    · rename_i hez
      subst hez
      simp only [VR] at hx
      obtain ⟨fl, pl, b, o, hpl, rfl, hle0, hat⟩ := hx
      unfold aSliceAsl at h
      simp only [Option.bind_eq_some_iff] at h
      obtain ⟨hn, hh, ln, hln, h⟩ := h
      have key : ∀ m, ln ≤ hn → hn ≤ m → m ≤ cap → (Instr.sliceBounds true len cap clo chi cmx).run C.P w = .ok (ln, hn, m) w →
          ∃ v, (Instr.sliceAt t (.slice (some ⟨b, o, none⟩) len cap) clo chi cmx).run C.P w = .ok v w ∧ VR γ w (.asl r i (off + ln * sz) (hn - ln) (m - ln) sz) v := by
        intro m hle1 hle3 hle4 hb
        have hrun : (Instr.sliceAt t (.slice (some ⟨b, o, none⟩) len cap) clo chi cmx).run C.P w = .ok (.slice (some ⟨b, (if m = ln then o else o + ln * sz), none⟩) (hn - ln) (m - ln)) w := by
          by_cases hml : m = ln
          · subst hml
            simp [Instr.sliceAt, run_underlying (tySl_u he), Instr.slice, hb, run_sizeOf hsz]
          · simp [Instr.sliceAt, run_underlying (tySl_u he), Instr.slice, hb, run_sizeOf hsz, hml, addr_add]
        refine ⟨_, hrun, ?_⟩
        simp only [VR]
        refine ⟨fl, pl, b, _, hpl, rfl, by omega, fun hne => ?_⟩
        obtain ⟨rfl, rfl⟩ := hat (by omega)
        rw [if_neg (by omega)]
        exact ⟨rfl, by rw [Nat.add_assoc]⟩
      split at h
      · split at h
        · rename_i hle
          simp only [Option.some.injEq] at h; subst h
          have hm0 : cmx = none := by cases cmx <;> simp [OV] at hmx ⊢
          subst hm0
          refine key cap hle.1 hle.2 (Nat.le_refl _) (run_sliceBounds (.inl ⟨rfl, rfl⟩) ?_ ?_)
          · rcases bnd_inv hhi hh with ⟨k1, _, k2⟩ | k1
            · exact .inl ⟨k1, k2⟩
            · exact .inr ⟨k1, hle.2⟩
          · rcases bnd_inv hlo hln with ⟨k1, _, k2⟩ | k1
            · exact .inl ⟨k1, k2⟩
            · exact .inr ⟨k1, hle.1⟩
        · cases h
      · simp only [Option.bind_eq_some_iff] at h
        obtain ⟨mn, hmn, h⟩ := h
        split at h
        · rename_i mx' hle
          simp only [Option.some.injEq] at h; subst h
          have hmm : ∃ k, cmx = some (.int k (mn : Int)) := by
            rcases bnd_inv hmx hmn with ⟨_, k1, _⟩ | k1
            · cases k1
            · exact k1
          have hhv : ∃ v, chi = some v := by
            cases chi with
            | none => have := hle.1; cases hi <;> simp [OV] at hhi this
            | some v => exact ⟨v, rfl⟩
          refine key mn hle.2.1 hle.2.2.1 hle.2.2.2 (run_sliceBounds (.inr ⟨hmm, hle.2.2.2, hhv⟩) ?_ ?_)
          · rcases bnd_inv hhi hh with ⟨k1, _, k2⟩ | k1
            · exact .inl ⟨k1, k2⟩
            · exact .inr ⟨k1, hle.2.2.1⟩
          · rcases bnd_inv hlo hln with ⟨k1, _, k2⟩ | k1
            · exact .inl ⟨k1, k2⟩
            · exact .inr ⟨k1, hle.2.1⟩
        · cases h
    · cases h
  · -- an array, by its address
    rename_i r i off
    simp only [Option.bind_eq_some_iff] at h
    obtain ⟨⟨n, e⟩, he, sz, hsz, h⟩ := h
    simp only [VR] at hx
    obtain ⟨fl, pl, hpl, rfl⟩ := hx
    unfold aSliceAsl at h
    simp only [Option.bind_eq_some_iff] at h
    obtain ⟨hn, hh, ln, hln, h⟩ := h
    have key : ∀ m, ln ≤ hn → hn ≤ m → m ≤ n → (Instr.sliceBounds false n n clo chi cmx).run C.P w = .ok (ln, hn, m) w →
        ∃ v, (Instr.sliceAt t (.pointer (some ⟨pl.b, pl.base + i * pl.esz + off, none⟩)) clo chi cmx).run C.P w = .ok v w ∧ VR γ w (.asl r i (off + ln * sz) (hn - ln) (m - ln) sz) v := by
      intro m hle1 hle3 hle4 hb
      have hrun : (Instr.sliceAt t (.pointer (some ⟨pl.b, pl.base + i * pl.esz + off, none⟩)) clo chi cmx).run C.P w =
          .ok (.slice (some ⟨pl.b, (if m = ln then pl.base + i * pl.esz + off else pl.base + i * pl.esz + off + ln * sz), none⟩) (hn - ln) (m - ln)) w := by
        by_cases hml : m = ln
        · subst hml
          simp [Instr.sliceAt, run_underlying (tyArr_u he), Instr.sureAddr, hb, run_sizeOf hsz]
        · simp [Instr.sliceAt, run_underlying (tyArr_u he), Instr.sureAddr, hb, run_sizeOf hsz, hml, addr_add]
      refine ⟨_, hrun, ?_⟩
      simp only [VR]
      refine ⟨fl, pl, pl.b, _, hpl, rfl, by omega, fun hne => ?_⟩
      rw [if_neg (by omega)]
      exact ⟨rfl, by rw [Nat.add_assoc]⟩
    split at h
    · split at h
      · rename_i hle
        simp only [Option.some.injEq] at h; subst h
        have hm0 : cmx = none := by cases cmx <;> simp [OV] at hmx ⊢
        subst hm0
        refine key n hle.1 hle.2 (Nat.le_refl _) (run_sliceBounds (.inl ⟨rfl, rfl⟩) ?_ ?_)
        · rcases bnd_inv hhi hh with ⟨k1, _, k2⟩ | k1
          · exact .inl ⟨k1, k2⟩
          · exact .inr ⟨k1, hle.2⟩
        · rcases bnd_inv hlo hln with ⟨k1, _, k2⟩ | k1
          · exact .inl ⟨k1, k2⟩
          · exact .inr ⟨k1, hle.1⟩
      · cases h
    · simp only [Option.bind_eq_some_iff] at h
      obtain ⟨mn, hmn, h⟩ := h
      split at h
      · rename_i mx' hle
        simp only [Option.some.injEq] at h; subst h
        have hmm : ∃ k, cmx = some (.int k (mn : Int)) := by
          rcases bnd_inv hmx hmn with ⟨_, k1, _⟩ | k1
          · cases k1
          · exact k1
        have hhv : ∃ v, chi = some v := by
          cases chi with
          | none => have := hle.1; cases hi <;> simp [OV] at hhi this
          | some v => exact ⟨v, rfl⟩
        refine key mn hle.2.1 hle.2.2.1 hle.2.2.2 (run_sliceBounds (.inr ⟨hmm, hle.2.2.2, hhv⟩) ?_ ?_)
        · rcases bnd_inv hhi hh with ⟨k1, _, k2⟩ | k1
          · exact .inl ⟨k1, k2⟩
          · exact .inr ⟨k1, hle.2.2.1⟩
        · rcases bnd_inv hlo hln with ⟨k1, _, k2⟩ | k1
          · exact .inl ⟨k1, k2⟩
          · exact .inr ⟨k1, hle.2.1⟩
      · cases h
  · cases h

/-! What a slice holds. -/
def chunk (esz : Nat) : Nat → List AV → List (List AV)
  | 0, _ => []
  | n + 1, cs => cs.take esz :: chunk esz n (cs.drop esz)
theorem chunk_flatten (esz n : Nat) (cs : List AV) (h : n * esz ≤ cs.length) : (chunk esz n cs).flatten = cs.take (n * esz) ∧ (chunk esz n cs).length = n ∧ ∀ e ∈ chunk esz n cs, e.length = esz := by
  induction n generalizing cs with
  | zero => simp [chunk]
  | succ n ih =>
    rw [Nat.succ_mul] at h ⊢
    obtain ⟨h1, h2, h3⟩ := ih (cs.drop esz) (by simp; omega)
    refine ⟨?_, by simp [chunk, h2], fun e he => ?_⟩
    · simp only [chunk, List.flatten_cons, h1]
      rw [Nat.add_comm (n * esz) esz, List.take_add]
    · simp only [chunk, List.mem_cons] at he
      rcases he with rfl | he
      · simp; omega
      · exact h3 e he
def slElems (σ : Store) : AV → Option (List (List AV))
  | .nilsl => some []
  | .vsl _ es _ => some es
  | .sl r off len _ _ => match σ[r]? with | some (some o) => if off + len ≤ o.length then some ((o.drop off).take len) else none | _ => none
  | .asl r i off len _ esz => match σ[r]? with | some (some o) => (o[i]?).bind fun cs => if off + len * esz ≤ cs.length then some (chunk esz len (cs.drop off)) else none | _ => none
  | _ => none

/-- What is known of the memory behind a slice value. -/
theorem slElems_ok (hR : Rel C γ σ w) {x : AV} {v : Value} {es : List (List AV)} (hx : VR γ w x v) (h : slElems σ x = some es) :
    ∃ a cap, v = .slice a es.length cap ∧ (es.length ≠ 0 → ∃ b o vals, a = some ⟨b, o, none⟩ ∧ Seg w b o vals ∧ VRs γ w es.flatten vals) ∧ (a = none → x = .nilsl) := by
  unfold slElems at h
  split at h
  · simp only [Option.some.injEq] at h; subst h
    simp only [VR] at hx; subst hx
    exact ⟨none, 0, rfl, by simp, by simp⟩
  · simp only [Option.some.injEq] at h; subst h
    simp only [VR] at hx
    rcases hx with ⟨rfl, a, rfl⟩ | ⟨b, o, cap, vals, rfl, _, _, _, h2, _, h4⟩
    · exact ⟨some a, 0, rfl, by simp, by simp⟩
    · exact ⟨_, cap, rfl, fun _ => ⟨b, o, vals, rfl, h2, VRss.flat.1 h4⟩, by simp⟩
  · rename_i r off len lim esz
    split at h
    · rename_i o ho
      split at h
      · rename_i hle
        simp only [Option.some.injEq] at h; subst h
        obtain ⟨pl, hpl, hok⟩ := hR.alive r o ho
        simp only [VR] at hx
        obtain ⟨fl, pl', b, p, cap, hpl', he1, rfl, hso⟩ := hx
        rw [hpl] at hpl'; cases hpl'
        have hlen : ((o.drop off).take len).length = len := by simp; omega
        refine ⟨some ⟨b, p, none⟩, cap, by rw [hlen], fun hne => ?_, by simp⟩
        rw [hlen] at hne
        obtain ⟨rfl, rfl⟩ := hso.at_ (by have := hso.le; omega)
        obtain ⟨c, ty, fz, pre, mid, post, h1, h2, h3, h4, h5, h6⟩ := hok.ex
        have e : o.flatten = (o.take off).flatten ++ ((o.drop off).take len).flatten ++ ((o.drop off).drop len).flatten := by
          conv => lhs; rw [← List.take_append_drop off o, ← List.take_append_drop len (o.drop off)]
          rw [List.flatten_append, List.flatten_append, List.append_assoc]
        rw [e] at h5
        obtain ⟨m12, m3, rfl, h7, h8⟩ := h5.append_inv
        obtain ⟨m1, m2, rfl, h9, h10⟩ := h7.append_inv
        have hl1 := h9.length
        rw [flatten_length (k := pl.esz) (fun e h => hok.esz e (List.mem_of_mem_take h)), List.length_take, Nat.min_eq_left (by omega)] at hl1
        exact ⟨pl.b, _, m2, rfl, ⟨c, ty, fz, pre ++ m1, m3 ++ post, h1, by simp [h2, List.append_assoc], by simp [h3, ← hl1]⟩, h10⟩
      · cases h
    · cases h
  · rename_i r i off len cap esz
    split at h
    · rename_i o ho
      simp only [Option.bind_eq_some_iff] at h
      obtain ⟨cs, hcs, h⟩ := h
      split at h
      · rename_i hle
        simp only [Option.some.injEq] at h; subst h
        obtain ⟨pl, hpl, hok⟩ := hR.alive r o ho
        simp only [VR] at hx
        obtain ⟨fl, pl', b, p, hpl', rfl, hle0, hat⟩ := hx
        rw [hpl] at hpl'; cases hpl'
        obtain ⟨hf, hl, _⟩ := chunk_flatten esz len (cs.drop off) (by simp; omega)
        refine ⟨some ⟨b, p, none⟩, cap, by rw [hl], fun hne => ?_, by simp⟩
        rw [hl] at hne
        obtain ⟨rfl, rfl⟩ := hat (by omega)
        obtain ⟨vals, h1, h2⟩ := hok.elem hcs
        have := h1.sub off (len * esz) (by rw [← h2.length]; omega)
        exact ⟨pl.b, _, _, rfl, this, by rw [hf]; exact (h2.drop _).take _⟩
      · cases h
    · cases h
  · cases h
end
end Am
end Go.Proofs.Ytkffgmpbhahioaa
