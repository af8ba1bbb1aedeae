/- THE ABSTRACT MACHINE, part 10: append, copy, clear. -/
import Derived.Test.YtkffgmpbhahioaaAmRow
namespace Go.Proofs.Ytkffgmpbhahioaa
namespace Am

section
variable {C : Ctx} {γ : Places} {σ : Store} {w : World}

def srcElems (σ : Store) (sz : Nat) (x : AV) : Option (List (List AV)) :=
  match x with
  | .str s => if sz = 1 then some (byteEs s) else none
  | .nilsl => some []
  | .vsl esz es _ => if esz = sz then some es else none
  | .sl r off len lim esz => if esz = sz then slElems σ (.sl r off len lim esz) else none
  | .asl r i off len cap esz => if esz = sz then slElems σ (.asl r i off len cap esz) else none
  | _ => none

theorem slElems_uni (hR : Rel C γ σ w) {r off len esz : Nat} {lim : Option Nat} {v : Value} {es : List (List AV)} (hx : VR γ w (.sl r off len lim esz) v) (h : slElems σ (.sl r off len lim esz) = some es) : ∀ e ∈ es, e.length = esz := by
  simp only [slElems] at h
  split at h
  · rename_i o ho
    split at h
    · simp only [Option.some.injEq] at h; subst h
      obtain ⟨pl, hpl, hok⟩ := hR.alive r o ho
      simp only [VR] at hx
      obtain ⟨fl, pl', _, _, _, hpl', he1, _⟩ := hx
      rw [hpl] at hpl'; cases hpl'
      intro e he
      rw [← he1]
      exact hok.esz e (List.mem_of_mem_drop (List.mem_of_mem_take he))
    · cases h
  · cases h

theorem firstCells_ok {a : Option Addr} {n cap sz k : Nat} {es : List (List AV)} (hmem : es.length ≠ 0 → ∃ b o vals, a = some ⟨b, o, none⟩ ∧ Seg w b o vals ∧ VRs γ w es.flatten vals) (hu : ∀ e ∈ es, e.length = sz) (hk : k ≤ es.length) :
    ∃ vals, (Builtin.firstCells sz k (.slice a n cap)).run C.P w = .ok (List.toArray vals) w ∧ VRs γ w (es.take k).flatten vals := by
  by_cases hz : es.length = 0
  · have : es = [] := List.eq_nil_of_length_eq_zero hz
    subst this
    simp only [List.length_nil, Nat.le_zero] at hk
    subst hk
    refine ⟨[], ?_, by simp [VRs]⟩
    cases a with
    | none => rfl
    | some a => simp [Builtin.firstCells, loadCells, loadCellsFrom]
  · obtain ⟨b, o, vals, rfl, h1, h2⟩ := hmem hz
    have hl := h2.length
    rw [flatten_length hu] at hl
    have h3 := h1.sub 0 (k * sz) (Nat.zero_le _)
    simp only [List.drop_zero, Nat.add_zero] at h3
    have h4 := run_loadCells_seg (C := C) h3
    have h5 : (vals.take (k * sz)).length = k * sz := by
      rw [List.length_take, ← hl]; exact Nat.min_eq_left (Nat.mul_le_mul_right _ hk)
    rw [h5] at h4
    exact ⟨vals.take (k * sz), by simp only [Builtin.firstCells, h4], by rw [flatten_take _ _ hu]; exact h2.take _⟩

theorem src_ok (hR : Rel C γ σ w) {x : AV} {v : Value} {sz : Nat} {ys : List (List AV)} (hx : VR γ w x v) (h : srcElems σ sz x = some ys) :
    (Builtin.lenOf v).run C.P w = .ok ys.length w ∧ (∀ e ∈ ys, e.length = sz) ∧ ∀ k, k ≤ ys.length → ∃ vals, (Builtin.firstCells sz k v).run C.P w = .ok (List.toArray vals) w ∧ VRs γ w (ys.take k).flatten vals := by
  unfold srcElems at h
  split at h
  · rename_i s
    split at h
    · rename_i hz
      simp only [Option.some.injEq] at h; subst h
      simp only [VR] at hx; subst hx
      refine ⟨by simp [Builtin.lenOf, ba_size, byteEs], by intro e he; simp only [byteEs, List.mem_map] at he; obtain ⟨b, _, rfl⟩ := he; simp [hz], fun k hk => ?_⟩
      have e1 : (byteEs s).take k = byteEs (s.take k) := by simp [byteEs, List.map_take]
      refine ⟨(s.take k).map fun b => Value.int .u8 b.toNat, ?_, by rw [e1, byteEs_flatten]; exact VRs_bytes _⟩
      have e2 : (⟨s.toArray⟩ : ByteArray).extract 0 k = ⟨(s.take k).toArray⟩ := by simpa using extract_list s 0 k
      simp only [Builtin.firstCells, e2, Sem.run_pure]
      congr 1
      apply Array.ext'
      simp
    · cases h
  · simp only [Option.some.injEq] at h; subst h
    simp only [VR] at hx; subst hx
    refine ⟨by simp [Builtin.lenOf], by simp, fun k hk => ⟨[], by rfl, by simp [VRs]⟩⟩
  · rename_i esz es ex
    split at h
    · rename_i hz
      subst hz
      simp only [Option.some.injEq] at h; subst h
      obtain ⟨a, cap, rfl, hmem, _⟩ := slElems_ok (C := C) hR hx rfl
      simp only [VR] at hx
      have h6 : ∀ e ∈ es, e.length = esz := by
        rcases hx with ⟨rfl, _⟩ | ⟨_, _, _, _, _, _, _, _, _, h6, _⟩
        · simp
        · exact h6
      exact ⟨by simp [Builtin.lenOf], h6, fun k hk => firstCells_ok hmem h6 hk⟩
    · cases h
  · rename_i r off len lim esz
    split at h
    · rename_i hz
      subst hz
      obtain ⟨a, cap, rfl, hmem, _⟩ := slElems_ok (C := C) hR hx h
      have hu := slElems_uni hR hx h
      exact ⟨by simp [Builtin.lenOf], hu, fun k hk => firstCells_ok hmem hu hk⟩
    · cases h
  · rename_i r i off len cap esz
    split at h
    · rename_i hz
      subst hz
      obtain ⟨a, cap', rfl, hmem, _⟩ := slElems_ok (C := C) hR hx h
      have hu : ∀ e ∈ ys, e.length = esz := by
        simp only [slElems] at h
        split at h
        · rename_i o ho
          simp only [Option.bind_eq_some_iff] at h
          obtain ⟨cs, hcs, h⟩ := h
          split at h
          · rename_i hle
            simp only [Option.some.injEq] at h; subst h
            exact (chunk_flatten esz len (cs.drop off) (by simp; omega)).2.2
          · cases h
        · cases h
      exact ⟨by simp [Builtin.lenOf], hu, fun k hk => firstCells_ok hmem hu hk⟩
    · cases h
  · cases h

theorem growBy_le (n : Nat) : ∀ (r c B : Nat), c ≤ B → Builtin.growBy n r c ≤ B * 2 ^ r + 192 * (2 ^ r - 1)
  | 0, c, B, h => by simp [Builtin.growBy]; exact h
  | r + 1, c, B, h => by
    simp only [Builtin.growBy]
    split
    · have h1 : B ≤ B * 2 ^ (r + 1) := Nat.le_mul_of_pos_right _ (by exact Nat.pos_of_ne_zero (by simp))
      omega
    · have ih := growBy_le n r (c + (c + 768) / 4) (2 * B + 192) (by omega)
      have e : (2 * B + 192) * 2 ^ r + 192 * (2 ^ r - 1) = B * 2 ^ (r + 1) + 192 * (2 ^ (r + 1) - 1) := by
        have hp : 1 ≤ 2 ^ r := Nat.one_le_two_pow
        rw [Nat.pow_succ, Nat.add_mul, Nat.mul_comm 2 B, Nat.mul_assoc, Nat.mul_comm 2 (2 ^ r)]
        generalize 2 ^ r = q at *
        generalize B * (q * 2) = z
        omega
      omega
theorem nsc_le {need old : Nat} (h : old < need) (hn : need ≤ 1073741824) : Builtin.nextslicecap need old ≤ 17179872064 := by
  unfold Builtin.nextslicecap
  split
  · omega
  · split
    · omega
    · have := growBy_le need 4 old 1073741824 (by omega)
      omega

/-- Where there is no room: a new row. -/
theorem run_append_new {sT xT e ty : TypeId} {d : TypeDesc} {sz by_ sLen sCap n : Nat} {zv vx : Value} {base : Option Addr} {v1 v2 : List Value} (hu : C.P.underlying sT = some (.slice e)) (hd : C.P.underlying xT = some d) (hdi : ∀ k, d ≠ .int k)
    (hsz : tySize C e = some sz) (hby : tyBytes C e = some by_) (hz : ∀ w, (zeroValue e).run C.P w = .ok zv w) (hzs : zv.cells.size = sz) (hlen : (Builtin.lenOf vx).run C.P w = .ok n w) (hroom : sCap < sLen + n) (hneed : sLen + n ≤ 1073741824) (hb : by_ ≤ 8192)
    (h1 : (Builtin.firstCells sz sLen (.slice base sLen sCap)).run C.P { w with drawn := w.drawn + 1 } = .ok v1.toArray { w with drawn := w.drawn + 1 })
    (h2 : (Builtin.firstCells sz n vx).run C.P { w with drawn := w.drawn + 1 } = .ok v2.toArray { w with drawn := w.drawn + 1 }) :
    ∃ (cap : Nat) (rest : List Value), sLen + n ≤ cap ∧ rest.length = (cap - (sLen + n)) * sz ∧
      (Builtin.append_ #[sT, xT] ty #[.slice base sLen sCap, vx]).run C.P w = .ok (.slice (some ⟨w.heap.size, 0, none⟩) (sLen + n) cap) { { w with drawn := w.drawn + 1 } with heap := w.heap.push (.cells (v1 ++ v2 ++ rest).toArray e) } := by
  cases hi : C.P.info? e with
  | none => simp [tySize, hi] at hsz
  | some i =>
    have hbyt : i.bytes = by_ := by simpa [tyBytes, hi] using hby
    let cap := (Question.appendCap (sLen + n) sCap e).cut (w.tape w.drawn (Question.appendCap (sLen + n) sCap e))
    have hcap : sLen + n ≤ cap := appendCap_ge _ _ _ _
    refine ⟨cap, (Builtin.zeroCells zv.cells (cap - (sLen + n))).toList, hcap, by simp [Builtin.zeroCells, hzs], ?_⟩
    have t2 : ¬ (Builtin.nextslicecap (sLen + n) sCap * i.bytes > 2 ^ 48) := by
      have := nsc_le hroom hneed
      rw [hbyt]
      have h3 : Builtin.nextslicecap (sLen + n) sCap * by_ ≤ 17179872064 * 8192 := Nat.mul_le_mul this hb
      omega
    have hinfo : ∀ w, (typeInfo e).run C.P w = .ok i w := fun w => by simp [typeInfo, hi]
    have hnr : ¬ (sLen + n ≤ sCap) := by omega
    have hq : (choose (.appendCap (sLen + n) sCap e)).run C.P w = .ok cap { w with drawn := w.drawn + 1 } := by
      rw [run_choose]; rfl
    simp only [Builtin.append_, List.getElem?_toArray, List.getElem?_cons_zero, List.getElem?_cons_succ, Sem.run_bind, run_underlying hu, Result.andThen_ok, run_sizeOf hsz, run_underlying hd, Sem.run_pure, Bool.false_eq_true, if_false, hlen, hnr]
    have t3 : ¬ (((sLen + n : Nat) : Int) > IntKind.i64.max ∧ (False ∨ i.bytes = 0)) := by
      rintro ⟨h, _⟩
      simp [IntKind.max, IntKind.signed, IntKind.bits] at h
      omega
    simp only [Sem.run_ite, hinfo, t3, t2, if_false, Sem.run_bind, Sem.run_pure, Result.andThen_ok, hq, run_askRoom, h1, Bool.not_false, if_true, h2, hz, newRow, run_newObj]
    have t4 : v1.toArray ++ v2.toArray ++ Builtin.zeroCells zv.cells (cap - (sLen + n)) = (v1 ++ v2 ++ (Builtin.zeroCells zv.cells (cap - (sLen + n))).toList).toArray := by
      apply Array.ext'
      simp
    rw [t4]

/-- Where there is room. -/
theorem run_append_in {sT xT e ty : TypeId} {d : TypeDesc} {sz sLen sCap n b o : Nat} {vx : Value} {v2 : List Value} {w' : World} (hu : C.P.underlying sT = some (.slice e)) (hd : C.P.underlying xT = some d) (hdi : ∀ k, d ≠ .int k)
    (hsz : tySize C e = some sz) (hlen : (Builtin.lenOf vx).run C.P w = .ok n w) (hroom : sLen + n ≤ sCap) (h2 : (Builtin.firstCells sz n vx).run C.P w = .ok v2.toArray w)
    (hst : (storeCells ⟨b, o + sLen * sz, none⟩ v2).run C.P w = .ok () w') :
    (Builtin.append_ #[sT, xT] ty #[.slice (some ⟨b, o, none⟩) sLen sCap, vx]).run C.P w = .ok (.slice (some ⟨b, o, none⟩) (sLen + n) sCap) w' := by
  simp only [Builtin.append_, List.getElem?_toArray, List.getElem?_cons_zero, List.getElem?_cons_succ, Sem.run_bind, run_underlying hu, Result.andThen_ok, run_sizeOf hsz, run_underlying hd, Sem.run_pure, Bool.false_eq_true, if_false, hlen, hroom, if_true,
    Bool.not_false, h2, addr_add, hst]

theorem run_append_same {sT xT e ty : TypeId} {d : TypeDesc} {sz sLen sCap : Nat} {base : Option Addr} {vx : Value} (hu : C.P.underlying sT = some (.slice e)) (hd : C.P.underlying xT = some d) (hdi : ∀ k, d ≠ .int k)
    (hsz : tySize C e = some sz) (hlen : (Builtin.lenOf vx).run C.P w = .ok 0 w) (hroom : sLen ≤ sCap) (h2 : (Builtin.firstCells sz 0 vx).run C.P w = .ok #[] w) :
    (Builtin.append_ #[sT, xT] ty #[.slice base sLen sCap, vx]).run C.P w = .ok (.slice base sLen sCap) w := by
  have hst : ∀ a : Addr, (storeCells a []).run C.P w = .ok () w := fun a => rfl
  cases base <;> simp only [Builtin.append_, List.getElem?_toArray, List.getElem?_cons_zero, List.getElem?_cons_succ, Sem.run_bind, run_underlying hu, Result.andThen_ok, run_sizeOf hsz, run_underlying hd, Sem.run_pure, Bool.false_eq_true, if_false, hlen,
    Nat.add_zero, hroom, if_true, Bool.not_false, h2, hst]

def aApp (σ : Store) (sz : Nat) (s : AV) (ys : List (List AV)) : Option (AV × Store) :=
  if ys.length = 0 then (slElems σ s).map fun _ => (s, σ) else
  match s with
  | .nilsl => if ys.length ≤ 1073741824 then some (.sl σ.length 0 ys.length none sz, σ ++ [some ys]) else none
  | .vsl esz es ex => if ex = true ∧ esz = sz ∧ es.length + ys.length ≤ 1073741824 then some (.sl σ.length 0 (es.length + ys.length) none sz, σ ++ [some (es ++ ys)]) else none
  | .sl r off len lim esz => match σ[r]? with
    | some (some o) => if esz = sz ∧ off + len ≤ o.length ∧ len + ys.length ≤ 1073741824 then
        (match lim with
         | none => if off + len + ys.length ≤ o.length then some (.sl r off (len + ys.length) none esz, σ.set r (some (o.take (off + len) ++ ys ++ o.drop (off + len + ys.length))))
             else some (.sl σ.length 0 (len + ys.length) none sz, σ.set r none ++ [some ((o.drop off).take len ++ ys)])
         | some c => if len + ys.length ≤ c then (if off + len + ys.length ≤ o.length then some (.sl r off (len + ys.length) (some c) esz, σ.set r (some (o.take (off + len) ++ ys ++ o.drop (off + len + ys.length)))) else none)
             else some (.sl σ.length 0 (len + ys.length) none sz, σ ++ [some ((o.drop off).take len ++ ys)])) else none
    | _ => none
  | _ => none
def aAppend (C : Ctx) (σ : Store) (sT xT : TypeId) (s x : AV) : Option (AV × Store) :=
  (tySl C sT).bind fun e => (tySize C e).bind fun sz => (tyBytes C e).bind fun by_ => (tyZero C e).bind fun z => (cellsOf z).bind fun zc => (srcElems σ sz x).bind fun ys =>
    if by_ ≤ 8192 ∧ zc.length = sz ∧ ((tySl C xT).isSome || tyStr C xT) = true then aApp σ sz s ys else none

theorem append_ok (hR : Rel C γ σ w) {sT xT ty : TypeId} {s x a : AV} {vs vx : Value} {σ' : Store} (hs : VR γ w s vs) (hx : VR γ w x vx) (h : aAppend C σ sT xT s x = some (a, σ')) :
    Out C γ w ((Builtin.append_ #[sT, xT] ty #[vs, vx]).run C.P w) a σ' := by
  simp only [aAppend, Option.bind_eq_some_iff] at h
  obtain ⟨e, he, sz, hsz, by_, hby, z, hz, zc, hzc, ys, hys, h⟩ := h
  split at h
  · rename_i hcond
    obtain ⟨hb, hzl, hxT⟩ := hcond
    have hu := tySl_u he
    obtain ⟨d, hd, hdi⟩ : ∃ d, C.P.underlying xT = some d ∧ ∀ k, d ≠ .int k := by
      cases hq : tySl C xT with
      | some e' => exact ⟨_, tySl_u hq, by simp⟩
      | none => simp only [hq, Option.isSome_none, Bool.false_or] at hxT; exact ⟨_, tyStr_u hxT, by simp⟩
    obtain ⟨zv, hzrun, hzs⟩ : ∃ zv, (∀ w, (zeroValue e).run C.P w = .ok zv w) ∧ zv.cells.size = sz := by
      unfold tyZero at hz
      cases hi : C.P.info? e with
      | none => simp [hi] at hz
      | some i => cases hiz : i.zero with
        | none => simp [hi, hiz] at hz
        | some v =>
          simp [hi, hiz] at hz
          refine ⟨v, fun w => by simp [zeroValue, typeInfo, hi, hiz], ?_⟩
          have := cellsOf_ok (γ := γ) (w := w) hzc (by rw [← hz]; exact ofV_ok γ w v)
          rw [← Array.length_toList, ← this.length, hzl]
    let w1 : World := { w with drawn := w.drawn + 1 }
    obtain ⟨s1, R1⟩ := hR.drawn (w' := w1) rfl rfl rfl rfl
    obtain ⟨hlen, huni, hfc⟩ := src_ok (C := C) hR hx hys
    -- a new row, over whatever elder elements
    have fresh : ∀ (base : Option Addr) (sLen sCap : Nat) (es : List (List AV)) (γk : Places) (σk : Store), Step γ w γk w → Rel C γk σk w → es.length = sLen → (∀ e ∈ es, e.length = sz) → sCap < sLen + ys.length → sLen + ys.length ≤ 1073741824 →
        (es.length ≠ 0 → ∃ b o vals, base = some ⟨b, o, none⟩ ∧ Seg w b o vals ∧ VRs γ w es.flatten vals) →
        Out C γ w ((Builtin.append_ #[sT, xT] ty #[.slice base sLen sCap, vx]).run C.P w) (.sl σk.length 0 (sLen + ys.length) none sz) (σk ++ [some (es ++ ys)]) := by
      intro base sLen sCap es γk σk hsk hRk hel heu hroom hneed hmem
      obtain ⟨sk1, Rk1⟩ := hRk.drawn (w' := w1) rfl rfl rfl rfl
      have hmem1 : es.length ≠ 0 → ∃ b o vals, base = some ⟨b, o, none⟩ ∧ Seg w1 b o vals ∧ VRs γ w1 es.flatten vals := fun hne => by
        obtain ⟨b, o, vals, k1, k2, k3⟩ := hmem hne
        exact ⟨b, o, vals, k1, k2, k3.mono s1⟩
      obtain ⟨v1, h1, r1⟩ := firstCells_ok (C := C) (γ := γ) (w := w1) (n := sLen) (cap := sCap) (k := sLen) hmem1 heu (by omega)
      obtain ⟨_, _, hfc1⟩ := src_ok (C := C) R1 (hx.mono s1) hys
      obtain ⟨v2, h2, r2⟩ := hfc1 ys.length (Nat.le_refl _)
      rw [List.take_of_length_le (by omega)] at r1
      rw [List.take_of_length_le (Nat.le_refl _)] at r2
      obtain ⟨cap, rest, hcap, hrest, hrun⟩ := run_append_new (C := C) (w := w) (ty := ty) hu hd hdi hsz hby hzrun hzs hlen hroom hneed hb h1 h2
      have l1 := r1.length; have l2 := r2.length
      rw [flatten_length heu] at l1
      rw [flatten_length huni] at l2
      have hall : ∀ e ∈ es ++ ys, e.length = sz := fun e he => by
        rcases List.mem_append.1 he with h | h
        · exact heu e h
        · exact huni e h
      obtain ⟨k1, k2⟩ := Rk1.alloc (w' := { w1 with heap := w1.heap.push (.cells (v1 ++ v2 ++ rest).toArray e) }) (c := (v1 ++ v2 ++ rest).toArray) (ty := e) (fz := (0, 0)) (o := es ++ ys) (esz := sz) (vals := v1 ++ v2) (rest := rest)
        rfl rfl rfl rfl (by simp) (by rw [List.flatten_append]; exact (r1.mono (hsk.trans sk1 |> fun t => ⟨t.keep, Nat.le_refl _, fun _ _ _ => rfl, t.new, rfl, rfl, rfl⟩)).append (r2.mono (hsk.trans sk1 |> fun t => ⟨t.keep, Nat.le_refl _, fun _ _ _ => rfl, t.new, rfl, rfl, rfl⟩))) hall (by simp)
      refine ⟨_, _, _, hrun, (hsk.trans sk1).trans k1, k2, ?_⟩
      simp only [VR]
      refine ⟨true, _, w.heap.size, 0, cap, by rw [← hRk.len, List.getElem?_concat_length], rfl, rfl, by omega, by simp, by simp [hel]; omega, ?_, by simp [w1], by simp [w1], Nat.zero_le _⟩
      simp only [List.size_toArray, List.length_append, hrest, ← l1, ← l2, hel, Nat.zero_add]
      rw [← Nat.add_mul, ← Nat.add_mul]
      exact Nat.mul_le_mul_right _ (by omega)
    unfold aApp at h
    split at h
    · -- nothing to append
      rename_i hy0
      simp only [Option.map_eq_some_iff, Prod.mk.injEq] at h
      obtain ⟨es, hes, rfl, rfl⟩ := h
      have : ys = [] := List.eq_nil_of_length_eq_zero hy0
      subst this
      obtain ⟨v2, h2, r2⟩ := hfc 0 (by simp)
      simp only [List.take_zero, List.flatten_nil, VRs] at r2
      subst r2
      obtain ⟨ad, cap, hvs, _, _⟩ := slElems_ok (C := C) hR hs hes
      have hcap : es.length ≤ cap := by
        unfold slElems at hes
        split at hes
        · simp only [Option.some.injEq] at hes; subst hes; simp
        · simp only [Option.some.injEq] at hes; subst hes
          simp only [VR] at hs
          rcases hs with ⟨rfl, _⟩ | ⟨b, o, cap', vals, hv', hle, _⟩
          · simp
          rw [hvs] at hv'; simp only [Value.slice.injEq] at hv'; omega
        · split at hes
          · rename_i o ho
            split at hes
            · simp only [Option.some.injEq] at hes
              obtain ⟨pl, hpl, _⟩ := hR.alive _ o ho
              simp only [VR] at hs
              obtain ⟨_, _, b, p, cap', _, _, hv', hok⟩ := hs
              rw [hvs] at hv'; simp only [Value.slice.injEq] at hv'
              have := hok.le; omega
            · cases hes
          · cases hes
        · split at hes
          · rename_i o ho
            obtain ⟨pl, hpl, _⟩ := hR.alive _ o ho
            simp only [VR] at hs
            obtain ⟨_, _, b, p, _, hv', hle, _⟩ := hs
            rw [hvs] at hv'; simp only [Value.slice.injEq] at hv'
            omega
          · cases hes
        · cases hes
      have hrun := run_append_same (C := C) (w := w) (ty := ty) (sz := sz) (base := ad) (sLen := es.length) (sCap := cap) hu hd hdi hsz (by simpa using hlen) hcap (by simpa using h2)
      rw [← hvs] at hrun
      exact Out.same hR hrun hs
    · rename_i hyne
      split at h
      · -- onto nil
        split at h
        · rename_i hle
          simp only [Option.some.injEq, Prod.mk.injEq] at h
          obtain ⟨rfl, rfl⟩ := h
          simp only [VR] at hs; subst hs
          have := fresh none 0 0 [] γ σ (Step.refl _ _) hR rfl (by simp) (by omega) (by omega) (by simp)
          simpa using this
        · cases h
      · -- onto a slice without room
        rename_i esz es ex
        split at h
        · rename_i hc
          simp only [Option.some.injEq, Prod.mk.injEq] at h
          obtain ⟨rfl, rfl⟩ := h
          obtain ⟨rfl, rfl, hle⟩ := hc
          obtain ⟨ad, cap, rfl, hmem, _⟩ := slElems_ok (C := C) hR hs rfl
          simp only [VR] at hs
          rcases hs with ⟨rfl, a1, hv'⟩ | ⟨b, o, cap', vals, hv', _, hex, _, _, h6, _⟩
          · simp only [Value.slice.injEq] at hv'
            exact fresh ad 0 cap [] γ σ (Step.refl _ _) hR rfl (by simp) (by omega) hle hmem
          simp only [Value.slice.injEq] at hv'
          exact fresh ad es.length cap es γ σ (Step.refl _ _) hR rfl h6 (by have := hex trivial; omega) hle hmem
        · cases h
      · -- onto a row of one's own
        rename_i r off len lim esz
        split at h
        · rename_i o ho
          split at h
          · rename_i hc
            obtain ⟨rfl, hol, hle⟩ := hc
            obtain ⟨pl, hpl, hok⟩ := hR.alive r o ho
            have hsl : slElems σ (.sl r off len lim esz) = some ((o.drop off).take len) := by simp [slElems, ho, hol]
            obtain ⟨ad, cap, hvs, hmem, hnil⟩ := slElems_ok (C := C) hR hs hsl
            clear hnil
            have heu := slElems_uni hR hs hsl
            have hel : ((o.drop off).take len).length = len := by simp; omega
            have hs' := hs
            simp only [VR] at hs
            obtain ⟨fl, pl', b, p, cap', hpl', he1, hvs', hso⟩ := hs
            rw [hpl] at hpl'; cases hpl'
            have hvv := hvs
            rw [hvs'] at hvs
            simp only [Value.slice.injEq] at hvs
            obtain ⟨hadd, hadd2, hcap⟩ := hvs
            clear hadd2
            subst hcap
            have hrl : r < σ.length := by
              rcases Nat.lt_or_ge r σ.length with h | h
              · exact h
              · simp [List.getElem?_eq_none h] at ho
            -- in place
            have inplace : ∀ lim' : Option Nat, off + len + ys.length ≤ o.length → len + ys.length ≤ cap' → (∀ c, lim' = some c → cap' = c) → (lim' = none → pl.n ≤ off + cap') →
                Out C γ w ((Builtin.append_ #[sT, xT] ty #[vs, vx]).run C.P w) (.sl r off (len + ys.length) lim' esz) (σ.set r (some (o.take (off + len) ++ ys ++ o.drop (off + len + ys.length)))) := by
              intro lim' hfit hroom hl1 hl2
              obtain ⟨v2, h2, r2⟩ := hfc ys.length (Nat.le_refl _)
              rw [List.take_of_length_le (Nat.le_refl _)] at r2
              obtain ⟨rfl, rfl⟩ := hso.at_ (by omega)
              have hoe : o = o.take (off + len) ++ (o.drop (off + len)).take ys.length ++ o.drop (off + len + ys.length) := by
                conv => lhs; rw [← List.take_append_drop (off + len) o, ← List.take_append_drop ys.length (o.drop (off + len)), List.drop_drop]
                simp [List.append_assoc]
              obtain ⟨w', hst, hst1, hst2⟩ := hR.storeFlat (o' := o.take (off + len) ++ ys ++ o.drop (off + len + ys.length)) ho hpl (by simp; omega)
                (fun e he => by
                  rcases List.mem_append.1 he with he | he
                  · rcases List.mem_append.1 he with he | he
                    · exact hok.esz e (List.mem_of_mem_take he)
                    · rw [he1]; exact huni e he
                  · exact hok.esz e (List.mem_of_mem_drop he))
                (p := (off + len) * esz) (A := (o.take (off + len)).flatten) (vs := ys.flatten) (B := (o.drop (off + len + ys.length)).flatten) (old := ((o.drop (off + len)).take ys.length).flatten)
                (by conv => lhs; rw [hoe]
                    simp [List.append_assoc])
                (by rw [flatten_length (k := esz) (fun e h => by rw [← he1]; exact hok.esz e (List.mem_of_mem_take h)), List.length_take, Nat.min_eq_left (by omega)])
                (by rw [flatten_length (k := esz) (fun e h => by rw [← he1]; exact hok.esz e (List.mem_of_mem_drop (List.mem_of_mem_take h))), flatten_length huni, List.length_take, List.length_drop, Nat.min_eq_left (by omega)])
                (by simp [List.append_assoc]) r2
              rw [hvs']
              refine ⟨_, γ, w', run_append_in (C := C) (w := w) (ty := ty) hu hd hdi hsz hlen hroom h2 (by rw [he1, Nat.add_assoc, ← Nat.add_mul]; exact hst), hst1, hst2, ?_⟩
              simp only [VR]
              exact ⟨true, pl, pl.b, _, cap', hpl, he1, rfl, hroom, hl1, hl2, hso.inside, fun _ => ⟨rfl, rfl⟩, rfl, hso.ole⟩
            split at h
            · split at h
              · rename_i hfit
                simp only [Option.some.injEq, Prod.mk.injEq] at h
                obtain ⟨rfl, rfl⟩ := h
                have := hso.room rfl
                rw [← hok.len] at this
                exact inplace none hfit (by omega) (by simp) (fun _ => hso.room rfl)
              · rename_i hnf
                simp only [Option.some.injEq, Prod.mk.injEq] at h
                obtain ⟨rfl, rfl⟩ := h
                obtain ⟨kk1, kk2⟩ := hR.kill hpl
                by_cases hroom : len + ys.length ≤ cap'
                · -- it goes into the elder row's room
                  obtain ⟨v2, h2, r2⟩ := hfc ys.length (Nat.le_refl _)
                  rw [List.take_of_length_le (Nat.le_refl _)] at r2
                  obtain ⟨rfl, rfl⟩ := hso.at_ (by omega)
                  obtain ⟨c, cty, fz, pre, mid, post, q1, q2, q3, q4, q5, q6⟩ := hok.ex
                  have hin := hso.inside
                  have hl2 := r2.length
                  rw [flatten_length huni] at hl2
                  have e0 : (off + len) * esz + ys.length * esz ≤ (off + cap') * esz := by rw [← Nat.add_mul]; exact Nat.mul_le_mul_right _ (by omega)
                  rw [he1] at hin
                  have hst := run_storeCells_own (C := C) pl.b (pl.base + (off + len) * esz) cty fz v2 0 c w q1 (by rw [← hl2, q4]; omega) r2.one_ q6
                  -- the row's cells behind
                  have hmidl := q5.length
                  rw [flatten_length (k := esz) (fun e h => by rw [← he1]; exact hok.esz e h)] at hmidl
                  have hsplit : o.flatten = (o.take off).flatten ++ ((o.drop off).take len).flatten ++ ((o.drop off).drop len).flatten := by
                    conv => lhs; rw [← List.take_append_drop off o, ← List.take_append_drop len (o.drop off)]
                    rw [List.flatten_append, List.flatten_append, List.append_assoc]
                  rw [hsplit] at q5
                  obtain ⟨m12, m3, rfl, q7, q8⟩ := q5.append_inv
                  obtain ⟨m1, m2, rfl, q9, q10⟩ := q7.append_inv
                  have lm1 := q9.length; have lm2 := q10.length
                  rw [flatten_length (k := esz) (fun e h => by rw [← he1]; exact hok.esz e (List.mem_of_mem_take h)), List.length_take, Nat.min_eq_left (by omega)] at lm1
                  rw [flatten_length heu, hel] at lm2
                  have hcl : c.toList.length = pl.tot := by rw [Array.length_toList, q4]
                  have htk : c.toList.take (pl.base + (off + len) * esz + 0) = pre ++ m1 ++ m2 := by
                    rw [q2, show pre ++ (m1 ++ m2 ++ m3) ++ post = (pre ++ m1 ++ m2) ++ (m3 ++ post) by simp [List.append_assoc]]
                    exact List.take_left' (by simp only [List.length_append, q3, ← lm1, ← lm2, Nat.add_mul]; omega)
                  rw [htk] at hst
                  have hnew : ∀ (q : List Value), q = pre ++ m1 ++ m2 ++ v2 ++ c.toList.drop (pl.base + (off + len) * esz + 0 + v2.length) → q.length = pl.tot := by
                    intro q hq
                    have e1 : (pre ++ m1 ++ m2).length = pl.base + (off + len) * esz := by simp only [List.length_append, q3, ← lm1, ← lm2, Nat.add_mul]; omega
                    rw [hq, List.length_append, List.length_append, e1, List.length_drop, hcl]; omega
                  obtain ⟨g1, g2⟩ := hR.replace (w' := w.setRow pl.b (pre ++ m1 ++ m2 ++ v2 ++ c.toList.drop (pl.base + (off + len) * esz + 0 + v2.length)).toArray) (r := r) (pl := pl)
                    (pl' := ⟨pl.b, pl.base + off * esz, esz, len + ys.length, pl.tot⟩) (o := (o.drop off).take len ++ ys) (c := (pre ++ m1 ++ m2 ++ v2 ++ c.toList.drop (pl.base + (off + len) * esz + 0 + v2.length)).toArray) (ty := cty) (fz := fz)
                    (pre := pre ++ m1) (mid := m2 ++ v2) (post := c.toList.drop (pl.base + (off + len) * esz + 0 + v2.length)) hrl hpl rfl (setRow_size _ _ _) (fun b hb => setRow_other w pl.b b _ hb) (setRow_heap w pl.b c _ cty fz q1) rfl rfl rfl
                    (by simp [List.append_assoc]) (by rw [List.length_append, q3, ← lm1]) (by rw [List.size_toArray]; exact hnew _ rfl) (by rw [List.flatten_append]; exact q10.append r2) (by rw [List.length_append, hel])
                    (fun e he => by
                      rcases List.mem_append.1 he with he | he
                      · exact heu e he
                      · exact huni e he)
                    (fun k hk => q6 k (by rw [List.size_toArray, hnew _ rfl] at hk; omega))
                  rw [hvs']
                  refine ⟨_, _, _, run_append_in (C := C) (w := w) (ty := ty) hu hd hdi hsz hlen hroom h2 (by rw [he1, Nat.add_assoc, ← Nat.add_mul]; exact hst), g1, g2, ?_⟩
                  simp only [VR]
                  refine ⟨true, ⟨pl.b, pl.base + off * esz, esz, len + ys.length, pl.tot⟩, pl.b, pl.base + off * pl.esz, cap', by rw [← hR.len, List.getElem?_append_right (by simp)]; simp, rfl, rfl, hroom, by simp, by simp; omega, ?_, fun _ => ⟨rfl, by simp [he1]⟩, rfl, hso.ole⟩
                  simp only [Nat.zero_add]
                  have : off * esz + cap' * esz = (off + cap') * esz := by rw [Nat.add_mul]
                  omega
                · -- a new row
                  have := fresh ad len cap' ((o.drop off).take len) (γ.set r (false, pl)) (σ.set r none) kk1 kk2 hel heu (by omega) hle hmem
                  rw [hel] at hvv
                  rw [hvv]
                  simpa using this
            · rename_i c
              have hc := hso.lim_ c rfl
              subst hc
              split at h
              · rename_i hroom
                split at h
                · rename_i hfit
                  simp only [Option.some.injEq, Prod.mk.injEq] at h
                  obtain ⟨rfl, rfl⟩ := h
                  exact inplace (some cap') hfit hroom (by simp) (by simp)
                · cases h
              · rename_i hroom
                simp only [Option.some.injEq, Prod.mk.injEq] at h
                obtain ⟨rfl, rfl⟩ := h
                have := fresh ad len cap' ((o.drop off).take len) γ σ (Step.refl _ _) hR hel heu (by omega) hle hmem
                rw [hel] at hvv
                rw [hvv]
                exact this
          · cases h
        · cases h
      · cases h
  · cases h
end
end Am
end Go.Proofs.Ytkffgmpbhahioaa
