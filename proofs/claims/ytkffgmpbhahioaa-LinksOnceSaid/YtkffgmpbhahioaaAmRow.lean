/- THE ABSTRACT MACHINE, part 9: literals, make, append, copy, clear. -/
import Derived.Test.YtkffgmpbhahioaaAmMake
import Derived.IntWalk
set_option linter.unusedSimpArgs false
namespace Go.Proofs.Ytkffgmpbhahioaa
namespace Am

section
variable {C : Ctx} {γ : Places} {σ : Store} {w : World}

/-! Literals of structs and arrays. -/
def aFill (place : Nat → Option (Nat × Nat)) (cells : List AV) : List (Nat × AV) → Option (List AV)
  | [] => some cells
  | p :: rest => (place p.1).bind fun x => (cellsOf p.2).bind fun vs => if vs.length = x.2 ∧ x.1 + x.2 ≤ cells.length then aFill place (overw cells x.1 vs) rest else none
def VPs (γ : Places) (w : World) : List (Nat × AV) → List (Nat × Value) → Prop
  | [], vs => vs = []
  | p :: ps, vs => ∃ v vs', vs = v :: vs' ∧ v.1 = p.1 ∧ VR γ w p.2 v.2 ∧ VPs γ w ps vs'

theorem fill_step (off : Nat) : ∀ (l : List Value) (k : Nat) (cs : Array Value), off + k + l.length ≤ cs.size →
    ((l.zipIdx k).foldl (fun (cs : Array Value) (x : Value × Nat) => cs.setIfInBounds (off + x.2) x.1) cs).toList = cs.toList.take (off + k) ++ l ++ cs.toList.drop (off + k + l.length)
  | [], k, cs, h => by simp
  | v :: l, k, cs, h => by
    simp only [List.length_cons] at h
    have ih := fill_step off l (k + 1) (cs.setIfInBounds (off + k) v) (by simp; omega)
    simp only [List.zipIdx_cons, List.foldl_cons]
    rw [ih]
    have e := list_seg_step cs.toList (off + k) v l (by simp; omega)
    simpa [Array.toList_setIfInBounds, Nat.add_assoc] using e

theorem fill_ok {place : Nat → Option (Nat × Nat)} : ∀ (ps : List (Nat × AV)) (vs : List (Nat × Value)) (cells : List AV) (cc : Array Value) (r : List AV), VPs γ w ps vs → VRs γ w cells cc.toList → aFill place cells ps = some r →
    ∃ rc, Instr.fill place cc vs = some rc ∧ VRs γ w r rc.toList
  | [], vs, cells, cc, r, h, hc, ha => by
    simp only [VPs] at h; subst h
    simp only [aFill, Option.some.injEq] at ha; subst ha
    exact ⟨cc, rfl, hc⟩
  | p :: ps, vs, cells, cc, r, h, hc, ha => by
    simp only [VPs] at h
    obtain ⟨v, vs', rfl, h1, h2, h3⟩ := h
    simp only [aFill, Option.bind_eq_some_iff] at ha
    obtain ⟨⟨off, n⟩, hpl, us, hus, ha⟩ := ha
    split at ha
    · rename_i hcond
      simp only at hcond ha
      have hv := cellsOf_ok hus h2
      have hl := hv.length
      have hcl := hc.length
      have hsz : v.2.cells.size = n := by rw [← Array.length_toList]; omega
      have hcs : cc.size = cells.length := by rw [← Array.length_toList]; omega
      have hfold : (v.2.cells.zipIdx.foldl (fun (cs : Array Value) (x : Value × Nat) => cs.setIfInBounds (off + x.2) x.1) cc).toList = cc.toList.take off ++ v.2.cells.toList ++ cc.toList.drop (off + v.2.cells.toList.length) := by
        rw [← Array.foldl_toList, Array.toList_zipIdx]
        simpa using fill_step off v.2.cells.toList 0 cc (by rw [Array.length_toList]; omega)
      have hov : VRs γ w (overw cells off us) (v.2.cells.zipIdx.foldl (fun (cs : Array Value) (x : Value × Nat) => cs.setIfInBounds (off + x.2) x.1) cc).toList := by
        rw [hfold, ← hl]
        exact ((hc.take off).append hv).append (hc.drop _)
      obtain ⟨rc, h4, h5⟩ := fill_ok ps vs' (overw cells off us) _ r h3 hov ha
      refine ⟨rc, ?_, h5⟩
      obtain ⟨i, x⟩ := v
      simp only at h1 hsz h4
      subst h1
      simp only [Instr.fill, hpl, hsz]
      rw [if_neg (by simp; omega)]
      exact h4
    · cases ha

def stPlaces (C : Ctx) (t : TypeId) : Option (List (Nat × Nat)) :=
  match C.P.underlying t with
  | some (.struct fs) => fs.toList.mapM fun f => (tySize C f.type).map fun n => (f.offset, n)
  | _ => none
def aBuild (C : Ctx) (t : TypeId) (ps : List (Nat × AV)) : Option AV :=
  (tyZero C t).bind fun z => (cellsOf z).bind fun zc =>
    match stPlaces C t with
    | some pl => (aFill (pl[·]?) zc ps).map .agg
    | none => (tyArr C t).bind fun ne => (tySize C ne.2).bind fun n => (aFill (fun i => some (i * n, n)) zc ps).map .agg

theorem run_places (fs : Array Field) (pl : List (Nat × Nat)) (h : fs.toList.mapM (fun f => (tySize C f.type).map fun n => (f.offset, n)) = some pl) :
    (fs.mapM (m := Sem) fun f => do pure (f.offset, ← sizeOf f.type)).run C.P w = .ok pl.toArray w := by
  rw [Array.mapM_eq_mapM_toList]
  simp only [Sem.run_map]
  have : (fs.toList.mapM (m := Sem) fun f => do pure (f.offset, ← sizeOf f.type)).run C.P w = .ok pl w := by
    generalize fs.toList = l at h
    induction l generalizing pl with
    | nil => simp at h; subst h; simp
    | cons f l ih =>
      rw [List.mapM_cons] at h
      simp only [bind, Option.bind_eq_some_iff, Option.map_eq_some_iff, pure, Option.some.injEq] at h
      obtain ⟨x, ⟨n, hn, rfl⟩, pl', hpl, rfl⟩ := h
      rw [List.mapM_cons]
      simp only [Sem.run_bind, Sem.run_pure, run_sizeOf hn, Result.andThen_ok, ih pl' hpl]
  simp only [this, Result.andThen_ok]

theorem build_ok {t : TypeId} {ps : List (Nat × AV)} {parts : Array (Nat × Value)} {a : AV} (hp : VPs γ w ps parts.toList) (h : aBuild C t ps = some a) :
    ∃ v, (Instr.build t parts).run C.P w = .ok v w ∧ VR γ w a v := by
  simp only [aBuild, Option.bind_eq_some_iff] at h
  obtain ⟨z, hz, zc, hzc, h⟩ := h
  obtain ⟨zv, h1, h2⟩ := run_zeroValue (C := C) hz γ w
  have h3 := cellsOf_ok hzc h2
  split at h
  · rename_i pl hpl
    simp only [Option.map_eq_some_iff] at h
    obtain ⟨r, hr, rfl⟩ := h
    unfold stPlaces at hpl
    split at hpl
    · rename_i fs hu
      obtain ⟨rc, h4, h5⟩ := fill_ok ps parts.toList zc zv.cells r hp h3 hr
      refine ⟨.agg rc, ?_, by simp only [VR]; exact ⟨rc.toList, by simp, h5⟩⟩
      have hpr := run_places (C := C) (w := w) fs pl hpl
      have h4' : Instr.fill (pl.toArray[·]?) zv.cells parts.toList = some rc := by simpa using h4
      simp only [Instr.build, Sem.run_bind, h1, Result.andThen_ok, run_underlying hu, hpr, h4', Sem.run_pure]
    · cases hpl
  · simp only [Option.bind_eq_some_iff, Option.map_eq_some_iff] at h
    obtain ⟨⟨n, e⟩, hne, sz, hsz, r, hr, rfl⟩ := h
    obtain ⟨rc, h4, h5⟩ := fill_ok ps parts.toList zc zv.cells r hp h3 hr
    refine ⟨.agg rc, ?_, by simp only [VR]; exact ⟨rc.toList, by simp, h5⟩⟩
    simp only [Instr.build, Sem.run_bind, h1, Result.andThen_ok, run_underlying (tyArr_u hne), run_sizeOf hsz, h4, Sem.run_pure]

/-! Literals of slices: each element given, in order. -/
def aElems (sz : Nat) : List (Nat × AV) → Nat → Option (List (List AV))
  | [], _ => some []
  | p :: ps, k => if p.1 = k then (cellsOf p.2).bind fun vs => if vs.length = sz then (aElems sz ps (k + 1)).map (vs :: ·) else none else none
def aBuildSl (C : Ctx) (t : TypeId) (len : Nat) (ps : List (Nat × AV)) : Option AV :=
  (tySl C t).bind fun e => (tySize C e).bind fun sz => (tyZero C e).bind fun _ => if ps.length = len ∧ len * sz ≤ 16777216 then (aElems sz ps 0).map fun es => .vsl sz es true else none

theorem elems_ok {sz : Nat} : ∀ (ps : List (Nat × AV)) (vs : List (Nat × Value)) (k : Nat) (es : List (List AV)) (done : List AV) (cc : Array Value), VPs γ w ps vs → aElems sz ps k = some es → done.length = k * sz →
    cc.size = (k + ps.length) * sz → VRs γ w done (cc.toList.take (k * sz)) → ∃ rc, Instr.fill (fun i => some (i * sz, sz)) cc vs = some rc ∧ VRs γ w (done ++ es.flatten) rc.toList ∧ (∀ e ∈ es, e.length = sz) ∧ es.length = ps.length
  | [], vs, k, es, done, cc, h, he, hd, hc, hv => by
    simp only [VPs] at h; subst h
    simp only [aElems, Option.some.injEq] at he; subst he
    refine ⟨cc, rfl, ?_, by simp, rfl⟩
    simp only [List.length_nil, Nat.add_zero] at hc
    rw [List.take_of_length_le (by rw [Array.length_toList, hc]; exact Nat.le_refl _)] at hv
    simpa using hv
  | p :: ps, vs, k, es, done, cc, h, he, hd, hc, hv => by
    simp only [VPs] at h
    obtain ⟨v, vs', rfl, h1, h2, h3⟩ := h
    simp only [aElems] at he
    split at he
    · rename_i hpk
      simp only [Option.bind_eq_some_iff] at he
      obtain ⟨us, hus, he⟩ := he
      split at he
      · rename_i hul
        simp only [Option.map_eq_some_iff] at he
        obtain ⟨es', hes', rfl⟩ := he
        have hvc := cellsOf_ok hus h2
        have hl := hvc.length
        have hsz : v.2.cells.size = sz := by rw [← Array.length_toList]; omega
        simp only [List.length_cons] at hc
        have hkc : k * sz + sz ≤ cc.size := by
          rw [hc, ← Nat.succ_mul]; exact Nat.mul_le_mul_right _ (by omega)
        have hfold : (v.2.cells.zipIdx.foldl (fun (cs : Array Value) (x : Value × Nat) => cs.setIfInBounds (k * sz + x.2) x.1) cc).toList = cc.toList.take (k * sz) ++ v.2.cells.toList ++ cc.toList.drop (k * sz + v.2.cells.toList.length) := by
          rw [← Array.foldl_toList, Array.toList_zipIdx]
          simpa using fill_step (k * sz) v.2.cells.toList 0 cc (by rw [Array.length_toList, hsz]; omega)
        have hvl : v.2.cells.toList.length = sz := by rw [Array.length_toList]; exact hsz
        have htk : (cc.toList.take (k * sz)).length = k * sz := by rw [List.length_take, Array.length_toList]; omega
        obtain ⟨rc, h4, h5, h6, h7⟩ := elems_ok ps vs' (k + 1) es' (done ++ us) (v.2.cells.zipIdx.foldl (fun (cs : Array Value) (x : Value × Nat) => cs.setIfInBounds (k * sz + x.2) x.1) cc) h3 hes'
          (by rw [List.length_append, hd, hul, Nat.succ_mul])
          (by rw [← Array.length_toList, hfold]; simp only [List.length_append, List.length_take, List.length_drop, Array.length_toList, hsz]; rw [show k + 1 + ps.length = k + (ps.length + 1) by omega, ← hc]; omega)
          (by rw [hfold, Nat.succ_mul, List.take_append_of_le_length (by rw [List.length_append, htk, hvl]; exact Nat.le_refl _), List.take_of_length_le (by rw [List.length_append, htk, hvl]; exact Nat.le_refl _)]; exact hv.append hvc)
        refine ⟨rc, ?_, by simpa [List.append_assoc] using h5, fun e he => ?_, by simp [h7]⟩
        · obtain ⟨i, x⟩ := v
          simp only at h1 hsz h4
          rw [hpk] at h1
          subst h1
          simp only [Instr.fill, hsz]
          rw [if_neg (by simp; omega)]
          exact h4
        · simp only [List.mem_cons] at he
          rcases he with rfl | he
          · exact hul
          · exact h6 e he
      · cases he
    · cases he

theorem buildSl_ok (hR : Rel C γ σ w) {t : TypeId} {len : Nat} {ps : List (Nat × AV)} {parts : Array (Nat × Value)} {a : AV} (hp : VPs γ w ps parts.toList) (h : aBuildSl C t len ps = some a) :
    Out C γ w ((Instr.buildSlice t len parts).run C.P w) a σ := by
  simp only [aBuildSl, Option.bind_eq_some_iff] at h
  obtain ⟨e, he, sz, hsz, z, hz, h⟩ := h
  split at h
  · rename_i hc
    simp only [Option.map_eq_some_iff] at h
    obtain ⟨es, hes, rfl⟩ := h
    obtain ⟨zv, h1, _⟩ := run_zeroValue (C := C) hz γ w
    let zero : Array Value := if len * sz = 0 then #[] else zv.cells
    let cc : Array Value := (Array.range (len * sz)).map (zero[· % zero.size]!)
    obtain ⟨rc, h4, h5, h6, h7⟩ := elems_ok (γ := γ) (w := w) (sz := sz) ps parts.toList 0 es [] cc hp hes (by simp) (by simp [cc, hc.1]) (by simp [VRs])
    let w' : World := w.alloc (.cells rc e)
    obtain ⟨k1, k2, k3⟩ := hR.fresh (w' := w') (ob := .cells rc e) rfl rfl rfl rfl
    refine ⟨.slice (some ⟨w.heap.size, 0, none⟩) len len, γ, w', ?_, k1, k2, ?_⟩
    · have hle : ¬ (len * sz > 2 ^ 24) := by omega
      by_cases h0 : len * sz = 0
      · simp only [Instr.buildSlice, Sem.run_bind, run_underlying (tySl_u he), Result.andThen_ok, run_sizeOf hsz, hle, if_false, Sem.run_pure, if_pos h0]
        have : Instr.fill (fun i => some (i * sz, sz)) ((Array.range (len * sz)).map ((#[] : Array Value)[· % (#[] : Array Value).size]!)) parts.toList = some rc := by
          have := h4; simp only [cc, zero, if_pos h0] at this; exact this
        simp only [this, Sem.run_bind, newRow, run_newObj, Result.andThen_ok, Sem.run_pure]
        rfl
      · simp only [Instr.buildSlice, Sem.run_bind, run_underlying (tySl_u he), Result.andThen_ok, run_sizeOf hsz, hle, if_false, Sem.run_pure, if_neg h0, h1]
        have : Instr.fill (fun i => some (i * sz, sz)) ((Array.range (len * sz)).map (zv.cells[· % zv.cells.size]!)) parts.toList = some rc := by
          have := h4; simp only [cc, zero, if_neg h0] at this; exact this
        simp only [this, Sem.run_bind, newRow, run_newObj, Result.andThen_ok, Sem.run_pure]
        rfl
    · simp only [VR]
      have hl : es.length = len := h7.trans hc.1
      right
      refine ⟨w.heap.size, 0, len, rc.toList, by rw [hl], by omega, fun _ => hl.symm, k3, ⟨rc, e, (0, 0), [], [], by show (w.heap.push (Obj.cells rc e))[w.heap.size]? = _; rw [Array.getElem?_push_size], by simp only [List.nil_append, List.append_nil], rfl⟩, h6, ?_⟩
      rw [VRss.flat]
      exact VRs.mono k1 _ _ (by simpa using h5)
  · cases h

/-! make. -/
theorem zeros_list (z : Array Value) : ∀ (m : Nat), ((Array.range (m * z.size)).map (z[· % z.size]!)).toList = (List.replicate m z.toList).flatten
  | 0 => by simp
  | m + 1 => by
    have ih := zeros_list z m
    simp only [Array.toList_map, Array.toList_range] at ih ⊢
    rw [Nat.succ_mul, List.range_add, List.map_append, ih, List.replicate_succ', List.flatten_append]
    congr 1
    simp only [List.map_map, List.flatten_cons, List.flatten_nil, List.append_nil]
    apply List.ext_getElem?
    intro i
    simp only [List.getElem?_map, List.getElem?_range]
    by_cases hi : i < z.size
    · rw [List.getElem?_range hi]
      simp [Nat.mod_eq_of_lt hi, hi]
    · rw [List.getElem?_eq_none (by simp; omega), List.getElem?_eq_none (by simp; omega)]
      rfl

def aMake (C : Ctx) (σ : Store) (t : TypeId) (l c : AV) : Option (AV × Store) :=
  match l, c with
  | .int _ n, .int _ m => (tySl C t).bind fun e => (tySize C e).bind fun sz => (tyBytes C e).bind fun by_ => (tyZero C e).bind fun z => (cellsOf z).bind fun zc =>
      if 0 ≤ n ∧ n ≤ m ∧ m ≤ 4294967296 ∧ by_ ≤ 16384 ∧ zc.length = sz then some (.sl σ.length 0 n.toNat (some m.toNat) sz, σ ++ [some (List.replicate m.toNat zc)]) else none
  | _, _ => none
theorem make_ok (hR : Rel C γ σ w) {t : TypeId} {l c a : AV} {vl vc : Value} {σ' : Store} (hl : VR γ w l vl) (hc : VR γ w c vc) (h : aMake C σ t l c = some (a, σ')) :
    Out C γ w ((Instr.makeSlice t vl vc).run C.P w) a σ' := by
  unfold aMake at h
  split at h
  · rename_i k n k' m
    simp only [VR] at hl hc; subst hl; subst hc
    simp only [Option.bind_eq_some_iff] at h
    obtain ⟨e, he, sz, hsz, by_, hby, z, hz, zc, hzc, h⟩ := h
    split at h
    · rename_i hcond
      simp only [Option.some.injEq, Prod.mk.injEq] at h
      obtain ⟨rfl, rfl⟩ := h
      obtain ⟨h0, h1, h2, h3, h4⟩ := hcond
      obtain ⟨zv, hzv, hzr⟩ := run_zeroValue (C := C) hz γ w
      have hzcl := cellsOf_ok hzc hzr
      have hzsz : zv.cells.size = sz := by rw [← Array.length_toList, ← hzcl.length, h4]
      cases hi : C.P.info? e with
      | none => simp [tyBytes, hi] at hby
      | some i =>
        have hbyt : i.bytes = by_ := by simpa [tyBytes, hi] using hby
        have wn : IntKind.i64.wrap n = n := IntWalk.i64_in n (by omega)
        have wm : IntKind.i64.wrap m = m := IntWalk.i64_in m (by omega)
        have hmul : (by_ : Int) * m ≤ 2 ^ 48 := by
          have a1 : (by_ : Int) * m ≤ 16384 * m := Int.mul_le_mul_of_nonneg_right (by omega) (by omega)
          omega
        let cc : Array Value := (Array.range (m.toNat * sz)).map (fun j => (if m.toNat * sz = 0 then (#[] : Array Value) else zv.cells)[j % (if m.toNat * sz = 0 then (#[] : Array Value) else zv.cells).size]!)
        have hcc : cc.toList = (List.replicate m.toNat zv.cells.toList).flatten := by
          by_cases hz0 : m.toNat * sz = 0
          · have e1 : cc = #[] := by simp [cc, hz0]
            rw [e1]
            rcases Nat.mul_eq_zero.1 hz0 with h5 | h5
            · simp [h5]
            · have : zv.cells.toList = [] := List.eq_nil_of_length_eq_zero (by rw [Array.length_toList]; omega)
              simp [this]
          · have := zeros_list zv.cells m.toNat
            rw [hzsz] at this
            simpa [cc, hz0, hzsz] using this
        obtain ⟨k1, k2⟩ := hR.alloc (w' := w.alloc (.cells cc e)) (c := cc) (ty := e) (fz := (0, 0)) (o := List.replicate m.toNat zc) (esz := sz) (vals := (List.replicate m.toNat zv.cells.toList).flatten) (rest := [])
          rfl rfl rfl rfl (by simpa using hcc) (by
            clear hcc
            induction m.toNat with
            | zero => exact VRs.nil
            | succ q ih => simp only [List.replicate_succ, List.flatten_cons]; exact hzcl.append ih) (by intro x hx; rw [List.mem_replicate] at hx; rw [hx.2]; exact h4) (by simp)
        refine ⟨.slice (some ⟨w.heap.size, 0, none⟩) n.toNat m.toNat, _, _, ?_, k1, k2, ?_⟩
        · have e1 : decide (m < 0) = false := decide_eq_false (by omega)
          have e2 : decide ((by_ : Int) * m > 2 ^ 48) = false := decide_eq_false (by omega)
          have e3 : decide (n < 0) = false := decide_eq_false (by omega)
          have e4 : decide (n > m) = false := decide_eq_false (by omega)
          simp only [Instr.makeSlice, Sem.run_bind, run_underlying (tySl_u he), Result.andThen_ok, asInt, asIntOf, Sem.run_pure, typeInfo, run_program, hi, hbyt, wn, wm, e1, e2, e3, e4, Bool.or_self,
            Bool.false_eq_true, if_false, Sem.run_bind, run_askRoom, Result.andThen_ok, run_sizeOf hsz, Sem.run_ite, Sem.run_pure]
          by_cases hz0 : m.toNat * sz = 0
          · simp only [if_pos hz0, Result.andThen_ok, newRow, Sem.run_bind, run_newObj, Sem.run_pure]
            have : cc = (Array.range (m.toNat * sz)).map ((#[] : Array Value)[· % (#[] : Array Value).size]!) := by simp only [cc, if_pos hz0]
            rw [← this]; rfl
          · simp only [if_neg hz0, hzv, Result.andThen_ok, newRow, Sem.run_bind, run_newObj, Sem.run_pure]
            have : cc = (Array.range (m.toNat * sz)).map (zv.cells[· % zv.cells.size]!) := by simp only [cc, if_neg hz0]
            rw [← this]; rfl
        · simp only [VR]
          refine ⟨true, _, w.heap.size, 0, m.toNat, by rw [← hR.len, List.getElem?_concat_length], rfl, rfl, by omega, by simp, by simp, ?_, by simp, rfl, Nat.zero_le _⟩
          have : cc.size = m.toNat * sz := by simp [cc]
          simp [this]
    · cases h
  · cases h
end
end Am
end Go.Proofs.Ytkffgmpbhahioaa
