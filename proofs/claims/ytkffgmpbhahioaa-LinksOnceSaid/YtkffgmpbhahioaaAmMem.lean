/- THE ABSTRACT MACHINE, part 3: loads, stores, new variables. -/
import Derived.Test.YtkffgmpbhahioaaAmStore
import Derived.Laws.CopyRow
import Derived.Laws.Cells
namespace Go.Proofs.Ytkffgmpbhahioaa
namespace Am

/-! What is asked of types. -/
def tyAgg (C : Ctx) (t : TypeId) : Option Bool :=
  match C.P.underlying t with
  | some (.struct _) => some true
  | some (.array _ _) => some true
  | some _ => some false
  | none => none
def tySize (C : Ctx) (t : TypeId) : Option Nat := (C.P.info? t).map (·.size)
def tyBytes (C : Ctx) (t : TypeId) : Option Nat := (C.P.info? t).map (·.bytes)
def tyZero (C : Ctx) (t : TypeId) : Option AV := ((C.P.info? t).bind (·.zero)).map ofV

theorem run_isAgg {C : Ctx} {t : TypeId} {b : Bool} (h : tyAgg C t = some b) (w : World) : (isAgg t).run C.P w = .ok b w := by
  unfold tyAgg at h
  cases hu : C.P.underlying t with
  | none => simp [hu] at h
  | some d => cases d <;> simp [hu] at h <;> subst h <;> simp [isAgg, run_underlying hu]
theorem run_sizeOf {C : Ctx} {t : TypeId} {n : Nat} (h : tySize C t = some n) (w : World) : (sizeOf t).run C.P w = .ok n w := by
  unfold tySize at h
  cases hu : C.P.info? t with
  | none => simp [hu] at h
  | some i => simp [hu] at h; subst h; simp [sizeOf, typeInfo, hu]
theorem run_zeroValue {C : Ctx} {t : TypeId} {a : AV} (h : tyZero C t = some a) (γ : Places) (w : World) : ∃ v, (zeroValue t).run C.P w = .ok v w ∧ VR γ w a v := by
  unfold tyZero at h
  cases hu : C.P.info? t with
  | none => simp [hu] at h
  | some i =>
    cases hz : i.zero with
    | none => simp [hu, hz] at h
    | some v =>
      simp [hu, hz] at h
      subst h
      exact ⟨v, by simp [zeroValue, typeInfo, hu, hz], ofV_ok γ w v⟩

/-- What an operation leaves. -/
def Out (C : Ctx) (γ : Places) (w : World) (r : Result Value) (v : AV) (σ' : Store) : Prop :=
  ∃ cv γ' w', r = .ok cv w' ∧ Step γ w γ' w' ∧ Rel C γ' σ' w' ∧ VR γ' w' v cv

section
variable {C : Ctx} {γ : Places} {σ : Store} {w : World}
theorem Out.same (hR : Rel C γ σ w) {r : Result Value} {v : AV} {cv : Value} (h : r = .ok cv w) (hv : VR γ w v cv) : Out C γ w r v σ := ⟨cv, γ, w, h, .refl _ _, hR, hv⟩

theorem addr_add (b o j : Nat) : (⟨b, o, none⟩ : Addr).add j = ⟨b, o + j, none⟩ := by unfold Addr.add; split <;> simp_all

theorem Seg.cell {b o : Nat} {vals : List Value} (h : Seg w b o vals) {j : Nat} {v : Value} (hj : vals[j]? = some v) : w.cell? ⟨b, o + j, none⟩ = some v := by
  obtain ⟨c, ty, fz, pre, post, h1, h2, h3⟩ := h
  have hjl : j < vals.length := by
    rcases Nat.lt_or_ge j vals.length with h | h
    · exact h
    · simp [List.getElem?_eq_none h] at hj
  have : c.toList[o + j]? = some v := by
    rw [h2, List.append_assoc, List.getElem?_append_right (by omega), List.getElem?_append_left (by omega), h3]
    rw [show o + j - o = j by omega]; exact hj
  simp [World.cell?, h1, ← this]

theorem Seg.sub {b o : Nat} {vals : List Value} (h : Seg w b o vals) (off n : Nat) (ho : off ≤ vals.length) : Seg w b (o + off) ((vals.drop off).take n) := by
  obtain ⟨c, ty, fz, pre, post, h1, h2, h3⟩ := h
  refine ⟨c, ty, fz, pre ++ vals.take off, (vals.drop off).drop n ++ post, h1, ?_, by simp [h3, List.length_take]; omega⟩
  rw [h2]
  conv => lhs; rw [← List.take_append_drop off vals, ← List.take_append_drop n (vals.drop off)]
  simp [List.append_assoc]

theorem run_loadCells_seg {b o : Nat} {vals : List Value} (h : Seg w b o vals) : (loadCells ⟨b, o, none⟩ vals.length).run C.P w = .ok vals.toArray w :=
  run_loadCells_list w ⟨b, o, none⟩ vals fun j v hj => by rw [addr_add]; exact h.cell hj

/-- The part of n cells from off on; one cell alone where the type is no struct and no array. -/
def subCells (cs : List AV) (off n : Nat) (ag : Bool) : Option AV :=
  if ag then (if off + n ≤ cs.length then some (.agg ((cs.drop off).take n)) else none) else cs[off]?

theorem run_loadVar_seg {t : TypeId} {b o off n : Nat} {ag : Bool} {cs : List AV} {vals : List Value} {a : AV} (hag : tyAgg C t = some ag) (hn : tySize C t = some n)
    (hs : Seg w b o vals) (hv : VRs γ w cs vals) (ha : subCells cs off n ag = some a) : ∃ v, (loadVar t ⟨b, o + off, none⟩).run C.P w = .ok v w ∧ VR γ w a v := by
  unfold subCells at ha
  cases ag with
  | true =>
    simp only [if_true] at ha
    split at ha
    · rename_i hle
      simp only [Option.some.injEq] at ha
      subst ha
      have hl := hv.length
      have h1 := hs.sub off n (by omega)
      have h2 := run_loadCells_seg (C := C) h1
      have h3 : ((vals.drop off).take n).length = n := by simp [List.length_take, List.length_drop]; omega
      rw [h3] at h2
      refine ⟨.agg ((vals.drop off).take n).toArray, ?_, ?_⟩
      · simp [loadVar, run_isAgg hag, run_sizeOf hn, h2]
      · simp only [VR]
        exact ⟨_, rfl, (hv.drop off).take n⟩
    · cases ha
  | false =>
    simp only [Bool.false_eq_true, if_false] at ha
    obtain ⟨v, h1, h2⟩ := hv.get ha
    refine ⟨v, ?_, h2.1⟩
    simp [loadVar, run_isAgg hag, hs.cell h1]

theorem flatten_at {o : AObj} {esz i : Nat} {cs : List AV} (he : ∀ e ∈ o, e.length = esz) (hi : o[i]? = some cs) :
    o.flatten = (o.take i).flatten ++ cs ++ (o.drop (i + 1)).flatten ∧ (o.take i).flatten.length = i * esz ∧ cs.length = esz := by
  have hlt : i < o.length := by
    rcases Nat.lt_or_ge i o.length with h | h
    · exact h
    · simp [List.getElem?_eq_none h] at hi
  have hcs : cs = o[i] := by rw [List.getElem?_eq_getElem hlt] at hi; exact (Option.some.inj hi).symm
  refine ⟨?_, ?_, he cs (by rw [hcs]; exact List.getElem_mem hlt)⟩
  · have e : o = o.take i ++ o[i] :: o.drop (i + 1) := by rw [← List.drop_eq_getElem_cons hlt, List.take_append_drop]
    conv => lhs; rw [e]
    rw [hcs, List.flatten_append, List.flatten_cons, List.append_assoc]
  · rw [flatten_length (k := esz) fun e h => he e (List.mem_of_mem_take h), List.length_take]
    congr 1; omega

theorem set_flatten {o : AObj} {i : Nat} {cs : List AV} (hi : i < o.length) : (o.set i cs).flatten = (o.take i).flatten ++ cs ++ (o.drop (i + 1)).flatten := by
  rw [List.set_eq_take_append_cons_drop, if_pos hi]
  simp

theorem ObjOK.elem {pl : Place} {o : AObj} (h : ObjOK γ w pl o) {i : Nat} {cs : List AV} (hi : o[i]? = some cs) : ∃ vals, Seg w pl.b (pl.base + i * pl.esz) vals ∧ VRs γ w cs vals := by
  obtain ⟨c, ty, fz, pre, mid, post, h1, h2, h3, h4, h5, h6⟩ := h.ex
  obtain ⟨hf, hl, hc⟩ := flatten_at h.esz hi
  rw [hf] at h5
  obtain ⟨m12, m3, rfl, h7, h8⟩ := h5.append_inv
  obtain ⟨m1, m2, rfl, h9, h10⟩ := h7.append_inv
  refine ⟨m2, ⟨c, ty, fz, pre ++ m1, m3 ++ post, h1, by simp [h2, List.append_assoc], ?_⟩, h10⟩
  simp [h3, ← h9.length, hl]

/-- A store into memory of one's own, wherever in the block: the run of 'storeCells'. -/
theorem run_storeCells_own (b o : Nat) (ty : TypeId) (fz : Nat × Nat) : ∀ (vs : List Value) (i : Nat) (cur : Array Value) (w : World), w.heap[b]? = some (.cells cur ty fz) → o + i + vs.length ≤ cur.size →
    (∀ v ∈ vs, v.oneCell' = true) → (∀ k, k < cur.size → (decide (fz.1 ≤ k) && decide (k < fz.2)) = false) →
    (storeCells ⟨b, o, none⟩ vs i).run C.P w = .ok () (w.setRow b (cur.toList.take (o + i) ++ vs ++ cur.toList.drop (o + i + vs.length)).toArray)
  | [], i, cur, w, hg, _, _, _ => by
    simp only [storeCells, List.append_nil, List.length_nil, Nat.add_zero, List.take_append_drop, Array.toArray_toList]
    rw [setRow_self w b cur ty fz hg]
    rfl
  | v :: rest, i, cur, w, hg, hl, h1, hz => by
    have hi : o + i < cur.size := by simp at hl; omega
    have hcell : w.cell? ⟨b, o + i, none⟩ = some cur[o + i] := by simp [World.cell?, hg, hi]
    have hfro : w.frozen? ⟨b, o + i, none⟩ = false := by simpa [World.frozen?, hg] using hz (o + i) hi
    have hst : (store ((⟨b, o, none⟩ : Addr).add i) v).run C.P w = .ok () (w.setRow b (cur.setIfInBounds (o + i) v)) := by
      rw [addr_add, run_store C.P w _ v _ (h1 v (by simp)), hcell]
      simp [hfro, setCell_eq_setRow w b (o + i) cur ty fz v hg]
    have ih := run_storeCells_own b o ty fz rest (i + 1) (cur.setIfInBounds (o + i) v) (w.setRow b (cur.setIfInBounds (o + i) v)) (setRow_heap w b cur _ ty _ hg) (by simp at hl ⊢; omega)
      (fun x hx => h1 x (by simp [hx])) (fun k hk => hz k (by simpa using hk))
    simp only [storeCells, Sem.run_bind, hst, Result.andThen_ok, ih, setRow_setRow]
    congr 3
    have e := list_seg_step cur.toList (o + i) v rest (by simp at hl ⊢; omega)
    simpa [Array.toList_setIfInBounds, Nat.add_assoc] using e

/-- A run of cells of an object is written anew. -/
theorem Rel.storeFlat (h : Rel C γ σ w) {r : Nat} {pl : Place} {o o' : AObj} (hr : σ[r]? = some (some o)) (hpl : γ[r]? = some (true, pl)) (hlen : o'.length = o.length) (he' : ∀ e ∈ o', e.length = pl.esz)
    {p : Nat} {A vs B old : List AV} {vals : List Value} (hf : o.flatten = A ++ old ++ B) (hA : A.length = p) (hold : old.length = vs.length) (hf' : o'.flatten = A ++ vs ++ B) (hv : VRs γ w vs vals) :
    ∃ w', (storeCells ⟨pl.b, pl.base + p, none⟩ vals).run C.P w = .ok () w' ∧ Step γ w γ w' ∧ Rel C γ (σ.set r (some o')) w' := by
  obtain ⟨pl', hpl', hok⟩ := h.alive r o hr
  rw [hpl] at hpl'; cases hpl'
  obtain ⟨c, ty, fz, pre, mid, post, h1, h2, h3, h4, h5, h6⟩ := hok.ex
  rw [hf] at h5
  obtain ⟨m12, m3, rfl, h7, h8⟩ := h5.append_inv
  obtain ⟨m1, m2, rfl, h9, h10⟩ := h7.append_inv
  have l1 := h9.length; have l2 := h10.length; have l3 := hv.length
  have hsz : c.size = pre.length + (m1.length + m2.length + m3.length) + post.length := by
    rw [← Array.length_toList, h2]; simp [Nat.add_assoc]
  have hst := run_storeCells_own (C := C) pl.b (pl.base + p) ty fz vals 0 c w h1 (by omega) hv.one_ h6
  have hlist : c.toList.take (pl.base + p + 0) ++ vals ++ c.toList.drop (pl.base + p + 0 + vals.length) = pre ++ (m1 ++ vals ++ m3) ++ post := by
    have e1 : c.toList.take (pl.base + p + 0) = pre ++ m1 := by
      rw [h2, show pre ++ (m1 ++ m2 ++ m3) ++ post = (pre ++ m1) ++ (m2 ++ m3 ++ post) by simp [List.append_assoc]]
      exact List.take_left' (by simp; omega)
    have e2 : c.toList.drop (pl.base + p + 0 + vals.length) = m3 ++ post := by
      rw [h2, show pre ++ (m1 ++ m2 ++ m3) ++ post = (pre ++ m1 ++ m2) ++ (m3 ++ post) by simp [List.append_assoc]]
      exact List.drop_left' (by simp; omega)
    rw [e1, e2]; simp [List.append_assoc]
  rw [hlist] at hst
  refine ⟨_, hst, ?_⟩
  refine h.write (r := r) (pl := pl) (o := o') (c := (pre ++ (m1 ++ vals ++ m3) ++ post).toArray) (ty := ty) (fz := fz) (pre := pre) (mid := m1 ++ vals ++ m3) (post := post)
    (by rw [hr]; simp) hpl (setRow_size _ _ _) (fun b hb => setRow_other w pl.b b _ hb) (setRow_heap w pl.b c _ ty fz h1) rfl rfl rfl rfl h3 ?_ ?_ (hlen.trans hok.len) he' ?_
  · simp; omega
  · rw [hf']; exact (h9.append hv).append h8
  · intro k hk; exact h6 k (by simp at hk; omega)

/-- Cells written over, from off on. -/
def overw (cs : List AV) (off : Nat) (vs : List AV) : List AV := cs.take off ++ vs ++ cs.drop (off + vs.length)
theorem overw_length {cs : List AV} {off : Nat} {vs : List AV} (h : off + vs.length ≤ cs.length) : (overw cs off vs).length = cs.length := by
  simp [overw, List.length_take, List.length_drop]; omega
theorem overw_split {cs : List AV} {off : Nat} {vs : List AV} (h : off + vs.length ≤ cs.length) : ∃ old, cs = cs.take off ++ old ++ cs.drop (off + vs.length) ∧ old.length = vs.length := by
  refine ⟨(cs.drop off).take vs.length, ?_, by simp [List.length_take, List.length_drop]; omega⟩
  conv => lhs; rw [← List.take_append_drop off cs, ← List.take_append_drop vs.length (cs.drop off), List.drop_drop]
  simp [List.append_assoc]

theorem Rel.storeElem (h : Rel C γ σ w) {r : Nat} {pl : Place} {o : AObj} (hr : σ[r]? = some (some o)) (hpl : γ[r]? = some (true, pl)) {i off : Nat} {cs vs : List AV} {vals : List Value}
    (hi : o[i]? = some cs) (hfit : off + vs.length ≤ cs.length) (hv : VRs γ w vs vals) :
    ∃ w', (storeCells ⟨pl.b, pl.base + i * pl.esz + off, none⟩ vals).run C.P w = .ok () w' ∧ Step γ w γ w' ∧ Rel C γ (σ.set r (some (o.set i (overw cs off vs)))) w' := by
  obtain ⟨pl', hpl', hok⟩ := h.alive r o hr
  rw [hpl] at hpl'; cases hpl'
  have hlt : i < o.length := by
    rcases Nat.lt_or_ge i o.length with h | h
    · exact h
    · simp [List.getElem?_eq_none h] at hi
  obtain ⟨hf, hl, hc⟩ := flatten_at hok.esz hi
  obtain ⟨old, ho1, ho2⟩ := overw_split hfit
  have hcl := overw_length hfit
  rw [Nat.add_assoc]
  refine h.storeFlat hr hpl (o' := o.set i (overw cs off vs)) (p := i * pl.esz + off) (A := (o.take i).flatten ++ cs.take off) (vs := vs) (B := cs.drop (off + vs.length) ++ (o.drop (i + 1)).flatten) (old := old)
    (by simp) (fun e he => ?_) ?_ ?_ ho2 ?_ hv
  · rcases List.mem_or_eq_of_mem_set he with he | rfl
    · exact hok.esz e he
    · omega
  · rw [hf]
    conv => lhs; rw [ho1]
    simp [List.append_assoc]
  · simp [hl, List.length_take]; omega
  · rw [set_flatten hlt]; simp [overw, List.append_assoc]

/-! Values as cells. -/
def cellsOf : AV → Option (List AV)
  | .any => none
  | .undef => none
  | .tup _ => none
  | .agg cs => some cs
  | .bool b => some [.bool b]
  | .int k n => some [.int k n]
  | .str s => some [.str s]
  | .nilp => some [.nilp]
  | .ptr r i off => some [.ptr r i off]
  | .vp cs => some [.vp cs]
  | .nilsl => some [.nilsl]
  | .vsl esz es ex => some [.vsl esz es ex]
  | .sl r off len lim esz => some [.sl r off len lim esz]
  | .asl r i off len cap esz => some [.asl r i off len cap esz]
  | .fn f caps => some [.fn f caps]
  | .nilfn => some [.nilfn]

theorem cells_of_one {v : Value} (h : v.oneCell' = true) : v.cells.toList = [v] := by
  cases v <;> simp [Value.oneCell', Value.cells] at h ⊢

theorem cellsOf_ok {a : AV} {v : Value} {cs : List AV} (h : cellsOf a = some cs) (hv : VR γ w a v) : VRs γ w cs v.cells.toList := by
  cases a <;> simp only [cellsOf, Option.some.injEq, reduceCtorEq] at h <;> subst h
  case agg cs =>
    simp only [VR] at hv
    obtain ⟨vs, rfl, h2⟩ := hv
    simpa [Value.cells] using h2
  all_goals
    have h1 : v.oneCell' = true := by
      simp only [VR] at hv
      first
        | (subst hv; rfl)
        | (rcases hv with ⟨rfl, _, rfl⟩ | ⟨_, _, _, _, rfl, _⟩ <;> rfl)
        | (obtain ⟨_, _, _, rfl, _⟩ := hv; rfl)
        | (obtain ⟨_, _, _, rfl⟩ := hv; rfl)
        | (obtain ⟨_, _, _, _, rfl, _⟩ := hv; rfl)
        | (obtain ⟨_, _, _, _, _, _, _, rfl, _⟩ := hv; rfl)
        | (obtain ⟨_, _, _, _, _, rfl, _⟩ := hv; rfl)
        | (obtain ⟨_, rfl, _⟩ := hv; rfl)
    rw [cells_of_one h1]
    exact .one ⟨hv, h1⟩

/-! Load. -/
def aLoad (C : Ctx) (σ : Store) (t : TypeId) : AV → Option AV
  | .ptr r i off => (tyAgg C t).bind fun ag => (tySize C t).bind fun n => match σ[r]? with | some (some o) => (o[i]?).bind fun cs => subCells cs off n ag | _ => none
  | .vp cs => (tyAgg C t).bind fun ag => (tySize C t).bind fun n => subCells cs 0 n ag
  | _ => none
theorem load_ok (hR : Rel C γ σ w) {t : TypeId} {p a : AV} {cp : Value} (hp : VR γ w p cp) (h : aLoad C σ t p = some a) : ∃ v, (Instr.loadAt t cp).run C.P w = .ok v w ∧ VR γ w a v := by
  unfold aLoad at h
  split at h
  · rename_i r i off
    simp only [Option.bind_eq_some_iff] at h
    obtain ⟨ag, hag, n, hn, h⟩ := h
    split at h
    · rename_i o ho
      simp only [Option.bind_eq_some_iff] at h
      obtain ⟨cs, hcs, h⟩ := h
      obtain ⟨pl, hpl, hok⟩ := hR.alive r o ho
      simp only [VR] at hp
      obtain ⟨fl, pl', hpl', rfl⟩ := hp
      rw [hpl] at hpl'; cases hpl'
      obtain ⟨vals, h1, h2⟩ := hok.elem hcs
      obtain ⟨v, h3, h4⟩ := run_loadVar_seg (C := C) hag hn h1 h2 h
      exact ⟨v, by simp [Instr.loadAt, Instr.sureAddr, h3], h4⟩
    · cases h
  · rename_i cs
    simp only [Option.bind_eq_some_iff] at h
    obtain ⟨ag, hag, n, hn, h⟩ := h
    simp only [VR] at hp
    obtain ⟨b, o, vals, rfl, _, h1, h2⟩ := hp
    obtain ⟨v, h3, h4⟩ := run_loadVar_seg (C := C) hag hn h1 h2 h
    simp only [Nat.add_zero] at h3
    exact ⟨v, by simp [Instr.loadAt, Instr.sureAddr, h3], h4⟩
  · cases h

/-! Store. -/
def aStore (C : Ctx) (σ : Store) (t : TypeId) (p v : AV) : Option Store :=
  (tySize C t).bind fun n => (cellsOf v).bind fun vs => if vs.length = n then
    (match p with
     | .ptr r i off => match σ[r]? with | some (some o) => (o[i]?).bind fun cs => if off + vs.length ≤ cs.length then some (σ.set r (some (o.set i (overw cs off vs)))) else none | _ => none
     | _ => none) else none
theorem store_ok (hR : Rel C γ σ w) {t : TypeId} {p v : AV} {cp cv : Value} {σ' : Store} (hp : VR γ w p cp) (hv : VR γ w v cv) (h : aStore C σ t p v = some σ') :
    ∃ w', (Instr.storeAt t cp cv).run C.P w = .ok () w' ∧ Step γ w γ w' ∧ Rel C γ σ' w' := by
  unfold aStore at h
  simp only [Option.bind_eq_some_iff] at h
  obtain ⟨n, hn, vs, hvs, h⟩ := h
  split at h
  · rename_i hlen
    split at h
    · rename_i r i off
      split at h
      · rename_i o ho
        simp only [Option.bind_eq_some_iff] at h
        obtain ⟨cs, hcs, h⟩ := h
        split at h
        · rename_i hfit
          simp only [Option.some.injEq] at h
          subst h
          obtain ⟨pl, hpl, hok⟩ := hR.alive r o ho
          simp only [VR] at hp
          obtain ⟨fl, pl', hpl', rfl⟩ := hp
          rw [hpl] at hpl'; cases hpl'
          have hcv := cellsOf_ok hvs hv
          obtain ⟨w', h1, h2, h3⟩ := hR.storeElem ho hpl hcs hfit hcv
          refine ⟨w', ?_, h2, h3⟩
          have hsz : cv.cells.size = n := by rw [← Array.length_toList, ← hcv.length]; exact hlen
          simp [Instr.storeAt, Instr.sureAddr, storeVar, run_sizeOf hn, hsz, h1]
        · cases h
      · cases h
    · cases h
  · cases h

/-! A new variable. -/
def aBox (σ : Store) (v : AV) : Option (AV × Store) := (cellsOf v).map fun cs => (.ptr σ.length 0 0, σ ++ [some [cs]])
theorem newVar_ok (hR : Rel C γ σ w) {t : TypeId} {v a : AV} {cv : Value} {σ' : Store} (hv : VR γ w v cv) (h : aBox σ v = some (a, σ')) :
    ∃ p γ' w', (newVar t cv).run C.P w = .ok p w' ∧ Step γ w γ' w' ∧ Rel C γ' σ' w' ∧ VR γ' w' a (.pointer (some p)) := by
  simp only [aBox, Option.map_eq_some_iff, Prod.mk.injEq] at h
  obtain ⟨cs, hcs, rfl, rfl⟩ := h
  have hcv := cellsOf_ok hcs hv
  obtain ⟨h1, h2⟩ := hR.alloc (w' := w.alloc (.cells cv.cells t)) (c := cv.cells) (ty := t) (fz := (0, 0)) (o := [cs]) (esz := cs.length) (vals := cv.cells.toList) (rest := [])
    rfl rfl rfl rfl (by simp) (by simpa using hcv) (by simp) (by simp)
  refine ⟨⟨w.heap.size, 0, none⟩, _, _, ?_, h1, h2, ?_⟩
  · simp [newVar, newRow]
  · simp only [VR]
    exact ⟨true, _, by rw [← hR.len, List.getElem?_concat_length], by simp⟩
def aAlloc (C : Ctx) (σ : Store) (t : TypeId) : Option (AV × Store) := (tyZero C t).bind (aBox σ)
theorem alloc_ok (hR : Rel C γ σ w) {t : TypeId} {a : AV} {σ' : Store} (h : aAlloc C σ t = some (a, σ')) : Out C γ w ((Instr.alloc t true (.tuple #[])).run C.P w) a σ' := by
  simp only [aAlloc, Option.bind_eq_some_iff] at h
  obtain ⟨z, hz, h⟩ := h
  obtain ⟨v, h1, h2⟩ := run_zeroValue hz γ w
  obtain ⟨p, γ', w', h3, h4, h5, h6⟩ := newVar_ok hR (t := t) h2 h
  exact ⟨.pointer (some p), γ', w', by simp [Instr.alloc, h1, h3], h4, h5, h6⟩
theorem box_ok (hR : Rel C γ σ w) {t : TypeId} {v a : AV} {cv : Value} {σ' : Store} (hv : VR γ w v cv) (h : aBox σ v = some (a, σ')) : Out C γ w ((Instr.box t cv).run C.P w) a σ' := by
  obtain ⟨p, γ', w', h3, h4, h5, h6⟩ := newVar_ok hR (t := t) hv h
  exact ⟨.pointer (some p), γ', w', by simp [Instr.box, h3], h4, h5, h6⟩
end
end Am
end Go.Proofs.Ytkffgmpbhahioaa
