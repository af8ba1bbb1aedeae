/- THE ABSTRACT MACHINE, part 11: copy, clear. -/
import Derived.Test.YtkffgmpbhahioaaAmGrow
namespace Go.Proofs.Ytkffgmpbhahioaa
namespace Am

section
variable {C : Ctx} {γ : Places} {σ : Store} {w : World}

def aCopy (C : Ctx) (σ : Store) (dT : TypeId) (d s : AV) : Option (AV × Store) :=
  (tySl C dT).bind fun e => (tySize C e).bind fun sz => (srcElems σ sz s).bind fun ys =>
    match d with
    | .nilsl => some (.int .i64 0, σ)
    | .sl r off len _ esz => match σ[r]? with
      | some (some o) => if esz = sz ∧ off + len ≤ o.length then some (.int .i64 (min ys.length len : Nat), σ.set r (some (o.take off ++ ys.take len ++ o.drop (off + min ys.length len)))) else none
      | _ => none
    | .asl r i off len _ esz => match σ[r]? with
      | some (some o) => (o[i]?).bind fun cs => if esz = sz ∧ off + len * esz ≤ cs.length then some (.int .i64 (min ys.length len : Nat), σ.set r (some (o.set i (overw cs off (ys.take len).flatten)))) else none
      | _ => none
    | _ => none

theorem store_nil (b : Addr) : (storeCells b []).run C.P w = .ok () w := rfl

theorem set_self {l : List (Option AObj)} {r : Nat} {x : Option AObj} (h : l[r]? = some x) : l.set r x = l := by
  apply List.ext_getElem?
  intro i
  rw [List.getElem?_set]
  by_cases e : r = i
  · subst e
    rw [if_pos rfl, h]
    split
    · rfl
    · rename_i hlt
      have := List.getElem?_eq_none (l := l) (i := r) (by simpa using hlt)
      rw [this] at h; cases h
  · rw [if_neg e]

theorem copy_ok (hR : Rel C γ σ w) {dT sT ty : TypeId} {d s a : AV} {vd vs : Value} {σ' : Store} (hd : VR γ w d vd) (hs : VR γ w s vs) (h : aCopy C σ dT d s = some (a, σ')) :
    Out C γ w ((Builtin.copy_ #[dT, sT] ty #[vd, vs]).run C.P w) a σ' := by
  simp only [aCopy, Option.bind_eq_some_iff] at h
  obtain ⟨e, he, sz, hsz, ys, hys, h⟩ := h
  have hu := tySl_u he
  obtain ⟨hlen, huni, hfc⟩ := src_ok (C := C) hR hs hys
  split at h
  · simp only [Option.some.injEq, Prod.mk.injEq] at h
    obtain ⟨rfl, rfl⟩ := h
    simp only [VR] at hd; subst hd
    obtain ⟨v2, h2, _⟩ := hfc 0 (Nat.zero_le _)
    refine Out.same hR (cv := .int .i64 0) ?_ VR.int
    simp only [Builtin.copy_, List.getElem?_toArray, List.getElem?_cons_zero, List.getElem?_cons_succ, Sem.run_bind, run_underlying hu, Result.andThen_ok, hlen, run_sizeOf hsz, Nat.min_zero, h2, Sem.run_pure, goInt]
    rfl
  · rename_i r off len lim esz
    split at h
    · rename_i o ho
      split at h
      · rename_i hc
        obtain ⟨rfl, hle⟩ := hc
        simp only [Option.some.injEq, Prod.mk.injEq] at h
        obtain ⟨rfl, rfl⟩ := h
        obtain ⟨pl, hpl, hok⟩ := hR.alive r o ho
        simp only [VR] at hd
        obtain ⟨fl, pl', b, p, cap, hpl', he1, rfl, hso⟩ := hd
        rw [hpl] at hpl'; cases hpl'
        obtain ⟨v2, h2, r2⟩ := hfc (min ys.length len) (Nat.min_le_left _ _)
        have htk : ys.take (min ys.length len) = ys.take len := by
          rcases Nat.le_total ys.length len with h | h
          · rw [Nat.min_eq_left h, List.take_of_length_le (Nat.le_refl _), List.take_of_length_le h]
          · rw [Nat.min_eq_right h]
        rw [htk] at r2
        have hrun : ∀ w', (storeCells ⟨b, p, none⟩ v2).run C.P w = .ok () w' → (Builtin.copy_ #[dT, sT] ty #[.slice (some ⟨b, p, none⟩) len cap, vs]).run C.P w = .ok (.int .i64 (min ys.length len : Nat)) w' := by
          intro w' hst
          have hm : Nat.min ys.length len = min ys.length len := rfl
          simp only [Builtin.copy_, List.getElem?_toArray, List.getElem?_cons_zero, List.getElem?_cons_succ, Sem.run_bind, run_underlying hu, Result.andThen_ok, hlen, run_sizeOf hsz, hm, h2, hst, Sem.run_pure, goInt]
        by_cases hz : min ys.length len = 0
        · have hv2 : v2 = [] := by
            have := r2.length
            rw [← htk, hz] at this
            simp only [List.take_zero, List.flatten_nil, List.length_nil] at this
            exact List.eq_nil_of_length_eq_zero this.symm
          subst hv2
          have e1 : o.take off ++ ys.take len ++ o.drop (off + min ys.length len) = o := by rw [← htk, hz]; simp
          rw [e1, set_self ho]
          exact Out.same hR (hrun w (store_nil _)) VR.int
        · obtain ⟨rfl, rfl⟩ := hso.at_ (by have := hso.le; omega)
          have hyl : (ys.take len).length = min ys.length len := by rw [List.length_take]; exact Nat.min_comm _ _
          have hoe : o = o.take off ++ (o.drop off).take (min ys.length len) ++ o.drop (off + min ys.length len) := by
            conv => lhs; rw [← List.take_append_drop off o, ← List.take_append_drop (min ys.length len) (o.drop off), List.drop_drop]
            simp [List.append_assoc]
          have huy : ∀ e ∈ ys.take len, e.length = esz := fun e h => huni e (List.mem_of_mem_take h)
          obtain ⟨w', hst, hst1, hst2⟩ := hR.storeFlat (o' := o.take off ++ ys.take len ++ o.drop (off + min ys.length len)) ho hpl (by simp only [List.length_append, List.length_take, List.length_drop]; omega)
            (fun e he => by
              rcases List.mem_append.1 he with he | he
              · rcases List.mem_append.1 he with he | he
                · exact hok.esz e (List.mem_of_mem_take he)
                · rw [he1]; exact huy e he
              · exact hok.esz e (List.mem_of_mem_drop he))
            (p := off * pl.esz) (A := (o.take off).flatten) (vs := (ys.take len).flatten) (B := (o.drop (off + min ys.length len)).flatten) (old := ((o.drop off).take (min ys.length len)).flatten)
            (by conv => lhs; rw [hoe]
                simp [List.append_assoc])
            (by rw [flatten_length (k := pl.esz) (fun e h => hok.esz e (List.mem_of_mem_take h)), List.length_take, Nat.min_eq_left (by omega)])
            (by rw [flatten_length (k := esz) (fun e h => by rw [← he1]; exact hok.esz e (List.mem_of_mem_drop (List.mem_of_mem_take h))), flatten_length huy, hyl, List.length_take, List.length_drop, Nat.min_eq_left (by omega)])
            (by simp [List.append_assoc]) r2
          exact ⟨_, γ, w', hrun w' hst, hst1, hst2, VR.int⟩
      · cases h
    · cases h
  · rename_i r i off len cap esz
    split at h
    · rename_i o ho
      simp only [Option.bind_eq_some_iff] at h
      obtain ⟨cs, hcs, h⟩ := h
      split at h
      · rename_i hc
        obtain ⟨rfl, hle⟩ := hc
        simp only [Option.some.injEq, Prod.mk.injEq] at h
        obtain ⟨rfl, rfl⟩ := h
        obtain ⟨pl, hpl, hok⟩ := hR.alive r o ho
        simp only [VR] at hd
        obtain ⟨fl, pl', b, p, hpl', rfl, hle0, hat⟩ := hd
        rw [hpl] at hpl'; cases hpl'
        obtain ⟨v2, h2, r2⟩ := hfc (min ys.length len) (Nat.min_le_left _ _)
        have htk : ys.take (min ys.length len) = ys.take len := by
          rcases Nat.le_total ys.length len with h | h
          · rw [Nat.min_eq_left h, List.take_of_length_le (Nat.le_refl _), List.take_of_length_le h]
          · rw [Nat.min_eq_right h]
        rw [htk] at r2
        have hrun : ∀ w', (storeCells ⟨b, p, none⟩ v2).run C.P w = .ok () w' → (Builtin.copy_ #[dT, sT] ty #[.slice (some ⟨b, p, none⟩) len cap, vs]).run C.P w = .ok (.int .i64 (min ys.length len : Nat)) w' := by
          intro w' hst
          have hm : Nat.min ys.length len = min ys.length len := rfl
          simp only [Builtin.copy_, List.getElem?_toArray, List.getElem?_cons_zero, List.getElem?_cons_succ, Sem.run_bind, run_underlying hu, Result.andThen_ok, hlen, run_sizeOf hsz, hm, h2, hst, Sem.run_pure, goInt]
        have huy : ∀ e ∈ ys.take len, e.length = esz := fun e h => huni e (List.mem_of_mem_take h)
        have hfl : (ys.take len).flatten.length = min ys.length len * esz := by rw [flatten_length huy, List.length_take, Nat.min_comm]
        by_cases hz : min ys.length len = 0
        · have hyz : ys.take len = [] := by rw [← htk, hz]; rfl
          have hv2 : v2 = [] := by
            have := r2.length
            rw [hyz] at this
            exact List.eq_nil_of_length_eq_zero this.symm
          subst hv2
          have e1 : overw cs off (ys.take len).flatten = cs := by rw [hyz]; simp [overw]
          have e2 : o.set i cs = o := by
            apply List.ext_getElem?
            intro j
            rw [List.getElem?_set]
            by_cases e : i = j
            · subst e
              rw [if_pos rfl, hcs]
              split
              · rfl
              · rename_i hlt
                have := List.getElem?_eq_none (l := o) (i := i) (by simpa using hlt)
                rw [this] at hcs; cases hcs
            · rw [if_neg e]
          rw [e1, e2, set_self ho]
          exact Out.same hR (hrun w (store_nil _)) VR.int
        · obtain ⟨rfl, rfl⟩ := hat (by omega)
          have hfit : off + (ys.take len).flatten.length ≤ cs.length := by
            rw [hfl]
            have : min ys.length len * esz ≤ len * esz := Nat.mul_le_mul_right _ (Nat.min_le_right _ _)
            omega
          obtain ⟨w', hst, hst1, hst2⟩ := hR.storeElem ho hpl hcs hfit r2
          exact ⟨_, γ, w', hrun w' hst, hst1, hst2, VR.int⟩
      · cases h
    · cases h
  · cases h

theorem VRs_rep {zc : List AV} {vs : List Value} (h : VRs γ w zc vs) : ∀ n : Nat, VRs γ w (List.replicate n zc).flatten (List.replicate n vs).flatten
  | 0 => VRs.nil
  | n + 1 => by simp only [List.replicate_succ, List.flatten_cons]; exact h.append (VRs_rep h n)

def aClear (C : Ctx) (σ : Store) (t : TypeId) (x : AV) : Option (AV × Store) :=
  (tySl C t).bind fun e =>
    match x with
    | .nilsl => some (.tup [], σ)
    | .sl r off len _ esz => if len = 0 then some (.tup [], σ) else match σ[r]? with
      | some (some o) => (tyZero C e).bind fun z => (cellsOf z).bind fun zc => if zc.length = esz ∧ off + len ≤ o.length then some (.tup [], σ.set r (some (o.take off ++ List.replicate len zc ++ o.drop (off + len)))) else none
      | _ => none
    | _ => none
theorem clear_ok (hR : Rel C γ σ w) {t ty : TypeId} {x a : AV} {vx : Value} {σ' : Store} (hx : VR γ w x vx) (h : aClear C σ t x = some (a, σ')) :
    Out C γ w ((Builtin.clear_ #[t] ty #[vx]).run C.P w) a σ' := by
  simp only [aClear, Option.bind_eq_some_iff] at h
  obtain ⟨e, he, h⟩ := h
  have hu := tySl_u he
  have htup : VR γ w (.tup []) (.tuple #[]) := by simp only [VR]; exact ⟨[], rfl, VRt.nil⟩
  split at h
  · simp only [Option.some.injEq, Prod.mk.injEq] at h
    obtain ⟨rfl, rfl⟩ := h
    simp only [VR] at hx; subst hx
    exact Out.same hR (cv := .tuple #[]) (by simp [Builtin.clear_, run_underlying hu]) htup
  · rename_i r off len lim esz
    simp only [VR] at hx
    obtain ⟨fl, pl, b, p, cap, hpl, he1, rfl, hso⟩ := hx
    split at h
    · rename_i hz
      subst hz
      simp only [Option.some.injEq, Prod.mk.injEq] at h
      obtain ⟨rfl, rfl⟩ := h
      exact Out.same hR (cv := .tuple #[]) (by simp [Builtin.clear_, run_underlying hu]) htup
    · rename_i hne
      split at h
      · rename_i o ho
        simp only [Option.bind_eq_some_iff] at h
        obtain ⟨z, hz, zc, hzc, h⟩ := h
        split at h
        · rename_i hc
          obtain ⟨hzl, hle⟩ := hc
          simp only [Option.some.injEq, Prod.mk.injEq] at h
          obtain ⟨rfl, rfl⟩ := h
          obtain ⟨pl', hpl', hok⟩ := hR.alive r o ho
          rw [hpl] at hpl'; cases hpl'
          obtain ⟨zv, hzv, hzr⟩ := run_zeroValue (C := C) hz γ w
          have hzcl := cellsOf_ok hzc hzr
          have hzsz : zv.cells.size = esz := by rw [← Array.length_toList, ← hzcl.length, hzl]
          have hzeros : (Builtin.zeroCells zv.cells len).toList = (List.replicate len zv.cells.toList).flatten := by
            have := zeros_list zv.cells len
            simpa [Builtin.zeroCells] using this
          have hrep : VRs γ w (List.replicate len zc).flatten (List.replicate len zv.cells.toList).flatten := VRs_rep hzcl len
          obtain ⟨rfl, rfl⟩ := hso.at_ (by have := hso.le; omega)
          have hoe : o = o.take off ++ (o.drop off).take len ++ o.drop (off + len) := by
            conv => lhs; rw [← List.take_append_drop off o, ← List.take_append_drop len (o.drop off), List.drop_drop]
            simp [List.append_assoc]
          have hur : ∀ e ∈ List.replicate len zc, e.length = esz := fun e he => by rw [List.mem_replicate] at he; rw [he.2]; exact hzl
          obtain ⟨w', hst, hst1, hst2⟩ := hR.storeFlat (o' := o.take off ++ List.replicate len zc ++ o.drop (off + len)) ho hpl (by simp; omega)
            (fun e he => by
              rcases List.mem_append.1 he with he | he
              · rcases List.mem_append.1 he with he | he
                · exact hok.esz e (List.mem_of_mem_take he)
                · rw [he1]; exact hur e he
              · exact hok.esz e (List.mem_of_mem_drop he))
            (p := off * pl.esz) (A := (o.take off).flatten) (vs := (List.replicate len zc).flatten) (B := (o.drop (off + len)).flatten) (old := ((o.drop off).take len).flatten)
            (by conv => lhs; rw [hoe]
                simp [List.append_assoc])
            (by rw [flatten_length (k := pl.esz) (fun e h => hok.esz e (List.mem_of_mem_take h)), List.length_take, Nat.min_eq_left (by omega)])
            (by rw [flatten_length (k := esz) (fun e h => by rw [← he1]; exact hok.esz e (List.mem_of_mem_drop (List.mem_of_mem_take h))), flatten_length hur, List.length_take, List.length_drop, List.length_replicate, Nat.min_eq_left (by omega)])
            (by simp [List.append_assoc]) hrep
          refine ⟨.tuple #[], γ, w', ?_, hst1, hst2, by simp only [VR]; exact ⟨[], rfl, VRt.nil⟩⟩
          cases len with
          | zero => exact absurd rfl hne
          | succ q =>
            simp only [Builtin.clear_, List.getElem?_toArray, List.getElem?_cons_zero, Sem.run_bind, run_underlying hu, Result.andThen_ok, hzv, hzeros, hst, Sem.run_pure]
        · cases h
      · cases h
  · cases h
end
end Am
end Go.Proofs.Ytkffgmpbhahioaa
