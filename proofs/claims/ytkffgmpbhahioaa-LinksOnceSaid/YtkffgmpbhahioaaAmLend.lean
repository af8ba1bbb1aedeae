/- THE ABSTRACT MACHINE, part 26: a contract at the empty store serves at every store: rows are lent as values, new objects lie behind the others. -/
import Derived.Test.YtkffgmpbhahioaaAmFun
set_option linter.unusedVariables false
namespace Go.Proofs.Ytkffgmpbhahioaa
namespace Am

mutual
/-- References are counted from k on. -/
def sh (k : Nat) : AV → AV
  | .ptr r i off => .ptr (k + r) i off
  | .sl r off len lim esz => .sl (k + r) off len lim esz
  | .asl r i off len cap esz => .asl (k + r) i off len cap esz
  | .fn f caps => .fn f (shs k caps)
  | .agg cs => .agg (shs k cs)
  | .tup vs => .tup (shs k vs)
  | .any => .any
  | .undef => .undef
  | .bool b => .bool b
  | .int i n => .int i n
  | .str s => .str s
  | .nilp => .nilp
  | .vp _ => .any
  | .nilsl => .nilsl
  | .vsl _ _ _ => .any
  | .nilfn => .nilfn
def shs (k : Nat) : List AV → List AV
  | [] => []
  | a :: l => sh k a :: shs k l
end
def shss (k : Nat) (es : List (List AV)) : List (List AV) := es.map (shs k)
def shS (k : Nat) (σ : Store) : Store := σ.map (·.map (shss k))
theorem shs_length (k : Nat) : ∀ l, (shs k l).length = l.length
  | [] => rfl
  | _ :: l => by simp [shs, shs_length k l]
theorem shs_append (k : Nat) : ∀ l m, shs k (l ++ m) = shs k l ++ shs k m
  | [], _ => rfl
  | a :: l, m => by simp [shs, shs_append k l m]
theorem shss_flatten (k : Nat) : ∀ es : List (List AV), (shss k es).flatten = shs k es.flatten
  | [] => rfl
  | e :: es => by
    have := shss_flatten k es
    simp only [shss] at this
    simp only [shss, List.map_cons, List.flatten_cons, shs_append, this]
mutual
theorem sh_ok {γ γ' : Places} {w : World} : ∀ (a : AV) (v : Value), VR γ' w a v → VR (γ ++ γ') w (sh γ.length a) v
  | .any, _, _ => by simp only [sh, VR]
  | .undef, _, h => by simpa only [sh, VR] using h
  | .bool _, _, h => by simpa only [sh, VR] using h
  | .int _ _, _, h => by simpa only [sh, VR] using h
  | .str _, _, h => by simpa only [sh, VR] using h
  | .nilp, _, h => by simpa only [sh, VR] using h
  | .nilsl, _, h => by simpa only [sh, VR] using h
  | .nilfn, _, h => by simpa only [sh, VR] using h
  | .vp _, _, _ => by simp only [sh, VR]
  | .vsl _ _ _, _, _ => by simp only [sh, VR]
  | .ptr r i off, v, h => by
    simp only [sh, VR] at h ⊢
    obtain ⟨fl, pl, h1, h2⟩ := h
    exact ⟨fl, pl, by rw [List.getElem?_append_right (by omega), Nat.add_sub_cancel_left]; exact h1, h2⟩
  | .sl r off len lim esz, v, h => by
    simp only [sh, VR] at h ⊢
    obtain ⟨fl, pl, b, o, cap, h1, h2⟩ := h
    exact ⟨fl, pl, b, o, cap, by rw [List.getElem?_append_right (by omega), Nat.add_sub_cancel_left]; exact h1, h2⟩
  | .asl r i off len cap esz, v, h => by
    simp only [sh, VR] at h ⊢
    obtain ⟨fl, pl, b, o, h1, h2⟩ := h
    exact ⟨fl, pl, b, o, by rw [List.getElem?_append_right (by omega), Nat.add_sub_cancel_left]; exact h1, h2⟩
  | .fn f caps, v, h => by
    simp only [sh, VR] at h ⊢
    obtain ⟨vs, h1, h2⟩ := h
    exact ⟨vs, h1, sht_ok caps vs h2⟩
  | .agg cs, v, h => by
    simp only [sh, VR] at h ⊢
    obtain ⟨vs, h1, h2⟩ := h
    exact ⟨vs, h1, shs_ok cs vs h2⟩
  | .tup cs, v, h => by
    simp only [sh, VR] at h ⊢
    obtain ⟨vs, h1, h2⟩ := h
    exact ⟨vs, h1, sht_ok cs vs h2⟩
theorem shs_ok {γ γ' : Places} {w : World} : ∀ (l : List AV) (vs : List Value), VRs γ' w l vs → VRs (γ ++ γ') w (shs γ.length l) vs
  | [], vs, h => by simpa only [shs, VRs] using h
  | a :: l, vs, h => by
    simp only [shs, VRs] at h ⊢
    obtain ⟨v, vs', h1, h2, h3⟩ := h
    exact ⟨v, vs', h1, ⟨sh_ok a v h2.1, h2.2⟩, shs_ok l vs' h3⟩
theorem sht_ok {γ γ' : Places} {w : World} : ∀ (l : List AV) (vs : List Value), VRt γ' w l vs → VRt (γ ++ γ') w (shs γ.length l) vs
  | [], vs, h => by simpa only [shs, VRt] using h
  | a :: l, vs, h => by
    simp only [shs, VRt] at h ⊢
    obtain ⟨v, vs', h1, h2, h3⟩ := h
    exact ⟨v, vs', h1, sh_ok a v h2, sht_ok l vs' h3⟩
end

/-- All objects are lent. -/
def lendD (σ : Store) : DC := ⟨σ, 0, id, fun _ => true⟩
theorem lend_snd {σ : Store} {γ : Places} {w : World} : DSnd (lendD σ) γ [] w where
  ref r _ _ h := by simp [lendD] at h
  imm b h := ⟨h.1, by simp⟩
  fz r pl _ _ r' pl' h := by simp at h
theorem step_back {γ γ' : Places} {w w' : World} (h : Step [] w γ' w') (hlt : ∀ (r : Nat) (pl : Place), γ[r]? = some (true, pl) → pl.b < w.heap.size) : Step γ w (γ ++ γ') w' where
  keep r fl pl hr := ⟨fl, by rw [List.getElem?_append_left (List.getElem?_eq_some_iff.1 hr).1]; exact hr⟩
  size := h.size
  imm b hb _ := h.imm b hb (by simp)
  new r pl hr := by
    by_cases hl : r < γ.length
    · rw [List.getElem?_append_left hl] at hr
      exact .inl ⟨r, pl, hr, rfl⟩
    · rw [List.getElem?_append_right (by omega)] at hr
      rcases h.new _ pl hr with ⟨r', pl', h1, _⟩ | h1
      · simp at h1
      · exact .inr h1
  os := h.os
  tape := h.tape
  output := h.output

def GlOK (C : Ctx) : Prop := ∀ g cs, C.gl g = some cs → RLs 0 cs
theorem Rel.lent {C : Ctx} {γ : Places} {σ : Store} {w : World} (hg : GlOK C) (hR : Rel C γ σ w) : Rel C [] [] w :=
  ⟨rfl, by simp, by simp, by simp, fun g cs h => DR.sound hR lend_snd (.vp cs) (.vp cs) _ (DR.refl (D := lendD σ) (k := 0) (by omega) _ (by simpa only [RL] using hg g cs h)) (hR.gl g cs h)⟩
theorem Rel.back {C : Ctx} {γ γ' : Places} {σ σ1 : Store} {w w' : World} (hR : Rel C γ σ w) (hst : Step [] w γ' w') (h : Rel C γ' σ1 w') : Rel C (γ ++ γ') (σ ++ shS σ.length σ1) w' := by
  have hlt : ∀ (r : Nat) (pl : Place), γ[r]? = some (true, pl) → pl.b < w.heap.size := fun r pl hr => hR.place_lt hr
  have hs := step_back (γ := γ) hst hlt
  have hge : ∀ (r : Nat) (pl : Place), γ'[r]? = some (true, pl) → w.heap.size ≤ pl.b := fun r pl hr => by
    rcases hst.new r pl hr with ⟨r', pl', h1, _⟩ | h1
    · simp at h1
    · exact h1
  refine ⟨by simp [shS, hR.len, h.len], fun r o hr => ?_, fun r hr => ?_, fun r r' pl pl' h1 h2 h3 => ?_, fun g cs hg => (hR.gl g cs hg).mono hs⟩
  · by_cases hl : r < σ.length
    · rw [List.getElem?_append_left hl] at hr
      obtain ⟨pl, h1, h2⟩ := hR.alive r o hr
      exact ⟨pl, by rw [List.getElem?_append_left (by rw [hR.len]; exact hl)]; exact h1, h2.mono hs (hst.imm _ h2.lt (by simp))⟩
    · rw [List.getElem?_append_right (by omega)] at hr
      simp only [shS, List.getElem?_map, Option.map_eq_some_iff] at hr
      obtain ⟨x, hx, he⟩ := hr
      cases x with
      | none => simp at he
      | some o0 =>
        simp only [Option.map_some, Option.some.injEq] at he
        obtain ⟨_, rfl, rfl⟩ := he
        obtain ⟨pl, h1, h2⟩ := h.alive _ o0 hx
        refine ⟨pl, by rw [List.getElem?_append_right (by rw [hR.len]; omega), hR.len]; exact h1, ?_⟩
        obtain ⟨c, ty, fz, pre, mid, post, k1, k2, k3, k4, k5, k6⟩ := h2.ex
        refine ⟨by simp [shss, h2.len], fun e he => ?_, c, ty, fz, pre, mid, post, k1, k2, k3, k4, ?_, k6⟩
        · simp only [shss, List.mem_map] at he
          obtain ⟨e0, he0, rfl⟩ := he
          rw [shs_length]; exact h2.esz e0 he0
        · rw [shss_flatten, ← hR.len]
          exact shs_ok _ _ k5
  · by_cases hl : r < σ.length
    · rw [List.getElem?_append_left hl] at hr
      obtain ⟨pl, h1⟩ := hR.dead r hr
      exact ⟨pl, by rw [List.getElem?_append_left (by rw [hR.len]; exact hl)]; exact h1⟩
    · rw [List.getElem?_append_right (by omega)] at hr
      simp only [shS, List.getElem?_map, Option.map_eq_some_iff] at hr
      obtain ⟨x, hx, he⟩ := hr
      cases x with
      | some o0 => simp at he
      | none =>
        obtain ⟨pl, h1⟩ := h.dead _ hx
        exact ⟨pl, by rw [List.getElem?_append_right (by rw [hR.len]; omega), hR.len]; exact h1⟩
  · have get : ∀ (r : Nat) (pl : Place), (γ ++ γ')[r]? = some (true, pl) → (r < γ.length ∧ γ[r]? = some (true, pl)) ∨ (γ.length ≤ r ∧ γ'[r - γ.length]? = some (true, pl)) := fun r pl hr => by
      by_cases hl : r < γ.length
      · rw [List.getElem?_append_left hl] at hr; exact .inl ⟨hl, hr⟩
      · rw [List.getElem?_append_right (by omega)] at hr; exact .inr ⟨by omega, hr⟩
    rcases get r pl h1 with ⟨k1, k2⟩ | ⟨k1, k2⟩ <;> rcases get r' pl' h2 with ⟨q1, q2⟩ | ⟨q1, q2⟩
    · exact hR.inj r r' pl pl' k2 q2 h3
    · have := hlt r pl k2; have := hge _ pl' q2; omega
    · have := hge _ pl k2; have := hlt r' pl' q2; omega
    · have := h.inj _ _ pl pl' k2 q2 h3; omega

theorem ACallsTo.lend {C : Ctx} (hg : GlOK C) {f : FuncId} {xs args : List AV} {v : AV} {σ σ1 : Store} (h : ACallsTo C f xs [] v σ1) (hd : DRs (lendD σ) xs args) : ACallsTo C f args σ (sh σ.length v) (σ ++ shS σ.length σ1) := by
  intro γ w cargs hR ha
  have hx : VRt [] w xs cargs := DRs.soundt hR lend_snd xs args cargs hd ha
  have hlt : ∀ (r : Nat) (pl : Place), γ[r]? = some (true, pl) → pl.b < w.heap.size := fun r pl hr => hR.place_lt hr
  rcases h [] w cargs (hR.lent hg) hx with ⟨h1, h2⟩ | ⟨cv, γ', w', h1, h2, h3, h4⟩
  · refine .inl ⟨h1, h2.mono ?_⟩
    rintro e w' ⟨cv, γ', rfl, k1, k2, k3⟩
    exact ⟨cv, γ ++ γ', rfl, step_back k1 hlt, hR.back k1 k2, by rw [← hR.len]; exact sh_ok v cv k3⟩
  · exact .inr ⟨cv, γ ++ γ', w', h1, step_back h2 hlt, hR.back h2 h3, by rw [← hR.len]; exact sh_ok v cv h4⟩
/-- A contract at the empty store, of values alone, at every store. -/
theorem ACallsTo.frame {C : Ctx} (hg : GlOK C) {f : FuncId} {xs : List AV} {v : AV} (h : ACallsTo C f xs [] v []) (hx : RLs 0 xs) (σ : Store) : ACallsTo C f xs σ (sh σ.length v) σ := by
  have := ACallsTo.lend hg (σ := σ) h (DRs.refl (D := lendD σ) (k := 0) (by omega) xs hx)
  simpa [shS] using this
end Am
end Go.Proofs.Ytkffgmpbhahioaa
