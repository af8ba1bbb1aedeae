/- THE ABSTRACT MACHINE, part 17: what is no longer needed is let go: objects are dropped, frozen to values, numbered anew. -/
import Derived.Test.YtkffgmpbhahioaaAmOp
namespace Go.Proofs.Ytkffgmpbhahioaa
namespace Am

structure DC where
  σ : Store
  n : Nat
  pre : Nat → Nat
  fz : Nat → Bool

mutual
/-- What an elder value reads as behind the change: the new one first. -/
def DR (D : DC) : AV → AV → Prop
  | .any, _ => True
  | .undef, a => a = .undef
  | .bool b, a => a = .bool b
  | .int k n, a => a = .int k n
  | .str s, a => a = .str s
  | .nilp, a => a = .nilp
  | .ptr r i off, a => r < D.n ∧ a = .ptr (D.pre r) i off
  | .vp cs, a => (∃ cs0, a = .vp cs0 ∧ DRs D cs cs0) ∨
      ∃ r i off o e, a = .ptr r i off ∧ D.fz r = true ∧ D.σ[r]? = some (some o) ∧ o[i]? = some e ∧ off ≤ e.length ∧ DRs D cs (e.drop off)
  | .nilsl, a => a = .nilsl
  | .vsl esz es ex, a => (∃ es0 ex0, a = .vsl esz es0 ex0 ∧ (ex = true → ex0 = true) ∧ DRss D es es0) ∨
      ∃ r off lim o, a = .sl r off es.length lim esz ∧ D.fz r = true ∧ D.σ[r]? = some (some o) ∧ off + es.length ≤ o.length ∧ (ex = true → lim = some es.length) ∧ DRss D es ((o.drop off).take es.length)
  | .sl r off len lim esz, a => r < D.n ∧ a = .sl (D.pre r) off len lim esz
  | .asl r i off len cap esz, a => r < D.n ∧ a = .asl (D.pre r) i off len cap esz
  | .fn f caps, a => ∃ caps0, a = .fn f caps0 ∧ DRs D caps caps0
  | .nilfn, a => a = .nilfn
  | .agg cs, a => ∃ cs0, a = .agg cs0 ∧ DRs D cs cs0
  | .tup vs, a => ∃ vs0, a = .tup vs0 ∧ DRs D vs vs0
def DRs (D : DC) : List AV → List AV → Prop
  | [], as => as = []
  | x :: xs, as => ∃ a as', as = a :: as' ∧ DR D x a ∧ DRs D xs as'
def DRss (D : DC) : List (List AV) → List (List AV) → Prop
  | [], es => es = []
  | x :: xs, es => ∃ e es', es = e :: es' ∧ DRs D x e ∧ DRss D xs es'
end

mutual
/-- All references are below k. -/
def RL (k : Nat) : AV → Prop
  | .ptr r _ _ => r < k
  | .sl r _ _ _ _ => r < k
  | .asl r _ _ _ _ _ => r < k
  | .vp cs => RLs k cs
  | .vsl _ es _ => RLss k es
  | .fn _ caps => RLs k caps
  | .agg cs => RLs k cs
  | .tup vs => RLs k vs
  | _ => True
def RLs (k : Nat) : List AV → Prop
  | [] => True
  | a :: as => RL k a ∧ RLs k as
def RLss (k : Nat) : List (List AV) → Prop
  | [] => True
  | e :: es => RLs k e ∧ RLss k es
end
theorem RLs_iff {k : Nat} : ∀ {l : List AV}, RLs k l ↔ ∀ a ∈ l, RL k a
  | [] => by simp [RLs]
  | a :: l => by simp [RLs, RLs_iff (l := l)]
theorem RLss_iff {k : Nat} : ∀ {l : List (List AV)}, RLss k l ↔ ∀ e ∈ l, RLs k e
  | [] => by simp [RLss]
  | a :: l => by simp [RLss, RLss_iff (l := l)]

mutual
theorem DR.refl {D : DC} {k : Nat} (hk : ∀ r, r < k → r < D.n ∧ D.pre r = r) : ∀ (a : AV), RL k a → DR D a a
  | .any, _ => by simp only [DR]
  | .undef, _ => by simp only [DR]
  | .bool _, _ => by simp only [DR]
  | .int _ _, _ => by simp only [DR]
  | .str _, _ => by simp only [DR]
  | .nilp, _ => by simp only [DR]
  | .ptr r i off, h => by simp only [RL] at h; simp only [DR]; obtain ⟨h1, h2⟩ := hk r h; exact ⟨h1, by rw [h2]⟩
  | .vp cs, h => by simp only [RL] at h; simp only [DR]; exact .inl ⟨cs, rfl, DRs.refl hk cs h⟩
  | .nilsl, _ => by simp only [DR]
  | .vsl esz es ex, h => by simp only [RL] at h; simp only [DR]; exact .inl ⟨es, ex, rfl, fun h => h, DRss.refl hk es h⟩
  | .sl r off len lim esz, h => by simp only [RL] at h; simp only [DR]; obtain ⟨h1, h2⟩ := hk r h; exact ⟨h1, by rw [h2]⟩
  | .asl r i off len cap esz, h => by simp only [RL] at h; simp only [DR]; obtain ⟨h1, h2⟩ := hk r h; exact ⟨h1, by rw [h2]⟩
  | .fn f caps, h => by simp only [RL] at h; simp only [DR]; exact ⟨caps, rfl, DRs.refl hk caps h⟩
  | .nilfn, _ => by simp only [DR]
  | .agg cs, h => by simp only [RL] at h; simp only [DR]; exact ⟨cs, rfl, DRs.refl hk cs h⟩
  | .tup vs, h => by simp only [RL] at h; simp only [DR]; exact ⟨vs, rfl, DRs.refl hk vs h⟩
theorem DRs.refl {D : DC} {k : Nat} (hk : ∀ r, r < k → r < D.n ∧ D.pre r = r) : ∀ (l : List AV), RLs k l → DRs D l l
  | [], _ => by simp only [DRs]
  | a :: l, h => by simp only [RLs] at h; simp only [DRs]; exact ⟨a, l, rfl, DR.refl hk a h.1, DRs.refl hk l h.2⟩
theorem DRss.refl {D : DC} {k : Nat} (hk : ∀ r, r < k → r < D.n ∧ D.pre r = r) : ∀ (l : List (List AV)), RLss k l → DRss D l l
  | [], _ => by simp only [DRss]
  | a :: l, h => by simp only [RLss] at h; simp only [DRss]; exact ⟨a, l, rfl, DRs.refl hk a h.1, DRss.refl hk l h.2⟩
end

/-! References of what stands in a world. -/
mutual
theorem VR.rl {γ : Places} {w : World} : ∀ (a : AV) (v : Value), VR γ w a v → RL γ.length a
  | .any, _, _ => by simp only [RL]
  | .undef, _, _ => by simp only [RL]
  | .bool _, _, _ => by simp only [RL]
  | .int _ _, _, _ => by simp only [RL]
  | .str _, _, _ => by simp only [RL]
  | .nilp, _, _ => by simp only [RL]
  | .ptr r i off, v, h => by
    simp only [VR] at h; simp only [RL]
    obtain ⟨fl, pl, h1, _⟩ := h
    exact (List.getElem?_eq_some_iff.1 h1).1
  | .vp cs, v, h => by
    simp only [VR] at h; simp only [RL]
    obtain ⟨b, o, vals, _, _, _, h4⟩ := h
    exact VRs.rl cs vals h4
  | .nilsl, _, _ => by simp only [RL]
  | .vsl esz es ex, v, h => by
    simp only [VR] at h; simp only [RL]
    rcases h with ⟨rfl, _⟩ | ⟨b, o, cap, vals, _, _, _, _, _, _, h7⟩
    · simp only [RLss]
    · exact VRss.rl es vals h7
  | .sl r off len lim esz, v, h => by
    simp only [VR] at h; simp only [RL]
    obtain ⟨fl, pl, _, _, _, h1, _⟩ := h
    exact (List.getElem?_eq_some_iff.1 h1).1
  | .asl r i off len cap esz, v, h => by
    simp only [VR] at h; simp only [RL]
    obtain ⟨fl, pl, _, _, h1, _⟩ := h
    exact (List.getElem?_eq_some_iff.1 h1).1
  | .fn f caps, v, h => by
    simp only [VR] at h; simp only [RL]
    obtain ⟨vs, _, h2⟩ := h
    exact VRt.rl caps vs h2
  | .nilfn, _, _ => by simp only [RL]
  | .agg cs, v, h => by
    simp only [VR] at h; simp only [RL]
    obtain ⟨vs, _, h2⟩ := h
    exact VRs.rl cs vs h2
  | .tup cs, v, h => by
    simp only [VR] at h; simp only [RL]
    obtain ⟨vs, _, h2⟩ := h
    exact VRt.rl cs vs h2
theorem VRs.rl {γ : Places} {w : World} : ∀ (l : List AV) (vs : List Value), VRs γ w l vs → RLs γ.length l
  | [], _, _ => by simp only [RLs]
  | a :: l, vs, h => by
    simp only [VRs] at h; simp only [RLs]
    obtain ⟨v, vs', _, h2, h3⟩ := h
    exact ⟨VR.rl a v h2.1, VRs.rl l vs' h3⟩
theorem VRt.rl {γ : Places} {w : World} : ∀ (l : List AV) (vs : List Value), VRt γ w l vs → RLs γ.length l
  | [], _, _ => by simp only [RLs]
  | a :: l, vs, h => by
    simp only [VRt] at h; simp only [RLs]
    obtain ⟨v, vs', _, h2, h3⟩ := h
    exact ⟨VR.rl a v h2, VRt.rl l vs' h3⟩
theorem VRss.rl {γ : Places} {w : World} : ∀ (l : List (List AV)) (vs : List Value), VRss γ w l vs → RLss γ.length l
  | [], _, _ => by simp only [RLss]
  | e :: l, vs, h => by
    simp only [VRss] at h; simp only [RLss]
    obtain ⟨v1, v2, _, h2, h3⟩ := h
    exact ⟨VRs.rl e v1 h2, VRss.rl l v2 h3⟩
end
theorem RLss_flat {k : Nat} {l : List (List AV)} : RLss k l ↔ RLs k l.flatten := by
  rw [RLss_iff, RLs_iff]
  constructor
  · intro h a ha
    obtain ⟨e, he, hae⟩ := List.mem_flatten.1 ha
    exact RLs_iff.1 (h e he) a hae
  · intro h e he
    exact RLs_iff.2 fun a ha => h a (List.mem_flatten.2 ⟨e, he, ha⟩)
/-- All references of a store are below k. -/
def Wf (k : Nat) (σ : Store) : Prop := ∀ (r : Nat) (o : AObj), σ[r]? = some (some o) → RLss k o
theorem Rel.wf {C : Ctx} {γ : Places} {σ : Store} {w : World} (h : Rel C γ σ w) : Wf σ.length σ := by
  intro r o hr
  obtain ⟨pl, h1, h2⟩ := h.alive r o hr
  obtain ⟨c, ty, fz, pre, mid, post, _, _, _, _, h5, _⟩ := h2.ex
  rw [RLss_flat, ← h.len]
  exact VRs.rl _ _ h5

/-! Soundness. -/
theorem ObjOK.seg {γ : Places} {w : World} {pl : Place} {o : AObj} (h : ObjOK γ w pl o) {A B E : List AV} (he : o.flatten = A ++ B ++ E) : ∃ vals, Seg w pl.b (pl.base + A.length) vals ∧ VRs γ w B vals := by
  obtain ⟨c, ty, fz, pre, mid, post, h1, h2, h3, h4, h5, _⟩ := h.ex
  rw [he] at h5
  obtain ⟨m12, m3, rfl, q1, q2⟩ := h5.append_inv
  obtain ⟨m1, m2, rfl, q3, q4⟩ := q1.append_inv
  exact ⟨m2, ⟨c, ty, fz, pre ++ m1, m3 ++ post, h1, by simp [h2, List.append_assoc], by rw [List.length_append, h3, q3.length]⟩, q4⟩
theorem ObjOK.none_at {γ : Places} {w : World} {pl : Place} {o : AObj} (h : ObjOK γ w pl o) {k : Nat} (hk : k ≤ pl.tot) : Seg w pl.b k [] := by
  obtain ⟨c, ty, fz, pre, mid, post, h1, h2, h3, h4, h5, _⟩ := h.ex
  exact ⟨c, ty, fz, c.toList.take k, c.toList.drop k, h1, by simp, by simp [h4, hk]⟩

structure DSnd (D : DC) (γ γ' : Places) (w : World) : Prop where
  ref : ∀ (r : Nat) (fl : Bool) (pl : Place), r < D.n → γ[D.pre r]? = some (fl, pl) → ∃ fl', γ'[r]? = some (fl', pl)
  imm : ∀ b, Imm γ w b → Imm γ' w b
  fz : ∀ (r : Nat) (pl : Place), D.fz r = true → γ[r]? = some (true, pl) → ∀ (r' : Nat) (pl' : Place), γ'[r']? = some (true, pl') → pl'.b ≠ pl.b

mutual
theorem DR.sound {C : Ctx} {D : DC} {γ γ' : Places} {w : World} (hR : Rel C γ D.σ w) (hs : DSnd D γ γ' w) : ∀ (x a : AV) (v : Value), DR D x a → VR γ w a v → VR γ' w x v
  | .any, _, _, _, _ => by simp only [VR]
  | .undef, a, v, h, hv => by simp only [DR] at h; subst h; simpa only [VR] using hv
  | .bool _, a, v, h, hv => by simp only [DR] at h; subst h; simpa only [VR] using hv
  | .int _ _, a, v, h, hv => by simp only [DR] at h; subst h; simpa only [VR] using hv
  | .str _, a, v, h, hv => by simp only [DR] at h; subst h; simpa only [VR] using hv
  | .nilp, a, v, h, hv => by simp only [DR] at h; subst h; simpa only [VR] using hv
  | .ptr r i off, a, v, h, hv => by
    simp only [DR] at h
    obtain ⟨h1, rfl⟩ := h
    simp only [VR] at hv ⊢
    obtain ⟨fl, pl, h2, h3⟩ := hv
    obtain ⟨fl', h4⟩ := hs.ref r fl pl h1 h2
    exact ⟨fl', pl, h4, h3⟩
  | .vp cs, a, v, h, hv => by
    simp only [DR] at h
    rcases h with ⟨cs0, rfl, h⟩ | ⟨r, i, off, o, e, rfl, h1, h2, h3, h4, h5⟩
    · simp only [VR] at hv ⊢
      obtain ⟨b, o, vals, k1, k2, k3, k4⟩ := hv
      exact ⟨b, o, vals, k1, hs.imm b k2, k3, DRs.sound hR hs cs cs0 vals h k4⟩
    · simp only [VR] at hv ⊢
      obtain ⟨fl, pl, k1, rfl⟩ := hv
      obtain ⟨pl', k2, k3⟩ := hR.alive r o h2
      rw [k1] at k2; cases k2
      obtain ⟨hi, hei⟩ := List.getElem?_eq_some_iff.1 h3
      have hfl : o.flatten = ((o.take i).flatten ++ e.take off) ++ e.drop off ++ (o.drop (i + 1)).flatten := by
        conv => lhs; rw [← List.take_append_drop i o, List.drop_eq_getElem_cons hi, hei]
        simp [List.append_assoc]
      obtain ⟨vals, q1, q2⟩ := k3.seg hfl
      have hlen : ((o.take i).flatten ++ e.take off).length = i * pl.esz + off := by
        rw [List.length_append, flatten_length (k := pl.esz) (fun e h => k3.esz e (List.mem_of_mem_take h)), List.length_take, List.length_take, Nat.min_eq_left (by omega), Nat.min_eq_left (by omega)]
      rw [hlen] at q1
      exact ⟨pl.b, pl.base + (i * pl.esz + off), vals, by rw [Nat.add_assoc], ⟨k3.lt, hs.fz r pl h1 k1⟩, q1, DRs.sound hR hs cs _ vals h5 q2⟩
  | .nilsl, a, v, h, hv => by simp only [DR] at h; subst h; simpa only [VR] using hv
  | .vsl esz es ex, a, v, h, hv => by
    simp only [DR] at h
    rcases h with ⟨es0, ex0, rfl, hex, h⟩ | ⟨r, off, lim, o, rfl, h1, h2, h3, h4, h5⟩
    · simp only [VR] at hv ⊢
      rcases hv with ⟨rfl, hv⟩ | ⟨b, o, cap, vals, k1, k2, k3, k4, k5, k6, k7⟩
      · refine .inl ⟨?_, hv⟩
        cases es with
        | nil => rfl
        | cons e es => simp [DRss] at h
      obtain ⟨q1, q2⟩ := DRss.sound hR hs es es0 vals h k7
      exact .inr ⟨b, o, cap, vals, by rw [q2.1]; exact k1, by rw [q2.1]; exact k2, fun e => by rw [q2.1]; exact k3 (hex e), hs.imm b k4, k5, q2.2 esz k6, q1⟩
    · simp only [VR] at hv ⊢
      obtain ⟨fl, pl, b, o_, cap, k1, k2, rfl, k3⟩ := hv
      obtain ⟨pl', k4, k5⟩ := hR.alive r o h2
      rw [k1] at k4; cases k4
      have hbb := k3.blk
      subst hbb
      have hfl : o.flatten = (o.take off).flatten ++ ((o.drop off).take es.length).flatten ++ ((o.drop off).drop es.length).flatten := by
        conv => lhs; rw [← List.take_append_drop off o, ← List.take_append_drop es.length (o.drop off)]
        rw [List.flatten_append, List.flatten_append, List.append_assoc]
      obtain ⟨vals, q1, q2⟩ := k5.seg hfl
      have hlen : ((o.take off).flatten).length = off * pl.esz := by
        rw [flatten_length (k := pl.esz) (fun e h => k5.esz e (List.mem_of_mem_take h)), List.length_take, Nat.min_eq_left (by omega)]
      rw [hlen] at q1
      obtain ⟨q3, q4⟩ := DRss.sound hR hs es _ vals h5 (VRss.flat.2 q2)
      have hseg : Seg w pl.b o_ vals := by
        by_cases hc : cap = 0
        · have := k3.le
          have hz : es = [] := List.eq_nil_of_length_eq_zero (by omega)
          subst hz
          simp only [VRss] at q3
          subst q3
          exact k5.none_at k3.ole
        · rw [(k3.at_ hc).2]; exact q1
      right
      refine ⟨pl.b, o_, cap, vals, rfl, k3.le, fun e => k3.lim_ _ (h4 e), ⟨k5.lt, hs.fz r pl h1 k1⟩, hseg, q4.2 esz ?_, q3⟩
      intro e he
      rw [← k2]
      exact k5.esz e (List.mem_of_mem_drop (List.mem_of_mem_take he))
  | .sl r off len lim esz, a, v, h, hv => by
    simp only [DR] at h
    obtain ⟨h1, rfl⟩ := h
    simp only [VR] at hv ⊢
    obtain ⟨fl, pl, b, o, cap, h2, h3⟩ := hv
    obtain ⟨fl', h4⟩ := hs.ref r fl pl h1 h2
    exact ⟨fl', pl, b, o, cap, h4, h3⟩
  | .asl r i off len cap esz, a, v, h, hv => by
    simp only [DR] at h
    obtain ⟨h1, rfl⟩ := h
    simp only [VR] at hv ⊢
    obtain ⟨fl, pl, b, o, h2, h3⟩ := hv
    obtain ⟨fl', h4⟩ := hs.ref r fl pl h1 h2
    exact ⟨fl', pl, b, o, h4, h3⟩
  | .fn f caps, a, v, h, hv => by
    simp only [DR] at h
    obtain ⟨caps0, rfl, h⟩ := h
    simp only [VR] at hv ⊢
    obtain ⟨vs, h1, h2⟩ := hv
    exact ⟨vs, h1, DRs.soundt hR hs caps caps0 vs h h2⟩
  | .nilfn, a, v, h, hv => by simp only [DR] at h; subst h; simpa only [VR] using hv
  | .agg cs, a, v, h, hv => by
    simp only [DR] at h
    obtain ⟨cs0, rfl, h⟩ := h
    simp only [VR] at hv ⊢
    obtain ⟨vs, h1, h2⟩ := hv
    exact ⟨vs, h1, DRs.sound hR hs cs cs0 vs h h2⟩
  | .tup cs, a, v, h, hv => by
    simp only [DR] at h
    obtain ⟨cs0, rfl, h⟩ := h
    simp only [VR] at hv ⊢
    obtain ⟨vs, h1, h2⟩ := hv
    exact ⟨vs, h1, DRs.soundt hR hs cs cs0 vs h h2⟩
theorem DRs.sound {C : Ctx} {D : DC} {γ γ' : Places} {w : World} (hR : Rel C γ D.σ w) (hs : DSnd D γ γ' w) : ∀ (xs as : List AV) (vs : List Value), DRs D xs as → VRs γ w as vs → VRs γ' w xs vs
  | [], as, vs, h, hv => by simp only [DRs] at h; subst h; simpa only [VRs] using hv
  | x :: xs, as, vs, h, hv => by
    simp only [DRs] at h
    obtain ⟨a, as', rfl, h1, h2⟩ := h
    simp only [VRs] at hv ⊢
    obtain ⟨v, vs', k1, k2, k3⟩ := hv
    exact ⟨v, vs', k1, ⟨DR.sound hR hs x a v h1 k2.1, k2.2⟩, DRs.sound hR hs xs as' vs' h2 k3⟩
theorem DRs.soundt {C : Ctx} {D : DC} {γ γ' : Places} {w : World} (hR : Rel C γ D.σ w) (hs : DSnd D γ γ' w) : ∀ (xs as : List AV) (vs : List Value), DRs D xs as → VRt γ w as vs → VRt γ' w xs vs
  | [], as, vs, h, hv => by simp only [DRs] at h; subst h; simpa only [VRt] using hv
  | x :: xs, as, vs, h, hv => by
    simp only [DRs] at h
    obtain ⟨a, as', rfl, h1, h2⟩ := h
    simp only [VRt] at hv ⊢
    obtain ⟨v, vs', k1, k2, k3⟩ := hv
    exact ⟨v, vs', k1, DR.sound hR hs x a v h1 k2, DRs.soundt hR hs xs as' vs' h2 k3⟩
theorem DRss.sound {C : Ctx} {D : DC} {γ γ' : Places} {w : World} (hR : Rel C γ D.σ w) (hs : DSnd D γ γ' w) : ∀ (xs as : List (List AV)) (vs : List Value), DRss D xs as → VRss γ w as vs →
    VRss γ' w xs vs ∧ xs.length = as.length ∧ ∀ k, (∀ e ∈ as, e.length = k) → ∀ e ∈ xs, e.length = k
  | [], as, vs, h, hv => by
    simp only [DRss] at h; subst h
    exact ⟨by simpa only [VRss] using hv, rfl, fun _ _ e he => by simp at he⟩
  | x :: xs, as, vs, h, hv => by
    simp only [DRss] at h
    obtain ⟨a, as', rfl, h1, h2⟩ := h
    simp only [VRss] at hv ⊢
    obtain ⟨v1, v2, k1, k2, k3⟩ := hv
    obtain ⟨q1, q2, q3⟩ := DRss.sound hR hs xs as' v2 h2 k3
    have q4 := DRs.sound hR hs x a v1 h1 k2
    refine ⟨⟨v1, v2, k1, q4, q1⟩, by simp [q2], fun k hk e he => ?_⟩
    rcases List.mem_cons.1 he with rfl | he
    · rw [q4.length, ← k2.length]; exact hk a (by simp)
    · exact q3 k (fun e he => hk e (by simp [he])) e he
end

/-- The store part. -/
structure DownS (k : Nat) (D : DC) (σ' : Store) : Prop where
  n : D.n = σ'.length
  pin : ∀ r, r < k → r < σ'.length ∧ D.pre r = r
  lt : ∀ r, r < σ'.length → D.pre r < D.σ.length
  inj : ∀ r r', r < σ'.length → r' < σ'.length → D.pre r = D.pre r' → r = r'
  obj : ∀ (r : Nat) (o' : AObj), σ'[r]? = some (some o') → ∃ o, D.σ[D.pre r]? = some (some o) ∧ DRss D o' o
  fz : ∀ r, D.fz r = true → ∀ r', r' < σ'.length → D.pre r' = r → σ'[r']? = some none
def DownV (k : Nat) (v : AV) (σ : Store) (v' : AV) (σ' : Store) : Prop := ∃ D, D.σ = σ ∧ DownS k D σ' ∧ DR D v' v
def Down (k : Nat) (ρ : Env) (σ : Store) (ρ' : Env) (σ' : Store) : Prop := ∃ D, D.σ = σ ∧ DownS k D σ' ∧ ∀ t, DR D (ρ' t) (ρ t)

def Glob (C : Ctx) (γ : Places) (w : World) : Prop := ∀ (g : Nat) (cs : List AV), C.gl g = some cs → VR γ w (.vp cs) (.pointer (some ⟨g, 0, none⟩))
theorem DownS.sound {C : Ctx} {k : Nat} {D : DC} {σ' : Store} {γ0 γ : Places} {w0 w : World} (h : DownS k D σ') (hR : Rel C γ D.σ w) (hst : Step γ0 w0 γ w) (hgl : Glob C γ0 w0) (hk : γ0.length ≤ k) :
    ∃ γ', Step γ0 w0 γ' w ∧ Rel C γ' σ' w ∧ ∀ x a v, DR D x a → VR γ w a v → VR γ' w x v := by
  let f : Nat → Bool × Place := fun r => ((match σ'[r]? with | some (some _) => true | _ => false), (γ[D.pre r]?.getD (true, ⟨0, 0, 0, 0, 0⟩)).2)
  let γ' : Places := (List.range σ'.length).map f
  have hlen : γ'.length = σ'.length := by simp [γ']
  have hget : ∀ r, r < σ'.length → γ'[r]? = some (f r) := fun r hr => by simp [γ', hr]
  have hold : ∀ r, r < σ'.length → ∃ fl pl, γ[D.pre r]? = some (fl, pl) ∧ (f r).2 = pl := fun r hr => by
    have h1 := h.lt r hr
    rw [← hR.len] at h1
    refine ⟨γ[D.pre r].1, γ[D.pre r].2, List.getElem?_eq_getElem h1, ?_⟩
    simp only [f, List.getElem?_eq_getElem h1, Option.getD_some]
  have live : ∀ (r : Nat) (pl : Place), γ'[r]? = some (true, pl) → r < σ'.length ∧ (∃ o', σ'[r]? = some (some o')) ∧ γ[D.pre r]? = some (true, pl) := by
    intro r pl hr
    have hl : r < σ'.length := by rw [← hlen]; exact (List.getElem?_eq_some_iff.1 hr).1
    rw [hget r hl] at hr
    simp only [Option.some.injEq] at hr
    obtain ⟨fl, pl', h1, h2⟩ := hold r hl
    have hf1 : (f r).1 = true := by rw [hr]
    have hf2 : pl = pl' := by rw [← h2, hr]
    subst hf2
    have ho : ∃ o', σ'[r]? = some (some o') := by
      simp only [f] at hf1
      split at hf1
      · rename_i o' ho; exact ⟨o', ho⟩
      · cases hf1
    obtain ⟨o', ho'⟩ := ho
    obtain ⟨o, h3, h4⟩ := h.obj r o' ho'
    obtain ⟨pl2, h5, h6⟩ := hR.alive _ o h3
    rw [h1] at h5; cases h5
    exact ⟨hl, ⟨o', ho'⟩, h1⟩
  have himm : ∀ b, Imm γ w b → Imm γ' w b := fun b hb => ⟨hb.1, fun r pl hr e => by
    obtain ⟨_, _, h3⟩ := live r pl hr
    exact hb.2 _ pl h3 e⟩
  have hs : DSnd D γ γ' w := by
    refine ⟨fun r fl pl hr hg => ?_, himm, fun r pl hfz hg r' pl' hg' e => ?_⟩
    · rw [h.n] at hr
      obtain ⟨fl2, pl2, h1, h2⟩ := hold r hr
      rw [hg] at h1; cases h1
      exact ⟨(f r).1, by rw [hget r hr, ← h2]⟩
    · obtain ⟨hl, ⟨o', ho'⟩, h3⟩ := live r' pl' hg'
      have := hR.inj _ _ pl' pl h3 hg e
      rw [h.fz r hfz r' hl this] at ho'
      cases ho'
  have key := fun x a v => DR.sound hR hs x a v
  have st : Step γ0 w0 γ' w := by
    refine ⟨fun r fl pl hr => ?_, hst.size, hst.imm, fun r pl hr => ?_, hst.os, hst.tape, hst.output⟩
    · have hrk : r < k := Nat.lt_of_lt_of_le (List.getElem?_eq_some_iff.1 hr).1 hk
      obtain ⟨h1, h2⟩ := h.pin r hrk
      obtain ⟨fl', h3⟩ := hst.keep r fl pl hr
      exact hs.ref r fl' pl (by rw [h.n]; exact h1) (by rw [h2]; exact h3)
    · obtain ⟨_, _, h3⟩ := live r pl hr
      exact hst.new _ pl h3
  refine ⟨γ', st, ⟨hlen, fun r o' hr => ?_, fun r hr => ?_, fun r r' pl pl' hr hr' e => ?_, fun g cs hg => ?_⟩, key⟩
  · have hl : r < σ'.length := (List.getElem?_eq_some_iff.1 hr).1
    obtain ⟨o, h1, h2⟩ := h.obj r o' hr
    obtain ⟨pl, h3, h4⟩ := hR.alive _ o h1
    obtain ⟨fl, pl2, h5, h6⟩ := hold r hl
    rw [h3] at h5; cases h5
    obtain ⟨c, ty, fz, pre, mid, post, q1, q2, q3, q4, q5, q6⟩ := h4.ex
    obtain ⟨k1, k2, k3⟩ := DRss.sound hR hs o' o mid h2 (VRss.flat.2 q5)
    refine ⟨pl, ?_, ⟨by rw [k2]; exact h4.len, k3 _ h4.esz, c, ty, fz, pre, mid, post, q1, q2, q3, q4, VRss.flat.1 k1, q6⟩⟩
    rw [hget r hl]
    congr 1
    exact Prod.ext (by simp only [f, hr]) h6
  · have hl : r < σ'.length := (List.getElem?_eq_some_iff.1 hr).1
    refine ⟨(f r).2, ?_⟩
    rw [hget r hl]
    congr 1
    exact Prod.ext (by simp only [f, hr]) rfl
  · obtain ⟨l1, _, h1⟩ := live r pl hr
    obtain ⟨l2, _, h2⟩ := live r' pl' hr'
    exact h.inj r r' l1 l2 (hR.inj _ _ pl pl' h1 h2 e)
  · exact (hgl g cs hg).mono st

theorem Down.sound {C : Ctx} {k : Nat} {ρ ρ' : Env} {σ σ' : Store} {γ0 γ : Places} {w0 w : World} {tmps : Array Value} (h : Down k ρ σ ρ' σ') (hR : Rel C γ σ w) (hE : EnvR γ w ρ tmps) (hst : Step γ0 w0 γ w) (hgl : Glob C γ0 w0) (hk : γ0.length ≤ k) :
    ∃ γ', Step γ0 w0 γ' w ∧ Rel C γ' σ' w ∧ EnvR γ' w ρ' tmps := by
  obtain ⟨D, rfl, h1, h2⟩ := h
  obtain ⟨γ', k1, k2, k3⟩ := h1.sound hR hst hgl hk
  exact ⟨γ', k1, k2, fun t => k3 _ _ _ (h2 t) (hE t)⟩
theorem DownV.sound {C : Ctx} {k : Nat} {v v' : AV} {cv : Value} {σ σ' : Store} {γ0 γ : Places} {w0 w : World} (h : DownV k v σ v' σ') (hR : Rel C γ σ w) (hv : VR γ w v cv) (hst : Step γ0 w0 γ w) (hgl : Glob C γ0 w0) (hk : γ0.length ≤ k) :
    ∃ γ', Step γ0 w0 γ' w ∧ Rel C γ' σ' w ∧ VR γ' w v' cv := by
  obtain ⟨D, rfl, h1, h2⟩ := h
  obtain ⟨γ', k1, k2, k3⟩ := h1.sound hR hst hgl hk
  exact ⟨γ', k1, k2, k3 _ _ _ h2 hv⟩
end Am
end Go.Proofs.Ytkffgmpbhahioaa
