/- THE ABSTRACT MACHINE, part 18: rules for code. -/
import Derived.Test.YtkffgmpbhahioaaAmComp
import Derived.Test.YtkffgmpbhahioaaAmDown
namespace Go.Proofs.Ytkffgmpbhahioaa
namespace Am

/-- The abstract code from this state on: k elder objects keep their numbers. -/
def SWp (C : Ctx) (n k : Nat) (ac : ACode) (Q : AExit → Env → Store → Prop) (ρ : Env) (σ : Store) : Prop :=
  ∀ (c : Code), cCode C n c = some ac → ∀ (γ0 : Places) (w0 : World), Glob C γ0 w0 → γ0.length = k → ∀ (γ : Places) (a : Act) (w : World), Step γ0 w0 γ w → Rel C γ σ w → EnvR γ w ρ a.tmps → a.tmps.size = n →
    c.wp C.P (fun e a' w' => ∃ ae ρ' σ' γ', e = AExit.out ae ∧ Q ae ρ' σ' ∧ Step γ0 w0 γ' w' ∧ Rel C γ' σ' w' ∧ EnvR γ' w' ρ' a'.tmps ∧ a'.defers = a.defers ∧ a'.tmps.size = n) a w

def thenQ (K : Env → Store → Prop) (Q : AExit → Env → Store → Prop) : AExit → Env → Store → Prop
  | .normal => K
  | e => Q e
def blkQ (id : Nat) (Q : AExit → Env → Store → Prop) : AExit → Env → Store → Prop
  | .exit i => if i = id then Q .normal else Q (.exit i)
  | e => Q e

section inv
variable {C : Ctx} {n : Nat} {c : Code}
theorem cCode_skip (hc : cCode C n c = some .skip) : c = .skip ∨ ∃ l, c = .label l := by
  cases c
  case skip => exact .inl rfl
  case label l => exact .inr ⟨l, rfl⟩
  case region id ops draw => cases draw <;> simp [cCode, Option.map_eq_some_iff] at hc
  all_goals simp [cCode, Option.bind_eq_some_iff, Option.map_eq_some_iff] at hc
theorem cCode_exit {id : Nat} (hc : cCode C n c = some (.exit id)) : c = .exit id := by
  cases c
  case exit i => simp only [cCode, Option.some.injEq, ACode.exit.injEq] at hc; rw [hc]
  case region id ops draw => cases draw <;> simp [cCode, Option.map_eq_some_iff] at hc
  all_goals simp [cCode, Option.bind_eq_some_iff, Option.map_eq_some_iff] at hc
theorem cCode_ret (hc : cCode C n c = some .ret) : c = .ret := by
  cases c
  case ret => rfl
  case region id ops draw => cases draw <;> simp [cCode, Option.map_eq_some_iff] at hc
  all_goals simp [cCode, Option.bind_eq_some_iff, Option.map_eq_some_iff] at hc
theorem cCode_seq {x y : ACode} (hc : cCode C n c = some (.seq x y)) : ∃ c1 c2, c = .seq c1 c2 ∧ cCode C n c1 = some x ∧ cCode C n c2 = some y := by
  cases c
  case seq a b =>
    simp only [cCode, Option.bind_eq_some_iff, Option.map_eq_some_iff, ACode.seq.injEq] at hc
    obtain ⟨a', h1, b', h2, rfl, rfl⟩ := hc
    exact ⟨_, _, rfl, h1, h2⟩
  case region id ops draw => cases draw <;> simp [cCode, Option.map_eq_some_iff] at hc
  all_goals simp [cCode, Option.bind_eq_some_iff, Option.map_eq_some_iff] at hc
theorem cCode_cond {x : AX} {p q : ACode} (hc : cCode C n c = some (.cond x p q)) : ∃ o c1 c2, c = .cond o c1 c2 ∧ cX C o = some x ∧ cCode C n c1 = some p ∧ cCode C n c2 = some q := by
  cases c
  case cond o a b =>
    simp only [cCode, Option.bind_eq_some_iff, Option.map_eq_some_iff, ACode.cond.injEq] at hc
    obtain ⟨o', h0, a', h1, b', h2, rfl, rfl, rfl⟩ := hc
    exact ⟨_, _, _, rfl, h0, h1, h2⟩
  case region id ops draw => cases draw <;> simp [cCode, Option.map_eq_some_iff] at hc
  all_goals simp [cCode, Option.bind_eq_some_iff, Option.map_eq_some_iff] at hc
theorem cCode_block {id : Nat} {x : ACode} (hc : cCode C n c = some (.block id x)) : ∃ c1, c = .block id c1 ∧ cCode C n c1 = some x := by
  cases c
  case block i a =>
    simp only [cCode, Option.map_eq_some_iff, ACode.block.injEq] at hc
    obtain ⟨a', h1, rfl, rfl⟩ := hc
    exact ⟨_, rfl, h1⟩
  case region id ops draw => cases draw <;> simp [cCode, Option.map_eq_some_iff] at hc
  all_goals simp [cCode, Option.bind_eq_some_iff, Option.map_eq_some_iff] at hc
theorem cCode_loop {x : ACode} (hc : cCode C n c = some (.loop x)) : ∃ c1, c = .loop c1 ∧ cCode C n c1 = some x := by
  cases c
  case loop a =>
    simp only [cCode, Option.map_eq_some_iff, ACode.loop.injEq] at hc
    obtain ⟨a', h1, rfl⟩ := hc
    exact ⟨_, rfl, h1⟩
  case region id ops draw => cases draw <;> simp [cCode, Option.map_eq_some_iff] at hc
  all_goals simp [cCode, Option.bind_eq_some_iff, Option.map_eq_some_iff] at hc
theorem cCode_reg {l : List AIns} (hc : cCode C n c = some (.reg l)) : ∃ id os draw, c = .region id os draw := by
  cases c
  case region id ops draw => exact ⟨_, _, _, rfl⟩
  all_goals simp [cCode, Option.bind_eq_some_iff, Option.map_eq_some_iff] at hc
end inv

section
variable {C : Ctx} {n k : Nat} {Q : AExit → Env → Store → Prop} {ρ : Env} {σ : Store}

theorem SWp.skip (h : Q .normal ρ σ) : SWp C n k .skip Q ρ σ := by
  intro c hc γ0 w0 hgl hk γ a w hst hR hE hn
  have := cCode_skip hc
  rcases this with rfl | ⟨l, rfl⟩
  · exact wp_skip ⟨.normal, ρ, σ, γ, rfl, h, hst, hR, hE, rfl, hn⟩
  · exact wp_label ⟨.normal, ρ, σ, γ, rfl, h, hst, hR, hE, rfl, hn⟩
theorem SWp.exit {id : Nat} (h : Q (.exit id) ρ σ) : SWp C n k (.exit id) Q ρ σ := by
  intro c hc γ0 w0 hgl hk γ a w hst hR hE hn
  have := cCode_exit hc
  subst this
  exact wp_exit ⟨.exit id, ρ, σ, γ, rfl, h, hst, hR, hE, rfl, hn⟩
theorem SWp.ret (h : Q .ret ρ σ) : SWp C n k .ret Q ρ σ := by
  intro c hc γ0 w0 hgl hk γ a w hst hR hE hn
  have := cCode_ret hc
  subst this
  exact wp_ret ⟨.ret, ρ, σ, γ, rfl, h, hst, hR, hE, rfl, hn⟩
theorem SWp.mono {ac : ACode} {Q' : AExit → Env → Store → Prop} (h : SWp C n k ac Q ρ σ) (hq : ∀ e ρ σ, Q e ρ σ → Q' e ρ σ) : SWp C n k ac Q' ρ σ := by
  intro c hc γ0 w0 hgl hk γ a w hst hR hE hn
  refine wp_mono (h c hc γ0 w0 hgl hk γ a w hst hR hE hn) ?_
  rintro e a' w' ⟨ae, ρ', σ', γ', h1, h2, h3⟩
  exact ⟨ae, ρ', σ', γ', h1, hq _ _ _ h2, h3⟩
theorem SWp.seq {x y : ACode} (h : SWp C n k x (thenQ (SWp C n k y Q) Q) ρ σ) : SWp C n k (.seq x y) Q ρ σ := by
  intro c hc γ0 w0 hgl hk γ a w hst hR hE hn
  have := cCode_seq hc
  obtain ⟨c1, c2, rfl, h1, h2⟩ := this
  refine wp_seq (wp_mono (h c1 h1 γ0 w0 hgl hk γ a w hst hR hE hn) ?_)
  rintro e a' w' ⟨ae, ρ', σ', γ', rfl, hq, q1, q2, q3, q4, q5⟩
  cases ae with
  | normal =>
    refine wp_mono (hq c2 h2 γ0 w0 hgl hk γ' a' w' q1 q2 q3 q5) ?_
    rintro e a2 w2 ⟨ae, ρ2, σ2, γ2, k1, k2, k3, k4, k5, k6, k7⟩
    exact ⟨ae, ρ2, σ2, γ2, k1, k2, k3, k4, k5, k6.trans q4, k7⟩
  | exit id => exact ⟨_, ρ', σ', γ', rfl, hq, q1, q2, q3, q4, q5⟩
  | ret => exact ⟨_, ρ', σ', γ', rfl, hq, q1, q2, q3, q4, q5⟩
theorem SWp.cond {x : AX} {p q : ACode} {t : Bool} (hx : x.ev ρ = .bool t) (h1 : t = true → SWp C n k p Q ρ σ) (h2 : t = false → SWp C n k q Q ρ σ) : SWp C n k (.cond x p q) Q ρ σ := by
  intro c hc γ0 w0 hgl hk γ a w hst hR hE hn
  have := cCode_cond hc
  obtain ⟨o, c1, c2, rfl, k1, k2, k3⟩ := this
  have he := ev_ok hR hE o
  rw [← cX_ok k1, hx] at he
  simp only [VR] at he
  refine wp_cond he ?_
  cases t
  · exact h2 rfl c2 k3 γ0 w0 hgl hk γ a w hst hR hE hn
  · exact h1 rfl c1 k2 γ0 w0 hgl hk γ a w hst hR hE hn
theorem SWp.block {id : Nat} {x : ACode} (h : SWp C n k x (blkQ id Q) ρ σ) : SWp C n k (.block id x) Q ρ σ := by
  intro c hc γ0 w0 hgl hk γ a w hst hR hE hn
  have := cCode_block hc
  obtain ⟨c1, rfl, h1⟩ := this
  refine wp_block (wp_mono (h c1 h1 γ0 w0 hgl hk γ a w hst hR hE hn) ?_)
  rintro e a' w' ⟨ae, ρ', σ', γ', rfl, hq, q⟩
  cases ae with
  | normal => exact ⟨.normal, ρ', σ', γ', rfl, hq, q⟩
  | exit id' =>
    simp only [AExit.out, Exit.inBlock]
    simp only [blkQ] at hq
    split at hq
    · rename_i he
      rw [if_pos he]
      exact ⟨.normal, ρ', σ', γ', rfl, hq, q⟩
    · rename_i he
      rw [if_neg he]
      exact ⟨.exit id', ρ', σ', γ', rfl, hq, q⟩
  | ret => exact ⟨.ret, ρ', σ', γ', rfl, hq, q⟩
theorem SWp.loop {x : ACode} (I : Nat → Env → Store → Prop) (m : Nat) (h0 : I m ρ σ) (h : ∀ m ρ σ, I m ρ σ → SWp C n k x (thenQ (fun ρ' σ' => ∃ m', m' < m ∧ I m' ρ' σ') Q) ρ σ) : SWp C n k (.loop x) Q ρ σ := by
  intro c hc γ0 w0 hgl hk γ a w hst hR hE hn
  have := cCode_loop hc
  obtain ⟨c1, rfl, h1⟩ := this
  refine wp_loop_ghost (fun m a' w' => ∃ ρ' σ' γ', I m ρ' σ' ∧ Step γ0 w0 γ' w' ∧ Rel C γ' σ' w' ∧ EnvR γ' w' ρ' a'.tmps ∧ a'.defers = a.defers ∧ a'.tmps.size = n) m ⟨ρ, σ, γ, h0, hst, hR, hE, rfl, hn⟩ ?_
  rintro m a1 w1 ⟨ρ1, σ1, γ1, hI, q1, q2, q3, q4, q5⟩
  refine wp_mono (h m ρ1 σ1 hI c1 h1 γ0 w0 hgl hk γ1 a1 w1 q1 q2 q3 q5) ?_
  rintro e a2 w2 ⟨ae, ρ2, σ2, γ2, rfl, hq, r1, r2, r3, r4, r5⟩
  cases ae with
  | normal =>
    obtain ⟨m', hm, hI'⟩ := hq
    exact ⟨m', hm, ρ2, σ2, γ2, hI', r1, r2, r3, r4.trans q4, r5⟩
  | exit id => exact ⟨.exit id, ρ2, σ2, γ2, rfl, hq, r1, r2, r3, r4.trans q4, r5⟩
  | ret => exact ⟨.ret, ρ2, σ2, γ2, rfl, hq, r1, r2, r3, r4.trans q4, r5⟩
theorem SWp.reg {ops : List AIns} (h : opsWp C (Q .normal) ops Hist.none ρ σ) : SWp C n k (.reg ops) Q ρ σ := by
  intro c hc γ0 w0 hgl hk γ a w hst hR hE hn
  have := cCode_reg hc
  obtain ⟨id, os, draw, rfl⟩ := this
  simp only [cCode] at hc
  split at hc
  · rename_i hd
    have hdst := dstsLt_ok hd
    split at hc
    · split at hc
      · rename_i hok
        simp only [Option.map_eq_some_iff, ACode.reg.injEq] at hc
        obtain ⟨as, h1, rfl⟩ := hc
        have hrun := cOps_ok (K := Q .normal) os.toList 0 as (fun j => by simp) h1 Hist.none Hist.none ρ σ ⟨rfl, fun _ hs => hs⟩ h
        obtain ⟨s1, R1⟩ := hR.drawn (w' := { w with drawn := w.drawn + 1 }) rfl rfl rfl rfl
        refine wp_region_any hok.1 ?_
        refine draw_ok hok.2.1 hok.2.2 hdst os.size (Array.replicate os.size false) (List.range' 0 os.size) (by simp) (fun i => ?_) List.pairwise_lt_range' (fun i o ho hi => ?_) (by simp) Hist.none ρ σ γ a _ (by simpa using hrun) R1 (hE.mono s1) hn ?_
        · simp only [List.mem_range', Array.getD_eq_getD_getElem?, Array.getElem?_replicate]
          constructor
          · rintro ⟨j, hj, rfl⟩
            have : 0 + 1 * j < os.size := by omega
            exact ⟨this, by simp [hj]⟩
          · rintro ⟨h1, _⟩
            exact ⟨i, h1, by omega⟩
        · simp only [Array.getD_eq_getD_getElem?, Array.getElem?_replicate] at hi
          split at hi <;> simp at hi
        · intro ρ' σ' γ' a' w' k1 k2 k3 k4 k5 k6
          exact ⟨.normal, ρ', σ', γ', rfl, k1, hst.trans (s1.trans k2), k3, k4, k5, k6⟩
      · cases hc
    · simp only [Option.map_eq_some_iff, ACode.reg.injEq] at hc
      obtain ⟨as, h1, rfl⟩ := hc
      have hrun := cOps_ok (K := Q .normal) os.toList 0 as (fun j => by simp) h1 Hist.none Hist.none ρ σ ⟨rfl, fun _ hs => hs⟩ h
      refine wp_region ?_
      refine ops_ok hdst (List.range os.size) Hist.none ρ σ γ a w (by rw [List.range_eq_range']; simpa using hrun) hR hE hn ?_
      intro ρ' σ' γ' a' w' k1 k2 k3 k4 k5 k6
      exact ⟨.normal, ρ', σ', γ', rfl, k1, hst.trans k2, k3, k4, k5, k6⟩
  · cases hc
theorem SWp.seqReg {ops : List AIns} {y : ACode} (h : opsWp C (SWp C n k y Q) ops Hist.none ρ σ) : SWp C n k (.seq (.reg ops) y) Q ρ σ := SWp.seq (SWp.reg h)
theorem SWp.down {ac : ACode} {ρ' : Env} {σ' : Store} (hd : Down k ρ σ ρ' σ') (h : SWp C n k ac Q ρ' σ') : SWp C n k ac Q ρ σ := by
  intro c hc γ0 w0 hgl hk γ a w hst hR hE hn
  obtain ⟨γ', h1, h2, h3⟩ := hd.sound hR hE hst hgl (by omega)
  exact h c hc γ0 w0 hgl hk γ' a w h1 h2 h3 hn
theorem SWp.post_down {ac : ACode} (h : SWp C n k ac (fun e ρ σ => ∃ ρ' σ', Down k ρ σ ρ' σ' ∧ Q e ρ' σ') ρ σ) : SWp C n k ac Q ρ σ := by
  intro c hc γ0 w0 hgl hk γ a w hst hR hE hn
  refine wp_mono (h c hc γ0 w0 hgl hk γ a w hst hR hE hn) ?_
  rintro e a' w' ⟨ae, ρ', σ', γ', h1, ⟨ρ2, σ2, hd, hq⟩, h3, h4, h5, h6⟩
  obtain ⟨γ2, k1, k2, k3⟩ := hd.sound h4 h5 h3 hgl (by omega)
  exact ⟨ae, ρ2, σ2, γ2, h1, hq, k1, k2, k3, h6⟩
end
end Am
end Go.Proofs.Ytkffgmpbhahioaa
