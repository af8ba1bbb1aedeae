/- THE ABSTRACT MACHINE, part 27: the store as a heap: what is read behind writes; methods told by properties. -/
import Derived.Test.YtkffgmpbhahioaaAmAuto
namespace Go.Proofs.Ytkffgmpbhahioaa
namespace Am
section
variable {α : Type} {l m : List α} {r s : Nat} {x : α}
theorem gset_eq (h : r < l.length) : (l.set r x)[r]? = some x := List.getElem?_set_self h
theorem gset_ne (h : r ≠ s) : (l.set r x)[s]? = l[s]? := List.getElem?_set_ne h
theorem gapp (h : r < l.length) : (l ++ m)[r]? = l[r]? := List.getElem?_append_left h
theorem gappr (h : l.length ≤ r) : (l ++ m)[r]? = m[r - l.length]? := List.getElem?_append_right h
theorem sappr (h : l.length ≤ r) : (l ++ m).set r x = l ++ m.set (r - l.length) x := List.set_append_right _ _ h
theorem sapp (h : r < l.length) : (l ++ m).set r x = l.set r x ++ m := List.set_append_left _ _ h
end
/-- What holds at a function's end, with nothing let go. -/
def keepP (ts : List RV) (P : AV → Store → Prop) : AExit → Env → Store → Prop
  | .exit _ => fun _ _ => False
  | _ => fun ρ σ => oks ρ σ ts = true ∧ P (retV ts ρ σ) σ
theorem ACallsP.of_keep {C : Ctx} {f : FuncId} {n : Nat} {ts : List RV} {ac : ACode} (hc : cFn C f = some (n, ts, ac)) {args : List AV} {σ : Store} {P : AV → Store → Prop} (hn : args.length ≤ n)
    (h : SWp C n σ.length ac (keepP ts P) (initE args) σ) : ACallsP C f args σ P := by
  simp only [cFn, Option.bind_eq_some_iff] at hc
  obtain ⟨fn, hf, hc⟩ := hc
  split at hc
  · cases hc
  · rename_i hname
    simp only [Option.bind_eq_some_iff, Option.map_eq_some_iff, Prod.mk.injEq] at hc
    obtain ⟨c, hb, ts', hts, ac', hac, rfl, rfl, rfl⟩ := hc
    intro γ w cargs hR ha
    left
    constructor
    · have hname' : (fn.name == "runtime.NumGoroutine") = false := by simpa using hname
      have h1 : fn.name ≠ "runtime.NumGoroutine" := by simpa using hname'
      simp [callFunc, hf, h1, hb]
    · have hl := ha.length
      refine calls_of_wp hf hb ?_
      have hw := h c hac γ w hR.gl hR.len γ { tmps := cargs.toArray ++ Array.replicate (fn.ntmps - cargs.toArray.size) undef, defers := [] } w (Step.refl _ _) hR
        (initE_ok ha _) (by simp; omega)
      refine wp_mono hw ?_
      rintro e a' w' ⟨ae, ρ', σ2, γ', rfl, hq, q1, q2, q3, q4, q5⟩
      have fin : (oks ρ' σ2 ts' = true ∧ P (retV ts' ρ' σ2) σ2) → a'.defers = [] ∧ ∃ v_1, (results fn a'.tmps).run C.P w' = .ok v_1 w' ∧ ∃ cv v γ' σ', Ending.returned v_1 = .returned cv ∧ P v σ' ∧ Step γ w γ' w' ∧ Rel C γ' σ' w' ∧ VR γ' w' v cv := by
        rintro ⟨hk, hp⟩
        obtain ⟨rv, r1, r2⟩ := run_results_ok q2 q3 hts hk
        exact ⟨q4, _, r1, _, _, γ', σ2, rfl, hp, q1, q2, r2⟩
      cases ae with
      | normal => exact fin hq
      | exit id => exact hq.elim
      | ret => exact fin hq
attribute [go_sem] gset_eq gset_ne gapp keepP keepQ not_true_eq_false not_false_eq_true decide_false decide_true List.set_set List.append_assoc gappr sapp sappr List.length_set Nat.sub_self Nat.add_sub_cancel_left List.length_append List.length_map
end Am
end Go.Proofs.Ytkffgmpbhahioaa
