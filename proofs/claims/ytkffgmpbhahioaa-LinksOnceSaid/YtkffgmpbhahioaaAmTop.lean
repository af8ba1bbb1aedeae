/- THE ABSTRACT MACHINE, part 21: from a law's contract to its row. -/
import Derived.Test.YtkffgmpbhahioaaAmRun
import Derived.Test.YtkffgmpbhahioaaRows
import Derived.ProofKit
import Derived.OpenShut
import Derived.JoinedCond
import Derived.Carry
namespace Go.Proofs.Ytkffgmpbhahioaa
namespace Am
open Go.ChangeShapes Go.WideShapes Go.ChangeAt Go.RowKit

theorem Rel.empty {C : Ctx} (hg : ∀ g, C.gl g = none) (w : World) : Rel C [] [] w :=
  ⟨rfl, by simp, by simp, by simp, fun g cs h => by rw [hg] at h; cases h⟩

theorem ACallsTo.calls {C : Ctx} {f : FuncId} {e : Nat × List RV × ACode} (hc : cFn C f = some e) {args : List AV} {σ' : Store} {b : Bool} (h : ACallsTo C f args [] (.bool b) σ') {W : World} (hR : Rel C [] [] W) {cargs : List Value} (ha : VRt [] W args cargs) :
    Calls C.P f cargs.toArray W fun e w' => e = .returned (.bool b) ∧ Below W.heap.size W w' := by
  rcases h [] W cargs hR ha with ⟨_, h⟩ | ⟨cv, γ', w', h, _⟩
  · refine h.mono ?_
    rintro e w' ⟨cv, γ', rfl, hs, _, hv⟩
    simp only [VR] at hv
    subst hv
    exact ⟨rfl, hs.os, hs.tape, hs.output, hs.size, fun k hk => hs.imm k hk (by simp)⟩
  · exfalso
    simp only [cFn, Option.bind_eq_some_iff] at hc
    obtain ⟨fn, hf, hc⟩ := hc
    split at hc
    · cases hc
    · rename_i hname
      simp only [Option.bind_eq_some_iff] at hc
      obtain ⟨c, hb, _⟩ := hc
      have h1 : fn.name ≠ "runtime.NumGoroutine" := by simpa using hname
      simp [callFunc, hf, h1, hb] at h

section
variable {H : Type} {enc : TypeId × Value → H} {P : Program}
theorem trodAll_below (hl : laidOutB P = true) {W W' : World} (hb : Below W.heap.size W W') : ∀ {ts : List TypeId} {vs : List Value} {ds : List (DataW H)} {ps : List MemPlace}, (ts.all fun t => P.readableRec t && decide (t < P.types.size)) = true →
    DataW.TrodAll enc P W 0 (fun _ => true) true ts vs ds ps → (∀ x ∈ ps, x.block < W.heap.size) → DataW.TrodAll enc P W' 0 (fun b => decide (b < W.heap.size)) true ts vs ds ps
  | [], [], [], _, _, h, _ => h
  | t :: ts, v :: vs, d :: ds, ps, ht, h, hlt => by
    obtain ⟨p, q, h1, h2, rfl⟩ := h
    simp only [List.all_cons, Bool.and_eq_true, decide_eq_true_eq] at ht
    exact ⟨p, q, Below.trod hl ht.1.1 ht.1.2 h1 hb (fun x hx => hlt x (by simp [hx])), trodAll_below hl hb ht.2 h2 (fun x hx => hlt x (by simp [hx])), rfl⟩
  | [], [], _ :: _, _, _, h, _ => h.elim
  | [], _ :: _, _, _, _, h, _ => h.elim
  | _ :: _, [], _, _, _, h, _ => h.elim
  | _ :: _, _ :: _, [], _, _, h, _ => h.elim

theorem law_post {f : Func} {s : ChangeSpec} {W W' : World} {args : Array Value} {ds gs : List (DataW H)} {before : List MemPlace} {tb : TypeId}
    (hW : DataW.Whole enc P f.params.toList s.vars false W args.toList ds gs before) (hvars : s.vars = []) (hfn : ∀ gs, gs = [] → (s.fn H (ds ++ gs)).results = [.lit (.bool true)] ∧ (s.fn H (ds ++ gs)).args = ds ∧ (s.fn H (ds ++ gs)).vars = [])
    (hres : f.resultTypes = #[tb]) (htb : P.underlying tb = some .bool) (hl : laidOutB P = true) (hpar : (f.params.toList.all fun t => P.readableRec t && decide (t < P.types.size)) = true) (hb : Below W.heap.size W W') :
    s.post enc P f false true false false W args (.bool true) W' := by
  have hlt : ∀ p ∈ before, p.block < W.heap.size := fun p hp => hW.lt p hp
  have hW0 := hW
  obtain ⟨p, q, hA, hV, rfl, hfz, hnd⟩ := hW
  have hgs : gs = [] ∧ q = [] := by
    rw [hvars] at hV
    cases gs with
    | nil => exact ⟨rfl, hV⟩
    | cons a l => exact hV.elim
  obtain ⟨rfl, rfl⟩ := hgs
  obtain ⟨k1, k2, k3⟩ := hfn [] rfl
  refine ⟨ds, [], _, [], p, [], hW0, ?_, ?_, ?_, hb.frame _, fun h => by cases h⟩
  · rw [k1, hres]
    exact trodAll_cons_mk (shut_bool htb _) trodAll_mk0
  · rw [k2]
    exact trodAll_below hl hb hpar hA (fun x hx => hlt x (by simp [hx]))
  · rw [k3, hvars]; rfl
end
end Am
end Go.Proofs.Ytkffgmpbhahioaa
