/- THE ABSTRACT MACHINE, part 24: a law's contract at the empty store gives its row's. -/
import Derived.Test.YtkffgmpbhahioaaAmOpen
namespace Go.Proofs.Ytkffgmpbhahioaa
namespace Am
open Go.ChangeShapes Go.WideShapes Go.ChangeAt Go.RowKit
section
variable {H : Type} {enc : TypeId × Value → H} {P : Program} {w : World}
theorem trodAll_length {base : Nat} {spare : Nat → Bool} {held : Bool} : ∀ {ts : List TypeId} {vs : List Value} {ds : List (DataW H)} {ps : List MemPlace}, DataW.TrodAll enc P w base spare held ts vs ds ps → ds.length = ts.length
  | [], [], [], _, _ => rfl
  | t :: ts, v :: vs, d :: ds, ps, h => by
    obtain ⟨p, q, h1, h2, rfl⟩ := h
    simp [trodAll_length h2]
  | [], [], _ :: _, _, h => h.elim
  | [], _ :: _, _, _, h => h.elim
  | _ :: _, [], _, _, h => h.elim
  | _ :: _, _ :: _, [], _, h => h.elim

theorem law_contract {C : Ctx} (hg : ∀ g, C.gl g = none) {f : FuncId} {fn : Func} {e : Nat × List RV × ACode} (hc : cFn C f = some e) {d : Nat} {tys : List Ty} (htys : tysOf C.P d fn.params.toList = some tys)
    (hlaw : ∀ avs, ShAll tys avs → ACallsTo C f avs [] (.bool true) []) {s : ChangeSpec} (hvars : s.vars = [])
    (hspec : ∀ ds : List (DataW H), ds.length = fn.params.toList.length → (s.fn H ds).results = [.lit (.bool true)] ∧ (s.fn H ds).args = ds ∧ (s.fn H ds).vars = []) {tb : TypeId} (hres : fn.resultTypes = #[tb]) (htb : C.P.underlying tb = some .bool)
    (hl : laidOutB C.P = true) (hpar : (fn.params.toList.all fun t => C.P.readableRec t && decide (t < C.P.types.size)) = true)
    {W : World} {base : Nat} {args : Array Value} {ds gs : List (DataW H)} {before : List MemPlace} (hval : ∀ (j : Nat) t v, fn.params[j]? = some t → args[j]? = some v → Value.okWide C.P W .any base t v)
    (hW : DataW.Whole enc C.P fn.params.toList s.vars false W args.toList ds gs before) :
    Calls C.P f args W fun e W' => ∃ v, e = .returned v ∧ s.post enc C.P fn false true false false W args v W' := by
  have hW' := hW
  obtain ⟨p, q, hA, hV, rfl, hfz, hnd⟩ := hW
  obtain ⟨avs, h1, h2⟩ := open_all (r := .any) (b0 := base) htys (fun j t v hj hv => hval j t v (by simpa using hj) (by simpa using hv)) hA
  have hcall := (hlaw avs h2).calls hc (Rel.empty hg W) h1
  have ea : args.toList.toArray = args := by simp
  rw [ea] at hcall
  refine hcall.mono ?_
  rintro x w' ⟨rfl, hb⟩
  refine ⟨_, rfl, law_post hW' hvars (fun gs hgs => ?_) hres htb hl hpar hb⟩
  subst hgs
  rw [List.append_nil]
  exact hspec ds (trodAll_length hA)
end
end Am
end Go.Proofs.Ytkffgmpbhahioaa
