/- THE ABSTRACT MACHINE, part 15: what its code says holds of the model's run of the Go function's code. -/
import Derived.Test.YtkffgmpbhahioaaAmCode
namespace Go.Proofs.Ytkffgmpbhahioaa
namespace Am

theorem cOp_run {C : Ctx} {op : Op} {a : AOp} (h : cOp C op = some a) {ρ : Env} {σ : Store} {r : AV × Store} (hr : a.run ρ σ = some r) : callOf op = none ∧ evalOp C (ev C ρ) σ op = some r := by
  cases op <;> simp only [cOp, reduceCtorEq, Option.map_eq_some_iff, Option.bind_eq_some_iff] at h
  case move x => obtain ⟨a, ha, rfl⟩ := h; exact ⟨rfl, by rw [← hr]; simp only [AOp.run, evalOp, cX_ok ha]⟩
  case assign x => obtain ⟨a, ha, rfl⟩ := h; exact ⟨rfl, by rw [← hr]; simp only [AOp.run, evalOp, cX_ok ha]⟩
  case pick c x y =>
    obtain ⟨c', hc, x', hx, y', hy, rfl⟩ := h
    refine ⟨rfl, ?_⟩
    rw [← hr]
    simp only [AOp.run, evalOp, cX_ok hc, cX_ok hx, cX_ok hy]
    rfl
  case alloc t =>
    obtain ⟨z, hz, zc, hzc, rfl⟩ := h
    refine ⟨rfl, ?_⟩
    rw [← hr]
    simp only [AOp.run, evalOp, aAlloc, hz, Option.bind_some, aBox, hzc, Option.map_some]
  case box t x => obtain ⟨a, ha, rfl⟩ := h; exact ⟨rfl, by rw [← hr]; simp only [AOp.run, evalOp, cX_ok ha]⟩
  case build t ps =>
    obtain ⟨z, hz, zc, hzc, h⟩ := h
    refine ⟨rfl, ?_⟩
    split at h
    · rename_i pl hpl
      simp only [Option.map_eq_some_iff] at h
      obtain ⟨q, hq, rfl⟩ := h
      rw [← hr]
      simp only [AOp.run, evalOp, aBuild, hz, Option.bind_some, hzc, hpl, cParts_ok ρ zc hq, Option.map_map]
      rfl
    · rename_i hpl
      simp only [Option.bind_eq_some_iff, Option.map_eq_some_iff] at h
      obtain ⟨ne, hne, n, hn, q, hq, rfl⟩ := h
      rw [← hr]
      simp only [AOp.run, evalOp, aBuild, hz, Option.bind_some, hzc, hpl, hne, hn, cParts_ok ρ zc hq, Option.map_map]
      rfl
  case buildSlice t n ps =>
    obtain ⟨e, he, sz, hsz, z, hz, h⟩ := h
    refine ⟨rfl, ?_⟩
    split at h
    · rename_i hc
      simp only [Option.map_eq_some_iff] at h
      obtain ⟨q, hq, rfl⟩ := h
      rw [← hr]
      have hc' : (ps.toList.map fun p => (p.1, ev C ρ p.2)).length = n ∧ n * sz ≤ 16777216 := by rw [List.length_map]; exact hc
      simp only [AOp.run, evalOp, aBuildSl, he, hsz, hz, Option.bind_some, if_pos hc', cElems_ok ρ hq, Option.map_map]
      rfl
    · cases h
  case load t x =>
    obtain ⟨ag, hag, n, hn, a, ha, rfl⟩ := h
    refine ⟨rfl, ?_⟩
    rw [← hr]
    simp only [AOp.run, evalOp, cX_ok ha]
    congr 1
    generalize ev C ρ x = p
    cases p <;> simp only [aLoad, rLoad, hag, hn, Option.bind_some]
    rfl
  case store t p x =>
    obtain ⟨n, hn, p', hp, x', hx, rfl⟩ := h
    refine ⟨rfl, ?_⟩
    rw [← hr]
    simp only [AOp.run, evalOp, cX_ok hp, cX_ok hx, aStore, rStore, hn, Option.bind_some]
    rfl
  case nilCheck x => obtain ⟨a, ha, rfl⟩ := h; exact ⟨rfl, by rw [← hr]; simp only [AOp.run, evalOp, cX_ok ha]; rfl⟩
  case binOp bop t x y yt =>
    obtain ⟨x', hx, y', hy, rfl⟩ := h
    refine ⟨rfl, ?_⟩
    simp only [AOp.run, Option.map_eq_some_iff] at hr
    obtain ⟨v, hv, rfl⟩ := hr
    simp only [evalOp, Option.map_eq_some_iff]
    refine ⟨v, ?_, rfl⟩
    rw [cX_ok hx, cX_ok hy] at hv
    generalize ev C ρ x = p at *
    generalize ev C ρ y = q at *
    have hq : ∀ {p q : AV}, (rEq (cBK C t) p q).bind (eqOp bop) = some v → (aEq C t p q).bind (eqOp bop) = some v := by
      intro p q h
      simp only [Option.bind_eq_some_iff] at h ⊢
      obtain ⟨b, hb, h⟩ := h
      exact ⟨b, cBK_ok hb, h⟩
    cases p <;> first | exact hq hv | (cases q <;> first | exact hq hv | (cases bop <;> exact hv) | exact hv)
  case unOp uop t x => obtain ⟨a, ha, rfl⟩ := h; exact ⟨rfl, by rw [← hr]; simp only [AOp.run, evalOp, cX_ok ha]⟩
  case convert s d x =>
    obtain ⟨x', hx, h⟩ := h
    refine ⟨rfl, ?_⟩
    simp only [evalOp]
    split at h
    · rename_i k0 k h1 h2
      simp only [Option.some.injEq] at h; subst h
      simp only [AOp.run, cX_ok hx] at hr
      generalize ev C ρ x = p at *
      cases p <;> simp only [rConv, reduceCtorEq] at hr
      simp only [aConv, h1, h2, Option.bind_some, Option.map_some]; exact hr
    · split at h
      · rename_i hst
        split at h
        · rename_i hu
          simp only [Option.some.injEq] at h; subst h
          simp only [AOp.run, cX_ok hx] at hr
          generalize ev C ρ x = p at *
          unfold rConv at hr
          unfold aConv
          cases p <;> simp only [reduceCtorEq] at hr ⊢ <;> (simp only [hst, hu, and_self, if_true]; exact hr)
        · split at h
          · rename_i hs
            simp only [Option.some.injEq] at h; subst h
            simp only [AOp.run, cX_ok hx] at hr
            generalize ev C ρ x = p at *
            cases p <;> simp only [rConv, reduceCtorEq] at hr
            simp only [aConv, hst, tyStr_u hs, Option.isSome_some, and_self, if_true]; exact hr
          · cases h
      · rename_i hst
        split at h
        · rename_i hc
          simp only [Option.some.injEq] at h; subst h
          simp only [AOp.run, cX_ok hx] at hr
          generalize ev C ρ x = p at *
          cases p <;> simp only [rConv, reduceCtorEq] at hr
          simp only [aConv, hst, hc.1, tyStr_u hc.2, Option.isSome_some, and_true, Bool.false_eq_true, if_false, if_true]; exact hr
        · cases h
  case makeFunc fn first captured =>
    cases fn <;> simp only [reduceCtorEq] at h
    split at h
    · rename_i hz
      simp only [Option.map_eq_some_iff] at h
      obtain ⟨q, hq, rfl⟩ := h
      refine ⟨rfl, ?_⟩
      rw [← hr]
      simp only [AOp.run, evalOp, hz, if_true, cXs_ok hq]
    · cases h
  case makeSlice t l c =>
    obtain ⟨e, he, sz, hsz, by_, hby, z, hz, zc, hzc, l', hl, c', hc, h⟩ := h
    refine ⟨rfl, ?_⟩
    split at h
    · rename_i hcond
      simp only [Option.some.injEq] at h; subst h
      simp only [AOp.run, cX_ok hl, cX_ok hc] at hr
      simp only [evalOp]
      generalize ev C ρ l = p at *
      generalize ev C ρ c = q at *
      cases p <;> simp only [rMake, reduceCtorEq] at hr
      cases q <;> simp only [reduceCtorEq] at hr
      split at hr
      · rename_i hx
        simp only [aMake, he, hsz, hby, hz, hzc, Option.bind_some]
        rw [if_pos ⟨hx.1, hx.2.1, hx.2.2, hcond.1, hcond.2⟩]; exact hr
      · cases hr
    · cases h
  case slice t x lo hi mx =>
    obtain ⟨x', hx, lo', hlo, hi', hhi, mx', hmx, h⟩ := h
    refine ⟨rfl, ?_⟩
    simp only [evalOp]
    split at h
    · rename_i hst
      simp only [Option.some.injEq] at h; subst h
      simp only [AOp.run, cX_ok hx, cXo_ok hlo, cXo_ok hhi, cXo_ok hmx, Option.map_eq_some_iff] at hr
      obtain ⟨v, hv, rfl⟩ := hr
      generalize ev C ρ x = p at *
      cases p <;> simp only [rSlice, reduceCtorEq] at hv
      simp only [aSlice, hst, if_true, hv, Option.map_some]
    · split at h
      · rename_i ne hne
        simp only [Option.map_eq_some_iff] at h
        obtain ⟨sz, hsz, rfl⟩ := h
        simp only [AOp.run, cX_ok hx, cXo_ok hlo, cXo_ok hhi, cXo_ok hmx, Option.map_eq_some_iff] at hr
        obtain ⟨v, hv, rfl⟩ := hr
        generalize ev C ρ x = p at *
        cases p <;> simp only [rSlice, reduceCtorEq] at hv
        simp only [aSlice, hne, hsz, Option.bind_some, hv, Option.map_some]
      · simp only [Option.bind_eq_some_iff, Option.map_eq_some_iff] at h
        obtain ⟨e, he, sz, hsz, rfl⟩ := h
        simp only [AOp.run, cX_ok hx, cXo_ok hlo, cXo_ok hhi, cXo_ok hmx, Option.map_eq_some_iff] at hr
        obtain ⟨v, hv, rfl⟩ := hr
        generalize ev C ρ x = p at *
        cases p <;> simp only [rSlice, reduceCtorEq] at hv <;> simp only [aSlice, he, hsz, Option.bind_some, hv, Option.map_some]
  case fieldAddr s x f =>
    obtain ⟨k, hk, x', hx, rfl⟩ := h
    refine ⟨rfl, ?_⟩
    simp only [AOp.run, cX_ok hx, Option.map_eq_some_iff] at hr
    obtain ⟨v, hv, rfl⟩ := hr
    simp only [evalOp]
    generalize ev C ρ x = p at *
    cases p <;> simp only [rFa, reduceCtorEq] at hv <;> simp only [aFieldAddr, hk, Option.map_some, Option.bind_some]
    · simp only [Option.some.injEq] at hv; subst hv; rfl
    · rw [hv]; rfl
  case field s x f =>
    obtain ⟨y, hy, ag, hag, n, hn, x', hx, rfl⟩ := h
    refine ⟨rfl, ?_⟩
    simp only [AOp.run, cX_ok hx, Option.map_eq_some_iff] at hr
    obtain ⟨v, hv, rfl⟩ := hr
    simp only [evalOp]
    generalize ev C ρ x = p at *
    cases p <;> simp only [rFld, reduceCtorEq] at hv
    simp only [aField, hy, hag, hn, Option.bind_some, hv, Option.map_some]
  case indexAddr t x i =>
    obtain ⟨x', hx, i', hi, h⟩ := h
    refine ⟨rfl, ?_⟩
    simp only [evalOp]
    split at h
    · rename_i ne hne
      simp only [Option.map_eq_some_iff] at h
      obtain ⟨sz, hsz, rfl⟩ := h
      simp only [AOp.run, cX_ok hx, cX_ok hi] at hr
      rw [← hr]
      congr 1
      generalize ev C ρ i = q
      cases q <;> simp only [aIndexAddr, hne, hsz, Option.bind_some]
    · rename_i hne
      simp only [Option.bind_eq_some_iff, Option.map_eq_some_iff] at h
      obtain ⟨e, he, sz, hsz, rfl⟩ := h
      simp only [AOp.run, cX_ok hx, cX_ok hi] at hr
      rw [← hr]
      congr 1
      generalize ev C ρ i = q
      cases q <;> simp only [aIndexAddr, hne, he, hsz, Option.bind_some]
  case index t x i =>
    obtain ⟨x', hx, i', hi, h⟩ := h
    refine ⟨rfl, ?_⟩
    simp only [evalOp]
    split at h
    · rename_i hst
      simp only [Option.some.injEq] at h; subst h
      simp only [AOp.run, cX_ok hx, cX_ok hi, Option.map_eq_some_iff] at hr
      obtain ⟨v, hv, rfl⟩ := hr
      generalize ev C ρ x = p at *
      generalize ev C ρ i = q at *
      cases p <;> simp only [rIxStr, reduceCtorEq] at hv
      cases q <;> simp only [reduceCtorEq] at hv
      simp only [aIndex, hst, if_true, hv, Option.map_some]
    · simp only [Option.bind_eq_some_iff, Option.map_eq_some_iff] at h
      obtain ⟨ne, hne, ag, hag, sz, hsz, rfl⟩ := h
      simp only [AOp.run, cX_ok hx, cX_ok hi, Option.map_eq_some_iff] at hr
      obtain ⟨v, hv, rfl⟩ := hr
      generalize ev C ρ x = p at *
      generalize ev C ρ i = q at *
      cases p <;> simp only [rIxArr, reduceCtorEq] at hv
      cases q <;> simp only [reduceCtorEq] at hv
      simp only [aIndex, hne, hag, hsz, Option.bind_some]
      split at hv
      · rename_i hin
        rw [if_pos hin, hv, Option.map_some]
      · cases hv
  case extract x i => obtain ⟨a, ha, rfl⟩ := h; exact ⟨rfl, by rw [← hr]; simp only [AOp.run, evalOp, cX_ok ha]; rfl⟩
  case call c =>
    obtain ⟨callee, cargs, ats⟩ := c
    cases callee <;> simp only [reduceCtorEq, Option.bind_eq_some_iff, Option.map_eq_some_iff] at h
    · obtain ⟨f, hf, xs, hxs, rfl⟩ := h
      simp [AOp.run] at hr
    · rename_i b
      obtain ⟨xs, hxs, h⟩ := h
      refine ⟨rfl, ?_⟩
      simp only [evalOp]
      have hm := cXs_ok hxs ρ
      rw [← hm]
      split at h
      · rename_i t x hat
        split at h
        · rename_i hst
          simp only [Option.some.injEq] at h; subst h
          simp only [AOp.run] at hr
          simp only [List.map_cons, List.map_nil, hat, aBuiltin]
          generalize x.ev ρ = p at *
          cases p <;> simp only [reduceCtorEq] at hr
          simp only [aLen, hst, if_true, Option.map_some]; exact hr
        · split at h
          · rename_i hsl
            obtain ⟨e, he⟩ := Option.isSome_iff_exists.1 hsl
            simp only [Option.some.injEq] at h; subst h
            simp only [AOp.run, Option.map_eq_some_iff] at hr
            obtain ⟨v, hv, rfl⟩ := hr
            simp only [List.map_cons, List.map_nil, hat, aBuiltin]
            generalize x.ev ρ = p at *
            cases p <;> simp only [rLenSl, reduceCtorEq] at hv <;> simp only [aLen, he, Option.map_some, hv]
          · cases h
      · rename_i t t' s x hat
        simp only [Option.bind_eq_some_iff] at h
        obtain ⟨e, he, sz, hsz, by_, hby, z, hz, zc, hzc, h⟩ := h
        split at h
        · rename_i hcond
          simp only [Option.some.injEq] at h; subst h
          simp only [AOp.run, Option.bind_eq_some_iff] at hr
          obtain ⟨ys, hys, hr⟩ := hr
          simp only [List.map_cons, List.map_nil, hat, aBuiltin, aAppend, he, hsz, hby, hz, hzc, hys, Option.bind_some]
          rw [if_pos hcond]; exact hr
        · cases h
      · rename_i t t' d s hat
        simp only [Option.bind_eq_some_iff, Option.map_eq_some_iff] at h
        obtain ⟨e, he, sz, hsz, rfl⟩ := h
        simp only [AOp.run] at hr
        simp only [List.map_cons, List.map_nil, hat, aBuiltin, aCopy, he, hsz, Option.bind_some]
        exact hr
      · rename_i t x hat
        simp only [Option.bind_eq_some_iff, Option.map_eq_some_iff] at h
        obtain ⟨e, he, z, hz, zc, hzc, rfl⟩ := h
        simp only [AOp.run] at hr
        simp only [List.map_cons, List.map_nil, hat, aBuiltin, aClear, he, Option.bind_some]
        generalize x.ev ρ = p at *
        cases p <;> simp only [rClear, reduceCtorEq] at hr
        · exact hr
        · simp only [hz, hzc, Option.bind_some]; exact hr
      · simp only [Option.some.injEq] at h; subst h
        simp only [AOp.run] at hr
        simp only [List.map_cons, List.map_nil, aBuiltin]; exact hr
      · simp only [Option.some.injEq] at h; subst h
        simp only [AOp.run] at hr
        simp only [List.map_cons, List.map_nil, aBuiltin]; exact hr
      · cases h
end Am
end Go.Proofs.Ytkffgmpbhahioaa
