import Derived.Test.YtncenefkbpelbaaDoorK51171d0a9
import Derived.Test.YtncenefkbpelbaaDoorK31c3f020b
import Derived.Test.YtncenefkbpelbaaDoorRows
import Derived.Test.YtncenefkbpelbaaDoorCards
import Derived.Test.YtncenefkbpelbaaDoorTie
import Derived.Test.YtncenefkbpelbaaDoorK2d3b92f56
import Derived.ProofKit
import Derived.LaidMore
import Derived.OpenShut
import Derived.Stop.Joined
import Derived.SevenTiedAt
import Derived.MakeChecks
set_option linter.unusedSimpArgs false
set_option linter.unusedVariables false
open Nat (reduceEqDiff reduceAdd reduceMul reduceSub reduceLeDiff)
open Int (reduceToNat reducePow)
section
/- Stage: contracts: a law's leaves; is a log long? -/
namespace Go.Proofs.YtncenefkbpelbaaDoor
namespace Am
def stD (L : List (List UInt8)) (i : Nat) : List UInt8 := L.getD i []
theorem z5w {L : List (List UInt8)} {i : Nat} (h : i < L.length) : stD L i ∈ L := by
  rw [stD, List.getD_eq_getElem?_getD, List.getElem?_eq_getElem h]; exact List.getElem_mem h
theorem z6n {L : List (List UInt8)} {i : Nat} (h : i < L.length) : L.take (i + 1) = L.take i ++ [stD L i] := by
  rw [List.take_add_one, stD, List.getD_eq_getElem?_getD, List.getElem?_eq_getElem h]; rfl
def lvs (L : List (List UInt8)) : List Hash := L.map lfH
theorem zi (L : List (List UInt8)) : (lvs L).length = L.length := by simp [lvs]
def z5n (L : List (List UInt8)) : Bool := L.any (fun s => decide (200 < s.length)) || decide (60 < L.length)
attribute [local irreducible] ACallsTo ACallsP
set_option maxHeartbeats 4000000 in
theorem z9h (O : Store) (L : List (List UInt8)) (y : AV) (hy : SlV 1 (strs L) y) (hL : ∀ s ∈ L, s.length < 1000000) (hl : L.length < 1000000) : ACallsTo TC 24 [y] O (zz 32 (hr (lvs L))) O := by
  have r1 := hy.len
  rw [z8] at r1
  unfold z12 at r1
  refine ACallsTo.of_body q1pok (by simp) fun hw _ => ?_
  repeat' (first|refine zW.zs ?_|refine zW.zb ?_|refine zW.zc ?_|refine zW.zt rfl ?_|refine zW.zf rfl ?_|(refine zW.zd rfl (fun ht => ?_) (fun ht => ?_)<;>try (exfalso;omega))|((first|refine zW.zr ?_|refine zW.zk ?_|refine zW.ze ?_|refine zW.zq ?_|((first|apply zg0|apply zg1|apply zg2|apply zg3|apply zg4|apply zg5|apply zg6|apply zg7)<;>intro ht));all_goals try simp (disch:=first|omega|(simp only [lens,z7,z6,List.length_reverse,z8,List.length_map];first|done|omega)) only [go_sem,reduceEqDiff,Nat.reduceBEq,reduceAdd,reduceMul,reduceSub,reduceLeDiff,reduceToNat,reducePow, r1]))
  refine zW.loop (fun m Z O' => ∃ (i : Nat) (v : AV), m + i = L.length /\ OwnN 32 O O' v (hr (lvs (L.take i))) /\ Z 0 = y /\ Z 3 = v /\ Z 4 = .int .i64 i) L.length ?_ ?_
  · refine ⟨0, .nilsl, by omega, ?_, by simp (disch:=first|omega|(simp only [lens,z7,z6,List.length_reverse,z8,List.length_map];first|done|omega)) only [go_sem,reduceEqDiff,Nat.reduceBEq,reduceAdd,reduceMul,reduceSub,reduceLeDiff,reduceToNat,reducePow], by simp (disch:=first|omega|(simp only [lens,z7,z6,List.length_reverse,z8,List.length_map];first|done|omega)) only [go_sem,reduceEqDiff,Nat.reduceBEq,reduceAdd,reduceMul,reduceSub,reduceLeDiff,reduceToNat,reducePow], by simp (disch:=first|omega|(simp only [lens,z7,z6,List.length_reverse,z8,List.length_map];first|done|omega)) only [go_sem,reduceEqDiff,Nat.reduceBEq,reduceAdd,reduceMul,reduceSub,reduceLeDiff,reduceToNat,reducePow]; rfl⟩
    exact ⟨[], by simp, .inl ⟨by simp [lvs, hr], rfl⟩⟩
  · rintro m Z O' ⟨i, v, hm, hO, q0, q3, q4⟩
    by_cases hi : i < L.length
    · obtain ⟨ex, rfl⟩ := hy.vsl (by rw [z8]; omega)
      have hg := z6k hi
      have hLf := fun O => zfk O (stD L i) (by have := hL _ (z5w hi); omega)
      obtain ⟨v', O2, ha, hO2⟩ := hO.app (ys := [hc (lfH (stD L i))]) (by simp) (by rw [z6, zi, List.length_take]; simp; omega)
      have hcat : hr (lvs (L.take i)) ++ [hc (lfH (stD L i))] = hr (lvs (L.take (i + 1))) := by rw [z6n hi]; simp [lvs, hr]
      rw [hcat] at hO2
      rw [show L.getD i [] = stD L i from rfl] at hg
      generalize stD L i = s at *
      repeat' (first|refine zW.zs ?_|refine zW.zb ?_|refine zW.zc ?_|refine zW.zt rfl ?_|refine zW.zf rfl ?_|(refine zW.zd rfl (fun ht => ?_) (fun ht => ?_)<;>try (exfalso;omega))|((first|refine zW.zr ?_|refine zW.zk ?_|refine zW.ze ?_|refine zW.zq ?_|(apply callW.mk_pu; (first | exact (fun _ => hLf _))) | (apply callW.za; (first | exact (hLf _))) | ((first|apply zg0|apply zg1|apply zg2|apply zg3|apply zg4|apply zg5|apply zg6|apply zg7)<;>intro ht));all_goals try simp (disch:=first|omega|(simp only [lens,z7,z6,List.length_reverse,z8,List.length_map];first|done|omega)) only [go_sem,reduceEqDiff,Nat.reduceBEq,reduceAdd,reduceMul,reduceSub,reduceLeDiff,reduceToNat,reducePow, q0, q3, q4, hg, r1, ha]))
      exact ⟨m - 1, by omega, i + 1, v', by omega, hO2, by simp⟩
    · obtain rfl : i = L.length := by omega
      rw [List.take_of_length_le (Nat.le_refl _)] at hO
      repeat' (first|refine zW.zs ?_|refine zW.zb ?_|refine zW.zc ?_|refine zW.zt rfl ?_|refine zW.zf rfl ?_|(refine zW.zd rfl (fun ht => ?_) (fun ht => ?_)<;>try (exfalso;omega))|((first|refine zW.zr ?_|refine zW.zk ?_|refine zW.ze ?_|refine zW.zq ?_|((first|apply zg0|apply zg1|apply zg2|apply zg3|apply zg4|apply zg5|apply zg6|apply zg7)<;>intro ht));all_goals try simp (disch:=first|omega|(simp only [lens,z7,z6,List.length_reverse,z8,List.length_map];first|done|omega)) only [go_sem,reduceEqDiff,Nat.reduceBEq,reduceAdd,reduceMul,reduceSub,reduceLeDiff,reduceToNat,reducePow, q0, q3, q4, r1]))
      exact hO.froze hw (z3f _)
set_option maxHeartbeats 4000000 in
theorem zhq (O : Store) (L : List (List UInt8)) (y : AV) (hy : SlV 1 (strs L) y) (hl : L.length < 9223372036854775808) : ACallsTo TC 22 [y] O (.bool (z5n L)) O := by
  have r1 := hy.len
  rw [z8] at r1
  unfold z12 at r1
  refine ACallsTo.of_body q1ook (by simp) fun hw _ => ?_
  repeat' (first|refine zW.zs ?_|refine zW.zb ?_|refine zW.zc ?_|refine zW.zt rfl ?_|refine zW.zf rfl ?_|(refine zW.zd rfl (fun ht => ?_) (fun ht => ?_)<;>try (exfalso;omega))|((first|refine zW.zr ?_|refine zW.zk ?_|refine zW.ze ?_|refine zW.zq ?_|((first|apply zg0|apply zg1|apply zg2|apply zg3|apply zg4|apply zg5|apply zg6|apply zg7)<;>intro ht));all_goals try simp (disch:=first|omega|(simp only [lens,z7,z6,List.length_reverse,z8,List.length_map];first|done|omega)) only [go_sem,reduceEqDiff,Nat.reduceBEq,reduceAdd,reduceMul,reduceSub,reduceLeDiff,reduceToNat,reducePow, r1]))
  refine zW.loop (fun m Z O' => ∃ i : Nat, m + i = L.length /\ O' = O /\ (L.take i).any (fun s => decide (200 < s.length)) = false /\ Z 0 = y /\ Z 3 = .int .i64 i) L.length ?_ ?_
  · exact ⟨0, by omega, rfl, by simp, by simp (disch:=first|omega|(simp only [lens,z7,z6,List.length_reverse,z8,List.length_map];first|done|omega)) only [go_sem,reduceEqDiff,Nat.reduceBEq,reduceAdd,reduceMul,reduceSub,reduceLeDiff,reduceToNat,reducePow], by simp (disch:=first|omega|(simp only [lens,z7,z6,List.length_reverse,z8,List.length_map];first|done|omega)) only [go_sem,reduceEqDiff,Nat.reduceBEq,reduceAdd,reduceMul,reduceSub,reduceLeDiff,reduceToNat,reducePow]; rfl⟩
  · rintro m Z O' ⟨i, hm, rfl, ht, q0, q3⟩
    by_cases hi : i < L.length
    · obtain ⟨ex, rfl⟩ := hy.vsl (by rw [z8]; omega)
      have hg := z6k hi
      rw [show L.getD i [] = stD L i from rfl] at hg
      by_cases h2 : 200 < (stD L i).length
      · have hb : z5n L = true := by
          unfold z5n
          rw [List.any_eq_true.2 ⟨stD L i, z5w hi, decide_eq_true h2⟩]; rfl
        rw [hb]
        have h2' : ((stD L i).length : Int) > 200 := by omega
        repeat' (first|refine zW.zs ?_|refine zW.zb ?_|refine zW.zc ?_|refine zW.zt rfl ?_|refine zW.zf rfl ?_|(refine zW.zd rfl (fun ht => ?_) (fun ht => ?_)<;>try (exfalso;omega))|((first|refine zW.zr ?_|refine zW.zk ?_|refine zW.ze ?_|refine zW.zq ?_|((first|apply zg0|apply zg1|apply zg2|apply zg3|apply zg4|apply zg5|apply zg6|apply zg7)<;>intro ht));all_goals try simp (disch:=first|omega|(simp only [lens,z7,z6,List.length_reverse,z8,List.length_map];first|done|omega)) only [go_sem,reduceEqDiff,Nat.reduceBEq,reduceAdd,reduceMul,reduceSub,reduceLeDiff,reduceToNat,reducePow, q0, q3, hg, r1, h2']))
        exact DownV.same hw z3x
      · have h2' : ¬ ((stD L i).length : Int) > 200 := by omega
        have ht2 : (L.take (i + 1)).any (fun s => decide (200 < s.length)) = false := by
          rw [z6n hi, List.any_append, ht]
          simp [h2]
          try omega
        repeat' (first|refine zW.zs ?_|refine zW.zb ?_|refine zW.zc ?_|refine zW.zt rfl ?_|refine zW.zf rfl ?_|(refine zW.zd rfl (fun ht => ?_) (fun ht => ?_)<;>try (exfalso;omega))|((first|refine zW.zr ?_|refine zW.zk ?_|refine zW.ze ?_|refine zW.zq ?_|((first|apply zg0|apply zg1|apply zg2|apply zg3|apply zg4|apply zg5|apply zg6|apply zg7)<;>intro ht));all_goals try simp (disch:=first|omega|(simp only [lens,z7,z6,List.length_reverse,z8,List.length_map];first|done|omega)) only [go_sem,reduceEqDiff,Nat.reduceBEq,reduceAdd,reduceMul,reduceSub,reduceLeDiff,reduceToNat,reducePow, q0, q3, hg, r1, h2']))
        exact ⟨m - 1, by omega, i + 1, by omega, ht2, by simp⟩
    · obtain rfl : i = L.length := by omega
      rw [List.take_of_length_le (Nat.le_refl _)] at ht
      unfold z5n
      rw [ht, Bool.false_or]
      by_cases h6 : 60 < L.length
      · rw [decide_eq_true h6]
        have h6' : (L.length : Int) > 60 := by omega
        repeat' (first|refine zW.zs ?_|refine zW.zb ?_|refine zW.zc ?_|refine zW.zt rfl ?_|refine zW.zf rfl ?_|(refine zW.zd rfl (fun ht => ?_) (fun ht => ?_)<;>try (exfalso;omega))|((first|refine zW.zr ?_|refine zW.zk ?_|refine zW.ze ?_|refine zW.zq ?_|((first|apply zg0|apply zg1|apply zg2|apply zg3|apply zg4|apply zg5|apply zg6|apply zg7)<;>intro ht));all_goals try simp (disch:=first|omega|(simp only [lens,z7,z6,List.length_reverse,z8,List.length_map];first|done|omega)) only [go_sem,reduceEqDiff,Nat.reduceBEq,reduceAdd,reduceMul,reduceSub,reduceLeDiff,reduceToNat,reducePow, q0, q3, r1, h6']))
        exact DownV.same hw z3x
      · rw [decide_eq_false h6]
        have h6' : ¬ (L.length : Int) > 60 := by omega
        repeat' (first|refine zW.zs ?_|refine zW.zb ?_|refine zW.zc ?_|refine zW.zt rfl ?_|refine zW.zf rfl ?_|(refine zW.zd rfl (fun ht => ?_) (fun ht => ?_)<;>try (exfalso;omega))|((first|refine zW.zr ?_|refine zW.zk ?_|refine zW.ze ?_|refine zW.zq ?_|((first|apply zg0|apply zg1|apply zg2|apply zg3|apply zg4|apply zg5|apply zg6|apply zg7)<;>intro ht));all_goals try simp (disch:=first|omega|(simp only [lens,z7,z6,List.length_reverse,z8,List.length_map];first|done|omega)) only [go_sem,reduceEqDiff,Nat.reduceBEq,reduceAdd,reduceMul,reduceSub,reduceLeDiff,reduceToNat,reducePow, q0, q3, r1, h6']))
        exact DownV.same hw z3x
end Am
end Go.Proofs.YtncenefkbpelbaaDoor
end
section
/- Stage: contracts: Add. -/
namespace Go.Proofs.YtncenefkbpelbaaDoor
namespace Am
@[go_sem] theorem stC_set33 (n : Int) (root : Hash) (rn m : Int) (z v b : AV) : (stC n root rn z v).take 33 ++ .int .i64 m :: b :: (stC n root rn z v).drop 35 = stC n root m b v := by
  have e : (stC n root rn z v).drop 35 = [v] := by
    have := zoh n root rn z v
    have h2 : (stC n root rn z v).drop 35 = ((stC n root rn z v).drop 33).drop 2 := by rw [List.drop_drop]
    rw [h2, this]; rfl
  have e2 : (stC n root rn z v).take 33 = .int .i64 n :: hc root := by rw [stC, List.take_succ_cons, z7y]
  rw [e, e2]; rfl
@[go_sem] theorem stC_set35 (n : Int) (root : Hash) (rn : Int) (z v b : AV) : (stC n root rn z v).take 35 ++ b :: (stC n root rn z v).drop 36 = stC n root rn z b := by
  have e : (stC n root rn z v).drop 36 = [] := List.drop_eq_nil_of_le (by rw [zh]; omega)
  have e2 : (stC n root rn z v).take 35 = .int .i64 n :: (hc root ++ [.int .i64 rn, z]) := by
    have h3 : stC n root rn z v = (.int .i64 n :: (hc root ++ [.int .i64 rn, z])) ++ [v] := by simp [stC]
    rw [h3, List.take_append_of_le_length (by simp [z7]), List.take_of_length_le (by simp [z7])]
  rw [e, e2]; simp [stC]
theorem ACallsP.of_keepW {C : Ctx} {f : FuncId} {n : Nat} {ts : List RV} {ac : ACode} (hc : cFn C f = some (n, ts, ac)) {args : List AV} {O : Store} {P : AV -> Store -> Prop} (hn : args.length <= n)
    (h : Wf O.length O -> zW C n O.length ac (z81 ts P) (z1j args) O) : ACallsP C f args O P := by
  intro γ w cargs hR ha
  exact ACallsP.of_keep hc hn (h hR.wf) γ w cargs hR ha
/-- A slice's own row. -/
def RowAt (sz : Nat) (O : Store) (sid : Option Nat) (v : AV) (es : List (List AV)) : Prop :=
  (sid = none /\ es = [] /\ v = .nilsl) \/ ∃ q, sid = some q /\ es ≠ [] /\ v = .sl q 0 es.length none sz /\ O[q]? = some (some es)
theorem RowAt.rd {sz : Nat} {O : Store} {sid : Option Nat} {v : AV} {es : List (List AV)} (h : RowAt sz O sid v es) : RdSl O sz es v := by
  rcases h with ⟨_, h, rfl⟩ | ⟨r, _, _, rfl, hg⟩
  · exact .inl (.inl ⟨rfl, h⟩)
  · exact .inr ⟨r, 0, none, es, rfl, hg, by omega, by simp⟩
theorem RowAt.keep {sz : Nat} {O O' : Store} {sid : Option Nat} {v : AV} {es : List (List AV)} (h : RowAt sz O sid v es) (hk : ∀ q, sid = some q -> O'[q]? = O[q]?) : RowAt sz O' sid v es := by
  rcases h with h | ⟨r, e, h2, h3, hg⟩
  · exact .inl h
  · exact .inr ⟨r, e, h2, h3, by rw [hk r e]; exact hg⟩
theorem RowAt.cells {sz : Nat} {O : Store} {sid : Option Nat} {v : AV} {es : List (List AV)} (h : RowAt sz O sid v es) : cellsOf v = some [v] := by
  rcases h with ⟨_, _, rfl⟩ | ⟨r, _, _, rfl, _⟩ <;> rfl
theorem RowAt.lt {sz : Nat} {O : Store} {sid : Option Nat} {v : AV} {es : List (List AV)} (h : RowAt sz O sid v es) {q : Nat} (hq : sid = some q) : q < O.length := by
  rcases h with ⟨e, _, _⟩ | ⟨r, e, _, _, hg⟩
  · rw [e] at hq; cases hq
  · rw [e] at hq; cases hq; exact slen hg
/-- What stays: all elder objects but one and its row; the row is the same one or a new one. -/
structure StFr (O O' : Store) (r : Nat) (sid sid' : Option Nat) : Prop where
  st : ∀ j, j < O.length -> j ≠ r -> sid ≠ some j -> O'[j]? = O[j]?
  new : sid' = sid \/ ∃ q, sid' = some q /\ O.length <= q
  le : O.length <= O'.length
theorem StFr.ext {O O' : Store} {r : Nat} {sid : Option Nat} (h : Ext O O') : StFr O O' r sid sid := by
  refine ⟨fun j hj _ _ => ?_, .inl rfl, h.le⟩
  obtain ⟨y, rfl⟩ := h
  exact gapp hj
/-- A stage, in memory. -/
def StgIs (O : Store) (r : Nat) (hn : Nat) (root : Hash) (rn : Nat) (hs : List Hash) (L : List (List UInt8)) (sid : Option Nat) : Prop :=
  ∃ z v, O[r]? = some (some [stC hn root rn z v]) /\ SlV 32 (hr hs) z /\ RowAt 1 O sid v (strs L)
theorem StgIs.keep {O O' : Store} {r hn : Nat} {root : Hash} {rn : Nat} {hs : List Hash} {L : List (List UInt8)} {sid : Option Nat} (h : StgIs O r hn root rn hs L sid) (h0 : O'[r]? = O[r]?) (hk : ∀ q, sid = some q -> O'[q]? = O[q]?) : StgIs O' r hn root rn hs L sid := by
  obtain ⟨z, v, hg, hz, hv⟩ := h
  exact ⟨z, v, by rw [h0]; exact hg, hz, hv.keep hk⟩
theorem StgIs.ext {O O' : Store} {r hn : Nat} {root : Hash} {rn : Nat} {hs : List Hash} {L : List (List UInt8)} {sid : Option Nat} (h : StgIs O r hn root rn hs L sid) (he : Ext O O') : StgIs O' r hn root rn hs L sid := by
  obtain ⟨y, rfl⟩ := he
  have h' := h
  obtain ⟨z, v, hg, hz, hv⟩ := h'
  exact h.keep (gapp (slen hg)) (fun q hq => gapp (hv.lt hq))
def z4f (X : List (List UInt8)) : Bool := X.any (fun s => decide (200 < s.length))
/-- The range behind a chunk. -/
def nxH (rn : Nat) (hs : List Hash) (X : List (List UInt8)) : List Hash := (extR rn hs.reverse (lvs X)).reverse
/-- What Add answers. -/
def addE (hn : Nat) (root : Hash) (rn : Nat) (hs : List Hash) (X : List (List UInt8)) (P : List Hash) : Int :=
  if X.length < 1 \/ 16 < X.length \/ hn < rn + X.length then 2 else if z4f X = true then 3
  else if chkH ((rn + X.length : Nat) : Int) hn (z4u (nxH rn hs X).reverse) root P = 0 then 0 else 80
/-- What Add does. -/
def AddP (O : Store) (r hn : Nat) (root : Hash) (rn : Nat) (hs : List Hash) (L X : List (List UInt8)) (P : List Hash) (sid : Option Nat) (a : AV) (O' : Store) : Prop :=
  a = .int .i64 (addE hn root rn hs X P) /\ ∃ sid', StFr O O' r sid sid' ∧
    StgIs O' r hn root (if addE hn root rn hs X P = 0 then rn + X.length else rn) (if addE hn root rn hs X P = 0 then nxH rn hs X else hs) (if addE hn root rn hs X P = 0 then L ++ X else L) sid'
theorem AddP.no {O O' : Store} {r hn : Nat} {root : Hash} {rn : Nat} {hs : List Hash} {L X : List (List UInt8)} {P : List Hash} {sid : Option Nat} {e : Int} (hT : StgIs O r hn root rn hs L sid)
    (he : addE hn root rn hs X P = e) (h0 : e ≠ 0) (hx : Ext O O') : AddP O r hn root rn hs L X P sid (.int .i64 e) O' := by
  subst he
  refine ⟨rfl, sid, .ext hx, ?_⟩
  rw [if_neg h0, if_neg h0, if_neg h0]
  exact hT.ext hx
theorem AddP.is {O : Store} {r hn : Nat} {root : Hash} {rn : Nat} {hs : List Hash} {L X : List (List UInt8)} {P : List Hash} {sid : Option Nat} (hT : StgIs O r hn root rn hs L sid) (hX : X ≠ []) : ∃ a O', AddP O r hn root rn hs L X P sid a O' := by
  by_cases h : addE hn root rn hs X P = 0
  · obtain ⟨z, v, hg, hz, hv⟩ := hT
    have hrl := slen hg
    have hne : strs (L ++ X) ≠ [] := fun e => by
      have h1 : (strs (L ++ X)).length = 0 := by rw [e]; rfl
      rw [z8, List.length_append] at h1
      exact hX (List.eq_nil_of_length_eq_zero (by omega))
    refine ⟨_, (O.set r (some [stC hn root ((rn + X.length : Nat) : Int) (zz 32 (hr (nxH rn hs X))) (.sl O.length 0 (strs (L ++ X)).length none 1)])) ++ [some (strs (L ++ X))], rfl, some O.length, ⟨fun j hj hjr _ => ?_, .inr ⟨O.length, rfl, Nat.le_refl _⟩, by simp⟩, ?_⟩
    · rw [gapp (by simpa using hj), z1e (fun e => hjr e.symm)]
    · rw [if_pos h, if_pos h, if_pos h]
      refine ⟨_, _, by rw [gapp (by simpa using hrl), z4b hrl], z27 _ _, .inr ⟨O.length, rfl, hne, rfl, ?_⟩⟩
      rw [z4e (by simp)]; simp
  · exact ⟨_, O, .no hT rfl h (.refl _)⟩
theorem AddP.ok {O O' : Store} {r hn : Nat} {root : Hash} {rn : Nat} {hs : List Hash} {L X : List (List UInt8)} {P : List Hash} {sid : Option Nat} {z2 : AV} {q' : Nat} (he : addE hn root rn hs X P = 0) (hX : X ≠ [])
    (hg : O'[r]? = some (some [stC hn root ((rn + X.length : Nat) : Int) z2 (.sl q' 0 (strs (L ++ X)).length none 1)])) (hz : SlV 32 (hr (nxH rn hs X)) z2) (hq : O'[q']? = some (some (strs (L ++ X)))) (hqn : O.length <= q') (hle : O.length <= O'.length)
    (hst : ∀ j, j < O.length -> j ≠ r -> sid ≠ some j -> O'[j]? = O[j]?) : AddP O r hn root rn hs L X P sid (.int .i64 0) O' := by
  have hne : strs (L ++ X) ≠ [] := fun e => by
    have h1 : (strs (L ++ X)).length = 0 := by rw [e]; rfl
    rw [z8, List.length_append] at h1
    exact hX (List.eq_nil_of_length_eq_zero (by omega))
  refine ⟨by rw [he], some q', ⟨hst, .inr ⟨q', rfl, hqn⟩, hle⟩, ?_⟩
  rw [if_pos he, if_pos he, if_pos he]
  exact ⟨_, _, hg, hz, .inr ⟨q', rfl, hne, rfl, hq⟩⟩
theorem zc2 {k : Nat} {X : List (List UInt8)} {x : AV} (h : SlV 1 (strs X) x) : RL k x := by
  rcases h with ⟨rfl, _⟩ | ⟨ex, rfl⟩
  · simp [RL]
  · simp only [RL]; exact z87 X
theorem zew {X : List (List UInt8)} {i : Nat} (hi : i < X.length) (h : 200 < (stD X i).length) : z4f X = true :=
  List.any_eq_true.2 ⟨stD X i, z5w hi, decide_eq_true h⟩
theorem za0 (A B : List (List UInt8)) : strs (A ++ B) = strs A ++ strs B := by simp [strs]
attribute [local irreducible] ACallsTo ACallsP
set_option maxHeartbeats 16000000 in
theorem zog (O : Store) (r hn : Nat) (root : Hash) (rn : Nat) (hs : List Hash) (L X : List (List UInt8)) (P : List Hash) (sid : Option Nat) (x y : AV) (hT : StgIs O r hn root rn hs L sid)
    (hx : SlV 1 (strs X) x) (hy : SlV 32 (hr P) y) (h0 : hn ≠ 0) (hn4 : hn <= 4096) (hl : hs.length = pc 13 rn) (hXl : X.length < 1000000) (hLl : L.length < 1000000) (hPl : P.length < 1000000)
    (hne : ¬ (X.length < 1 \/ 16 < X.length \/ hn < rn + X.length)) (hlg : ¬ z4f X = true) :
    zW TC 105 O.length zbr (z81 [.t 6] (AddP O r hn root rn hs L X P sid)) (lkp [(0, .ptr r 0 0), (1, x), (2, y), (7, zz 32 (hr (lvs X)))]) O := by
  have hT' := hT
  obtain ⟨z, v, hg, hz, hv⟩ := hT'
  have d := slen hg
  have r1 := hx.len
  rw [z8] at r1
  unfold z12 at r1
  have hE := fun O' => zd6 O' (rn : Int) hs (lvs X) z (zz 32 (hr (lvs X))) (.of hz) (z27 _ _) (by omega) (by rw [hl]; have := z5s 13 rn; omega) (by rw [zi]; omega)
  obtain ⟨z2, e1, hz2⟩ := ze6 (O := O) (.of hz) hl (l := lvs X) (by rw [zi]; omega)
  rw [e1] at hE
  have hlen : (nxH rn hs X).length = pc 13 (rn + X.length) := by
    unfold nxH
    rw [List.length_reverse, z66 13 rn hs.reverse (lvs X) (by rw [zi]; omega) (by rw [List.length_reverse]; exact hl), zi]
  rw [zi] at hE
  change SlV 32 (hr (nxH rn hs X)) z2 at hz2
  have hR := fun O' => Root_h O' ((rn + X.length : Nat) : Int) (nxH rn hs X) z2 (.of hz2) (by rw [hlen]; have := z5s 13 (rn + X.length); omega) (by omega)
  have hval : z1u ((rn + X.length : Nat) : Int) (nxH rn hs X).length = true := decide_eq_true ⟨by omega, by omega, by rw [Int.toNat_natCast, pc13 (by omega)]; exact hlen⟩
  unfold z42 at hR
  rw [if_neg (by rw [hval]; simp)] at hR
  have hC := fun O' => zmx O' ((rn + X.length : Nat) : Int) hn (z4u (nxH rn hs X).reverse) root y P (.of hy) hPl
  have zc := z48 hz2
  unfold cellsOf at zc
  have hcast : ((rn + X.length : Nat) : Int) = (rn : Int) + X.length := by omega
  by_cases hc : chkH ((rn + X.length : Nat) : Int) hn (z4u (nxH rn hs X).reverse) root P = 0
  · have he : addE hn root rn hs X P = 0 := by unfold addE; rw [if_neg hne, if_neg hlg, if_pos hc]
    rw [hc] at hC
    obtain ⟨ex, rfl⟩ := hx.vsl (by rw [z8]; omega)
    rcases hv with ⟨rfl, hL0, rfl⟩ | ⟨q, rfl, hLn, rfl, hgq⟩
    · have hL : L = [] := by rw [<- List.length_eq_zero_iff, <- z8, hL0]; rfl
      subst hL
      repeat' (first|refine zW.zs ?_|refine zW.zb ?_|refine zW.zc ?_|refine zW.zt rfl ?_|refine zW.zf rfl ?_|(refine zW.zd rfl (fun ht => ?_) (fun ht => ?_)<;>try (exfalso;omega))|((first|refine zW.zr ?_|refine zW.zk ?_|refine zW.ze ?_|refine zW.zq ?_|(apply callW.mk_pu; (first | exact (fun _ => hE _) | exact (fun _ => hR _) | exact (fun _ => hC _))) | (apply callW.za; (first | exact (hE _) | exact (hR _) | exact (hC _))) | ((first|apply zg0|apply zg1|apply zg2|apply zg3|apply zg4|apply zg5|apply zg6|apply zg7)<;>intro ht));all_goals try simp (disch:=first|omega|(simp only [lens,z7,z6,List.length_reverse,z8,List.length_map,zh,zi];first|done|omega)) only [go_sem,reduceEqDiff,Nat.reduceBEq,reduceAdd,reduceMul,reduceSub,reduceLeDiff,reduceToNat,reducePow, hg, zc]))
      refine AddP.ok he (fun e => by simp [e] at hne) (q' := O.length + 2) (by rw [gapp (by simpa using d), z4b d]; rfl) hz2 (by rw [z4e (by simp)]; simp) (by omega) (by simp) fun j hj hjr _ => ?_
      rw [gapp (by simpa using hj), z1e (fun e => hjr e.symm)]
    · have hqr : q ≠ r := fun e => by
        rw [e, hg] at hgq
        simp only [Option.some.injEq] at hgq
        match L, hgq with
        | [], h => simp [strs] at h
        | s :: L', h =>
          simp only [strs, List.map_cons, List.cons.injEq] at h
          have h1 := congrArg List.length h.1
          rw [zh] at h1
          simp at h1
      have dq := slen hgq
      repeat' (first|refine zW.zs ?_|refine zW.zb ?_|refine zW.zc ?_|refine zW.zt rfl ?_|refine zW.zf rfl ?_|(refine zW.zd rfl (fun ht => ?_) (fun ht => ?_)<;>try (exfalso;omega))|((first|refine zW.zr ?_|refine zW.zk ?_|refine zW.ze ?_|refine zW.zq ?_|(apply callW.mk_pu; (first | exact (fun _ => hE _) | exact (fun _ => hR _) | exact (fun _ => hC _))) | (apply callW.za; (first | exact (hE _) | exact (hR _) | exact (hC _))) | ((first|apply zg0|apply zg1|apply zg2|apply zg3|apply zg4|apply zg5|apply zg6|apply zg7)<;>intro ht));all_goals try simp (disch:=first|omega|(simp only [lens,z7,z6,List.length_reverse,z8,List.length_map,zh,zi];first|done|omega)) only [go_sem,reduceEqDiff,Nat.reduceBEq,reduceAdd,reduceMul,reduceSub,reduceLeDiff,reduceToNat,reducePow, hg, zc, hgq, hqr]))
      refine AddP.ok he (fun e => by simp [e] at hne) (q' := O.length + 2) (by rw [gapp (by simpa using d), z4b (by simpa using d), za0, List.length_append]) hz2 (by rw [z4e (by simp)]; simp [za0]) (by omega) (by simp) fun j hj hjr hjq => ?_
      rw [gapp (by simpa using hj), z1e (fun e => hjr e.symm), z1e (fun e => hjq (by rw [e]))]
  · have he : addE hn root rn hs X P = 80 := by unfold addE; rw [if_neg hne, if_neg hlg, if_neg hc]
    repeat' (first|refine zW.zs ?_|refine zW.zb ?_|refine zW.zc ?_|refine zW.zt rfl ?_|refine zW.zf rfl ?_|(refine zW.zd rfl (fun ht => ?_) (fun ht => ?_)<;>try (exfalso;omega))|((first|refine zW.zr ?_|refine zW.zk ?_|refine zW.ze ?_|refine zW.zq ?_|(apply callW.mk_pu; (first | exact (fun _ => hE _) | exact (fun _ => hR _) | exact (fun _ => hC _))) | (apply callW.za; (first | exact (hE _) | exact (hR _) | exact (hC _))) | ((first|apply zg0|apply zg1|apply zg2|apply zg3|apply zg4|apply zg5|apply zg6|apply zg7)<;>intro ht));all_goals try simp (disch:=first|omega|(simp only [lens,z7,z6,List.length_reverse,z8,List.length_map,zh,zi];first|done|omega)) only [go_sem,reduceEqDiff,Nat.reduceBEq,reduceAdd,reduceMul,reduceSub,reduceLeDiff,reduceToNat,reducePow, hg, zc, hc]))
    all_goals exact AddP.no hT he (by omega) ⟨_, rfl⟩
attribute [local irreducible] zbr
set_option maxHeartbeats 16000000 in
theorem zgk (O : Store) (r hn : Nat) (root : Hash) (rn : Nat) (hs : List Hash) (L X : List (List UInt8)) (P : List Hash) (sid : Option Nat) (x y : AV) (hT : StgIs O r hn root rn hs L sid)
    (hx : SlV 1 (strs X) x) (hy : SlV 32 (hr P) y) (h0 : hn ≠ 0) (hn4 : hn <= 4096) (hle : rn <= hn) (hl : hs.length = pc 13 rn) (hXs : ∀ s ∈ X, s.length < 1000000) (hXl : X.length < 1000000) (hLl : L.length < 1000000) (hPl : P.length < 1000000) :
    ACallsP TC 15 [.ptr r 0 0, x, y] O (AddP O r hn root rn hs L X P sid) := by
  have hT' := hT
  obtain ⟨z, v, hg, hz, hv⟩ := hT'
  have d := slen hg
  have r1 := hx.len
  rw [z8] at r1
  unfold z12 at r1
  have hN := z8a O r hn root rn z v hg (by omega)
  refine ACallsP.of_keepW q1hok (by simp) fun hw => ?_
  by_cases b1 : X.length = 0
  · have b1' : (X.length : Int) = 0 := by omega
    have he : addE hn root rn hs X P = 2 := by unfold addE; rw [if_pos (by omega)]
    repeat' (first|refine zW.zs ?_|refine zW.zb ?_|refine zW.zc ?_|refine zW.zt rfl ?_|refine zW.zf rfl ?_|(refine zW.zd rfl (fun ht => ?_) (fun ht => ?_)<;>try (exfalso;omega))|((first|refine zW.zr ?_|refine zW.zk ?_|refine zW.ze ?_|refine zW.zq ?_|(apply callW.mk_pu; (first | exact (fun _ => hN))) | (apply callW.za; (first | exact (hN))) | ((first|apply zg0|apply zg1|apply zg2|apply zg3|apply zg4|apply zg5|apply zg6|apply zg7)<;>intro ht));all_goals try simp (disch:=first|omega|(simp only [lens,z7,z6,List.length_reverse,z8,List.length_map,zh,zi];first|done|omega)) only [go_sem,reduceEqDiff,Nat.reduceBEq,reduceAdd,reduceMul,reduceSub,reduceLeDiff,reduceToNat,reducePow, hg, r1, b1']))
    all_goals exact AddP.no hT he (by omega) (.refl _)
  have b1' : ¬ (X.length : Int) = 0 := by omega
  by_cases b2 : 16 < X.length
  · have b2' : (X.length : Int) > 16 := by omega
    have he : addE hn root rn hs X P = 2 := by unfold addE; rw [if_pos (by omega)]
    repeat' (first|refine zW.zs ?_|refine zW.zb ?_|refine zW.zc ?_|refine zW.zt rfl ?_|refine zW.zf rfl ?_|(refine zW.zd rfl (fun ht => ?_) (fun ht => ?_)<;>try (exfalso;omega))|((first|refine zW.zr ?_|refine zW.zk ?_|refine zW.ze ?_|refine zW.zq ?_|(apply callW.mk_pu; (first | exact (fun _ => hN))) | (apply callW.za; (first | exact (hN))) | ((first|apply zg0|apply zg1|apply zg2|apply zg3|apply zg4|apply zg5|apply zg6|apply zg7)<;>intro ht));all_goals try simp (disch:=first|omega|(simp only [lens,z7,z6,List.length_reverse,z8,List.length_map,zh,zi];first|done|omega)) only [go_sem,reduceEqDiff,Nat.reduceBEq,reduceAdd,reduceMul,reduceSub,reduceLeDiff,reduceToNat,reducePow, hg, r1, b1', b2']))
    all_goals exact AddP.no hT he (by omega) (.refl _)
  have b2' : ¬ (X.length : Int) > 16 := by omega
  by_cases b3 : hn < rn + X.length
  · have b3' : (X.length : Int) > hn - rn := by omega
    have he : addE hn root rn hs X P = 2 := by unfold addE; rw [if_pos (by omega)]
    repeat' (first|refine zW.zs ?_|refine zW.zb ?_|refine zW.zc ?_|refine zW.zt rfl ?_|refine zW.zf rfl ?_|(refine zW.zd rfl (fun ht => ?_) (fun ht => ?_)<;>try (exfalso;omega))|((first|refine zW.zr ?_|refine zW.zk ?_|refine zW.ze ?_|refine zW.zq ?_|(apply callW.mk_pu; (first | exact (fun _ => hN))) | (apply callW.za; (first | exact (hN))) | ((first|apply zg0|apply zg1|apply zg2|apply zg3|apply zg4|apply zg5|apply zg6|apply zg7)<;>intro ht));all_goals try simp (disch:=first|omega|(simp only [lens,z7,z6,List.length_reverse,z8,List.length_map,zh,zi];first|done|omega)) only [go_sem,reduceEqDiff,Nat.reduceBEq,reduceAdd,reduceMul,reduceSub,reduceLeDiff,reduceToNat,reducePow, hg, r1, b1', b2', b3']))
    all_goals exact AddP.no hT he (by omega) (.refl _)
  have b3' : ¬ (X.length : Int) > hn - rn := by omega
  have hne : ¬ (X.length < 1 \/ 16 < X.length \/ hn < rn + X.length) := by omega
  repeat' (first|refine zW.zs ?_|refine zW.zb ?_|refine zW.zc ?_|refine zW.zt rfl ?_|refine zW.zf rfl ?_|(refine zW.zd rfl (fun ht => ?_) (fun ht => ?_)<;>try (exfalso;omega))|((first|refine zW.zr ?_|refine zW.zk ?_|refine zW.ze ?_|refine zW.zq ?_|(apply callW.mk_pu; (first | exact (fun _ => hN))) | (apply callW.za; (first | exact (hN))) | ((first|apply zg0|apply zg1|apply zg2|apply zg3|apply zg4|apply zg5|apply zg6|apply zg7)<;>intro ht));all_goals try simp (disch:=first|omega|(simp only [lens,z7,z6,List.length_reverse,z8,List.length_map,zh,zi];first|done|omega)) only [go_sem,reduceEqDiff,Nat.reduceBEq,reduceAdd,reduceMul,reduceSub,reduceLeDiff,reduceToNat,reducePow, hg, r1, b1', b2', b3']))
  refine zW.loop (fun m Z O' => ∃ (i : Nat) (w : AV), m + i = X.length /\ OwnN 32 O O' w (hr (lvs (X.take i))) /\ (X.take i).any (fun s => decide (200 < s.length)) = false /\ Z 0 = .ptr r 0 0 /\ Z 1 = x /\ Z 2 = y /\ Z 7 = w /\ Z 41 = x /\ Z 42 = .int .i64 X.length /\ Z 43 = .int .i64 i) X.length ?_ ?_
  · refine ⟨0, .nilsl, by omega, ?_, by simp, by simp (disch:=first|omega|(simp only [lens,z7,z6,List.length_reverse,z8,List.length_map,zh,zi];first|done|omega)) only [go_sem,reduceEqDiff,Nat.reduceBEq,reduceAdd,reduceMul,reduceSub,reduceLeDiff,reduceToNat,reducePow], by simp (disch:=first|omega|(simp only [lens,z7,z6,List.length_reverse,z8,List.length_map,zh,zi];first|done|omega)) only [go_sem,reduceEqDiff,Nat.reduceBEq,reduceAdd,reduceMul,reduceSub,reduceLeDiff,reduceToNat,reducePow], by simp (disch:=first|omega|(simp only [lens,z7,z6,List.length_reverse,z8,List.length_map,zh,zi];first|done|omega)) only [go_sem,reduceEqDiff,Nat.reduceBEq,reduceAdd,reduceMul,reduceSub,reduceLeDiff,reduceToNat,reducePow], by simp (disch:=first|omega|(simp only [lens,z7,z6,List.length_reverse,z8,List.length_map,zh,zi];first|done|omega)) only [go_sem,reduceEqDiff,Nat.reduceBEq,reduceAdd,reduceMul,reduceSub,reduceLeDiff,reduceToNat,reducePow], by simp (disch:=first|omega|(simp only [lens,z7,z6,List.length_reverse,z8,List.length_map,zh,zi];first|done|omega)) only [go_sem,reduceEqDiff,Nat.reduceBEq,reduceAdd,reduceMul,reduceSub,reduceLeDiff,reduceToNat,reducePow], by simp (disch:=first|omega|(simp only [lens,z7,z6,List.length_reverse,z8,List.length_map,zh,zi];first|done|omega)) only [go_sem,reduceEqDiff,Nat.reduceBEq,reduceAdd,reduceMul,reduceSub,reduceLeDiff,reduceToNat,reducePow, r1], by simp (disch:=first|omega|(simp only [lens,z7,z6,List.length_reverse,z8,List.length_map,zh,zi];first|done|omega)) only [go_sem,reduceEqDiff,Nat.reduceBEq,reduceAdd,reduceMul,reduceSub,reduceLeDiff,reduceToNat,reducePow]; rfl⟩
    exact ⟨[], by simp, .inl ⟨by simp [lvs, hr], rfl⟩⟩
  · rintro m Z O' ⟨i, w, hm, hO, ht, q0, q1, q2, q7, q41, q42, q43⟩
    by_cases hi : i < X.length
    · obtain ⟨ex, rfl⟩ := hx.vsl (by rw [z8]; omega)
      have hgi := z6k hi
      rw [show X.getD i [] = stD X i from rfl] at hgi
      by_cases h2 : 200 < (stD X i).length
      · have h2' : ((stD X i).length : Int) > 200 := by omega
        have he : addE hn root rn hs X P = 3 := by unfold addE; rw [if_neg hne, if_pos (zew hi h2)]
        obtain ⟨y', rfl⟩ := hO.ext
        repeat' (first|refine zW.zs ?_|refine zW.zb ?_|refine zW.zc ?_|refine zW.zt rfl ?_|refine zW.zf rfl ?_|(refine zW.zd rfl (fun ht => ?_) (fun ht => ?_)<;>try (exfalso;omega))|((first|refine zW.zr ?_|refine zW.zk ?_|refine zW.ze ?_|refine zW.zq ?_|((first|apply zg0|apply zg1|apply zg2|apply zg3|apply zg4|apply zg5|apply zg6|apply zg7)<;>intro ht));all_goals try simp (disch:=first|omega|(simp only [lens,z7,z6,List.length_reverse,z8,List.length_map,zh,zi];first|done|omega)) only [go_sem,reduceEqDiff,Nat.reduceBEq,reduceAdd,reduceMul,reduceSub,reduceLeDiff,reduceToNat,reducePow, q0, q1, q2, q7, q41, q42, q43, hgi, r1, h2']))
        all_goals exact AddP.no hT he (by omega) ⟨_, rfl⟩
      · have h2' : ¬ ((stD X i).length : Int) > 200 := by omega
        have ht2 : (X.take (i + 1)).any (fun s => decide (200 < s.length)) = false := by
          rw [z6n hi, List.any_append, ht]
          simp [h2]
          try omega
        have hLf := fun O => zh1 O (stD X i) (by have := hXs _ (z5w hi); omega)
        obtain ⟨v', O2, ha, hO2⟩ := hO.app (ys := [hc (lfH (stD X i))]) (by simp) (by rw [z6, zi, List.length_take]; simp; omega)
        have hcat : hr (lvs (X.take i)) ++ [hc (lfH (stD X i))] = hr (lvs (X.take (i + 1))) := by rw [z6n hi]; simp [lvs, hr]
        rw [hcat] at hO2
        generalize stD X i = s at *
        repeat' (first|refine zW.zs ?_|refine zW.zb ?_|refine zW.zc ?_|refine zW.zt rfl ?_|refine zW.zf rfl ?_|(refine zW.zd rfl (fun ht => ?_) (fun ht => ?_)<;>try (exfalso;omega))|((first|refine zW.zr ?_|refine zW.zk ?_|refine zW.ze ?_|refine zW.zq ?_|(apply callW.mk_pu; (first | exact (fun _ => hLf _))) | (apply callW.za; (first | exact (hLf _))) | ((first|apply zg0|apply zg1|apply zg2|apply zg3|apply zg4|apply zg5|apply zg6|apply zg7)<;>intro ht));all_goals try simp (disch:=first|omega|(simp only [lens,z7,z6,List.length_reverse,z8,List.length_map,zh,zi];first|done|omega)) only [go_sem,reduceEqDiff,Nat.reduceBEq,reduceAdd,reduceMul,reduceSub,reduceLeDiff,reduceToNat,reducePow, q0, q1, q2, q7, q41, q42, q43, hgi, r1, h2', ha]))
        exact ⟨m - 1, by omega, i + 1, v', by omega, hO2, by simpa using ht2, by simp⟩
    · obtain rfl : i = X.length := by omega
      rw [List.take_of_length_le (Nat.le_refl _)] at hO ht
      have hlg : ¬ z4f X = true := by unfold z4f; rw [ht]; simp
      obtain ⟨news, rfl⟩ := hO.ext
      repeat' (first|refine zW.zs ?_|refine zW.zb ?_|refine zW.zc ?_|refine zW.zt rfl ?_|refine zW.zf rfl ?_|(refine zW.zd rfl (fun ht => ?_) (fun ht => ?_)<;>try (exfalso;omega))|((first|refine zW.zr ?_|refine zW.zk ?_|refine zW.ze ?_|refine zW.zq ?_|((first|apply zg0|apply zg1|apply zg2|apply zg3|apply zg4|apply zg5|apply zg6|apply zg7)<;>intro ht));all_goals try simp (disch:=first|omega|(simp only [lens,z7,z6,List.length_reverse,z8,List.length_map,zh,zi];first|done|omega)) only [go_sem,reduceEqDiff,Nat.reduceBEq,reduceAdd,reduceMul,reduceSub,reduceLeDiff,reduceToNat,reducePow, q0, q1, q2, q7, q41, q42, q43, r1]))
      refine zW.frzAll hw [(0, .ptr r 0 0), (1, x), (2, y), (7, zz 32 (hr (lvs X)))] ?_ ?_
      · intro p hp
        simp only [List.mem_cons, List.not_mem_nil, or_false] at hp
        rcases hp with rfl | rfl | rfl | rfl
        · simp (disch:=first|omega|(simp only [lens,z7,z6,List.length_reverse,z8,List.length_map,zh,zi];first|done|omega)) only [go_sem,reduceEqDiff,Nat.reduceBEq,reduceAdd,reduceMul,reduceSub,reduceLeDiff,reduceToNat,reducePow, q0]
          exact FrzD.same (by simp only [RL]; exact d)
        · simp (disch:=first|omega|(simp only [lens,z7,z6,List.length_reverse,z8,List.length_map,zh,zi];first|done|omega)) only [go_sem,reduceEqDiff,Nat.reduceBEq,reduceAdd,reduceMul,reduceSub,reduceLeDiff,reduceToNat,reducePow, q1]
          exact FrzD.same (zc2 hx)
        · simp (disch:=first|omega|(simp only [lens,z7,z6,List.length_reverse,z8,List.length_map,zh,zi];first|done|omega)) only [go_sem,reduceEqDiff,Nat.reduceBEq,reduceAdd,reduceMul,reduceSub,reduceLeDiff,reduceToNat,reducePow, q2]
          exact FrzD.same (rl_z hy)
        · simp (disch:=first|omega|(simp only [lens,z7,z6,List.length_reverse,z8,List.length_map,zh,zi];first|done|omega)) only [go_sem,reduceEqDiff,Nat.reduceBEq,reduceAdd,reduceMul,reduceSub,reduceLeDiff,reduceToNat,reducePow, q7]
          exact hO.frz (z3f _)
      · exact zog O r hn root rn hs L X P sid x y hT hx hy h0 hn4 hl hXl hLl hPl hne hlg
end Am
end Go.Proofs.YtncenefkbpelbaaDoor
end
section
/- Stage: contracts: the document's Add. -/
namespace Go.Proofs.YtncenefkbpelbaaDoor
namespace Am
theorem zjk {n : Nat} {hs l : List Hash} (hl : hs.length = pc 13 n) (h : n + l.length <= 4096) :
    ∃ z, extB n hs l = .tup [.agg [.int .i64 ((n + l.length : Nat) : Int), z], .int .i64 0] /\ SlV 32 (hr (extR n hs.reverse l).reverse) z := by
  have hv : z1u n hs.length = true := decide_eq_true ⟨by omega, by omega, by rw [Int.toNat_natCast, pc13 (by omega)]; exact hl⟩
  refine ⟨zz 32 (hr (extR n hs.reverse l).reverse), ?_, z27 _ _⟩
  unfold extB
  rw [hv, if_neg (by simp), if_neg (by omega), Int.toNat_natCast]; rfl
attribute [local irreducible] ACallsTo ACallsP
set_option maxHeartbeats 16000000 in
theorem zn9 (O : Store) (r hn : Nat) (root : Hash) (rn : Nat) (hs : List Hash) (L X : List (List UInt8)) (P : List Hash) (sid : Option Nat) (x y : AV) (hT : StgIs O r hn root rn hs L sid)
    (hx : SlV 1 (strs X) x) (hy : SlV 32 (hr P) y) (h0 : hn ≠ 0) (hn4 : hn <= 4096) (hl : hs.length = pc 13 rn) (hXl : X.length < 1000000) (hLl : L.length < 1000000) (hPl : P.length < 1000000)
    (hne : ¬ (X.length < 1 \/ 16 < X.length \/ hn < rn + X.length)) (hlg : ¬ z4f X = true) :
    zW TC 107 O.length zbs (z81 [.t 6] (AddP O r hn root rn hs L X P sid)) (lkp [(0, .ptr r 0 0), (1, x), (2, y), (7, zz 32 (hr (lvs X)))]) O := by
  have hT' := hT
  obtain ⟨z, v, hg, hz, hv⟩ := hT'
  have d := slen hg
  have r1 := hx.len
  rw [z8] at r1
  unfold z12 at r1
  have hE := fun O' => znc O' (rn : Int) hs (lvs X) z (zz 32 (hr (lvs X))) hz (z27 _ _) (by omega) (by rw [zi]; omega)
  obtain ⟨z2, e1, hz2⟩ := zjk hl (l := lvs X) (by rw [zi]; omega)
  rw [e1] at hE
  have hlen : (nxH rn hs X).length = pc 13 (rn + X.length) := by
    unfold nxH
    rw [List.length_reverse, z66 13 rn hs.reverse (lvs X) (by rw [zi]; omega) (by rw [List.length_reverse]; exact hl), zi]
  rw [zi] at hE
  change SlV 32 (hr (nxH rn hs X)) z2 at hz2
  have hR := fun O' => znd O' ((rn + X.length : Nat) : Int) (nxH rn hs X) z2 (.of hz2) (by rw [hlen]; have := z5s 13 (rn + X.length); omega)
  have hval : z1u ((rn + X.length : Nat) : Int) (nxH rn hs X).length = true := decide_eq_true ⟨by omega, by omega, by rw [Int.toNat_natCast, pc13 (by omega)]; exact hlen⟩
  unfold z42 at hR
  rw [if_neg (by rw [hval]; simp)] at hR
  have hC := fun O' => zmy O' ((rn + X.length : Nat) : Int) hn (z4u (nxH rn hs X).reverse) root y P (.of hy) hPl
  have zc := z48 hz2
  unfold cellsOf at zc
  have hcast : ((rn + X.length : Nat) : Int) = (rn : Int) + X.length := by omega
  by_cases hc : chkH ((rn + X.length : Nat) : Int) hn (z4u (nxH rn hs X).reverse) root P = 0
  · have he : addE hn root rn hs X P = 0 := by unfold addE; rw [if_neg hne, if_neg hlg, if_pos hc]
    rw [hc] at hC
    obtain ⟨ex, rfl⟩ := hx.vsl (by rw [z8]; omega)
    rcases hv with ⟨rfl, hL0, rfl⟩ | ⟨q, rfl, hLn, rfl, hgq⟩
    · have hL : L = [] := by rw [<- List.length_eq_zero_iff, <- z8, hL0]; rfl
      subst hL
      repeat' (first|refine zW.zs ?_|refine zW.zb ?_|refine zW.zc ?_|refine zW.zt rfl ?_|refine zW.zf rfl ?_|(refine zW.zd rfl (fun ht => ?_) (fun ht => ?_)<;>try (exfalso;omega))|((first|refine zW.zr ?_|refine zW.zk ?_|refine zW.ze ?_|refine zW.zq ?_|(apply callW.mk_pu; (first | exact (fun _ => hE _) | exact (fun _ => hR _) | exact (fun _ => hC _))) | (apply callW.za; (first | exact (hE _) | exact (hR _) | exact (hC _))) | ((first|apply zg0|apply zg1|apply zg2|apply zg3|apply zg4|apply zg5|apply zg6|apply zg7)<;>intro ht));all_goals try simp (disch:=first|omega|(simp only [lens,z7,z6,List.length_reverse,z8,List.length_map,zh,zi];first|done|omega)) only [go_sem,reduceEqDiff,Nat.reduceBEq,reduceAdd,reduceMul,reduceSub,reduceLeDiff,reduceToNat,reducePow, hg, zc]))
      refine AddP.ok he (fun e => by simp [e] at hne) (q' := O.length + 2) (by rw [gapp (by simpa using d), z4b d]; rfl) hz2 (by rw [z4e (by simp)]; simp) (by omega) (by simp) fun j hj hjr _ => ?_
      rw [gapp (by simpa using hj), z1e (fun e => hjr e.symm)]
    · have hqr : q ≠ r := fun e => by
        rw [e, hg] at hgq
        simp only [Option.some.injEq] at hgq
        match L, hgq with
        | [], h => simp [strs] at h
        | s :: L', h =>
          simp only [strs, List.map_cons, List.cons.injEq] at h
          have h1 := congrArg List.length h.1
          rw [zh] at h1
          simp at h1
      have dq := slen hgq
      have hLn' : ¬ (strs L).length = 0 := fun e => hLn (List.eq_nil_of_length_eq_zero e)
      have hrq : ¬ r = q := fun e => hqr e.symm
      repeat' (first|refine zW.zs ?_|refine zW.zb ?_|refine zW.zc ?_|refine zW.zt rfl ?_|refine zW.zf rfl ?_|(refine zW.zd rfl (fun ht => ?_) (fun ht => ?_)<;>try (exfalso;omega))|((first|refine zW.zr ?_|refine zW.zk ?_|refine zW.ze ?_|refine zW.zq ?_|(apply callW.mk_pu; (first | exact (fun _ => hE _) | exact (fun _ => hR _) | exact (fun _ => hC _))) | (apply callW.za; (first | exact (hE _) | exact (hR _) | exact (hC _))) | ((first|apply zg0|apply zg1|apply zg2|apply zg3|apply zg4|apply zg5|apply zg6|apply zg7)<;>intro ht));all_goals try simp (disch:=first|omega|(simp only [lens,z7,z6,List.length_reverse,z8,List.length_map,zh,zi];first|done|omega)) only [go_sem,reduceEqDiff,Nat.reduceBEq,reduceAdd,reduceMul,reduceSub,reduceLeDiff,reduceToNat,reducePow, hg, zc, hgq, hqr, hrq, hLn']))
      refine AddP.ok he (fun e => by simp [e] at hne) (q' := O.length + 3) (by rw [gapp (by simpa using d), z4b d, za0, List.length_append]) hz2 (by rw [z4e (by simp)]; simp [za0]) (by omega) (by simp) fun j hj hjr hjq => ?_
      rw [gapp (by simpa using hj), z1e (fun e => hjr e.symm)]
  · have he : addE hn root rn hs X P = 80 := by unfold addE; rw [if_neg hne, if_neg hlg, if_neg hc]
    repeat' (first|refine zW.zs ?_|refine zW.zb ?_|refine zW.zc ?_|refine zW.zt rfl ?_|refine zW.zf rfl ?_|(refine zW.zd rfl (fun ht => ?_) (fun ht => ?_)<;>try (exfalso;omega))|((first|refine zW.zr ?_|refine zW.zk ?_|refine zW.ze ?_|refine zW.zq ?_|(apply callW.mk_pu; (first | exact (fun _ => hE _) | exact (fun _ => hR _) | exact (fun _ => hC _))) | (apply callW.za; (first | exact (hE _) | exact (hR _) | exact (hC _))) | ((first|apply zg0|apply zg1|apply zg2|apply zg3|apply zg4|apply zg5|apply zg6|apply zg7)<;>intro ht));all_goals try simp (disch:=first|omega|(simp only [lens,z7,z6,List.length_reverse,z8,List.length_map,zh,zi];first|done|omega)) only [go_sem,reduceEqDiff,Nat.reduceBEq,reduceAdd,reduceMul,reduceSub,reduceLeDiff,reduceToNat,reducePow, hg, zc, hc]))
    all_goals exact AddP.no hT he (by omega) ⟨_, rfl⟩
attribute [local irreducible] zbs
set_option maxHeartbeats 16000000 in
theorem zna (O : Store) (r hn : Nat) (root : Hash) (rn : Nat) (hs : List Hash) (L X : List (List UInt8)) (P : List Hash) (sid : Option Nat) (x y : AV) (hT : StgIs O r hn root rn hs L sid)
    (hx : SlV 1 (strs X) x) (hy : SlV 32 (hr P) y) (h0 : hn ≠ 0) (hn4 : hn <= 4096) (hle : rn <= hn) (hl : hs.length = pc 13 rn) (hXs : ∀ s ∈ X, s.length < 1000000) (hXl : X.length < 1000000) (hLl : L.length < 1000000) (hPl : P.length < 1000000) :
    ACallsP TC 20 [.ptr r 0 0, x, y] O (AddP O r hn root rn hs L X P sid) := by
  have hT' := hT
  obtain ⟨z, v, hg, hz, hv⟩ := hT'
  have d := slen hg
  have r1 := hx.len
  rw [z8] at r1
  unfold z12 at r1
  refine ACallsP.of_keepW q1mok (by simp) fun hw => ?_
  by_cases b1 : X.length = 0
  · have b1' : (X.length : Int) < 1 := by omega
    have he : addE hn root rn hs X P = 2 := by unfold addE; rw [if_pos (by omega)]
    repeat' (first|refine zW.zs ?_|refine zW.zb ?_|refine zW.zc ?_|refine zW.zt rfl ?_|refine zW.zf rfl ?_|(refine zW.zd rfl (fun ht => ?_) (fun ht => ?_)<;>try (exfalso;omega))|((first|refine zW.zr ?_|refine zW.zk ?_|refine zW.ze ?_|refine zW.zq ?_|((first|apply zg0|apply zg1|apply zg2|apply zg3|apply zg4|apply zg5|apply zg6|apply zg7)<;>intro ht));all_goals try simp (disch:=first|omega|(simp only [lens,z7,z6,List.length_reverse,z8,List.length_map,zh,zi];first|done|omega)) only [go_sem,reduceEqDiff,Nat.reduceBEq,reduceAdd,reduceMul,reduceSub,reduceLeDiff,reduceToNat,reducePow, hg, r1, b1']))
    all_goals exact AddP.no hT he (by omega) (.refl _)
  have b1' : ¬ (X.length : Int) < 1 := by omega
  by_cases b2 : 16 < X.length
  · have b2' : (X.length : Int) > 16 := by omega
    have he : addE hn root rn hs X P = 2 := by unfold addE; rw [if_pos (by omega)]
    repeat' (first|refine zW.zs ?_|refine zW.zb ?_|refine zW.zc ?_|refine zW.zt rfl ?_|refine zW.zf rfl ?_|(refine zW.zd rfl (fun ht => ?_) (fun ht => ?_)<;>try (exfalso;omega))|((first|refine zW.zr ?_|refine zW.zk ?_|refine zW.ze ?_|refine zW.zq ?_|((first|apply zg0|apply zg1|apply zg2|apply zg3|apply zg4|apply zg5|apply zg6|apply zg7)<;>intro ht));all_goals try simp (disch:=first|omega|(simp only [lens,z7,z6,List.length_reverse,z8,List.length_map,zh,zi];first|done|omega)) only [go_sem,reduceEqDiff,Nat.reduceBEq,reduceAdd,reduceMul,reduceSub,reduceLeDiff,reduceToNat,reducePow, hg, r1, b1', b2']))
    all_goals exact AddP.no hT he (by omega) (.refl _)
  have b2' : ¬ (X.length : Int) > 16 := by omega
  by_cases b3 : hn < rn + X.length
  · have b3' : (rn : Int) + X.length > hn := by omega
    have he : addE hn root rn hs X P = 2 := by unfold addE; rw [if_pos (by omega)]
    repeat' (first|refine zW.zs ?_|refine zW.zb ?_|refine zW.zc ?_|refine zW.zt rfl ?_|refine zW.zf rfl ?_|(refine zW.zd rfl (fun ht => ?_) (fun ht => ?_)<;>try (exfalso;omega))|((first|refine zW.zr ?_|refine zW.zk ?_|refine zW.ze ?_|refine zW.zq ?_|((first|apply zg0|apply zg1|apply zg2|apply zg3|apply zg4|apply zg5|apply zg6|apply zg7)<;>intro ht));all_goals try simp (disch:=first|omega|(simp only [lens,z7,z6,List.length_reverse,z8,List.length_map,zh,zi];first|done|omega)) only [go_sem,reduceEqDiff,Nat.reduceBEq,reduceAdd,reduceMul,reduceSub,reduceLeDiff,reduceToNat,reducePow, hg, r1, b1', b2', b3']))
    all_goals exact AddP.no hT he (by omega) (.refl _)
  have b3' : ¬ (rn : Int) + X.length > hn := by omega
  have hne : ¬ (X.length < 1 \/ 16 < X.length \/ hn < rn + X.length) := by omega
  repeat' (first|refine zW.zs ?_|refine zW.zb ?_|refine zW.zc ?_|refine zW.zt rfl ?_|refine zW.zf rfl ?_|(refine zW.zd rfl (fun ht => ?_) (fun ht => ?_)<;>try (exfalso;omega))|((first|refine zW.zr ?_|refine zW.zk ?_|refine zW.ze ?_|refine zW.zq ?_|((first|apply zg0|apply zg1|apply zg2|apply zg3|apply zg4|apply zg5|apply zg6|apply zg7)<;>intro ht));all_goals try simp (disch:=first|omega|(simp only [lens,z7,z6,List.length_reverse,z8,List.length_map,zh,zi];first|done|omega)) only [go_sem,reduceEqDiff,Nat.reduceBEq,reduceAdd,reduceMul,reduceSub,reduceLeDiff,reduceToNat,reducePow, hg, r1, b1', b2', b3']))
  refine zW.loop (fun m Z O' => ∃ (i : Nat) (w : AV), m + i = X.length /\ OwnN 32 O O' w (hr (lvs (X.take i))) /\ (X.take i).any (fun s => decide (200 < s.length)) = false /\ Z 0 = .ptr r 0 0 /\ Z 1 = x /\ Z 2 = y /\ Z 7 = w /\ Z 8 = .int .i64 i) X.length ?_ ?_
  · refine ⟨0, .nilsl, by omega, ?_, by simp, by simp (disch:=first|omega|(simp only [lens,z7,z6,List.length_reverse,z8,List.length_map,zh,zi];first|done|omega)) only [go_sem,reduceEqDiff,Nat.reduceBEq,reduceAdd,reduceMul,reduceSub,reduceLeDiff,reduceToNat,reducePow], by simp (disch:=first|omega|(simp only [lens,z7,z6,List.length_reverse,z8,List.length_map,zh,zi];first|done|omega)) only [go_sem,reduceEqDiff,Nat.reduceBEq,reduceAdd,reduceMul,reduceSub,reduceLeDiff,reduceToNat,reducePow], by simp (disch:=first|omega|(simp only [lens,z7,z6,List.length_reverse,z8,List.length_map,zh,zi];first|done|omega)) only [go_sem,reduceEqDiff,Nat.reduceBEq,reduceAdd,reduceMul,reduceSub,reduceLeDiff,reduceToNat,reducePow], by simp (disch:=first|omega|(simp only [lens,z7,z6,List.length_reverse,z8,List.length_map,zh,zi];first|done|omega)) only [go_sem,reduceEqDiff,Nat.reduceBEq,reduceAdd,reduceMul,reduceSub,reduceLeDiff,reduceToNat,reducePow], by simp (disch:=first|omega|(simp only [lens,z7,z6,List.length_reverse,z8,List.length_map,zh,zi];first|done|omega)) only [go_sem,reduceEqDiff,Nat.reduceBEq,reduceAdd,reduceMul,reduceSub,reduceLeDiff,reduceToNat,reducePow]; rfl⟩
    exact ⟨[], by simp, .inl ⟨by simp [lvs, hr], rfl⟩⟩
  · rintro m Z O' ⟨i, w, hm, hO, ht, q0, q1, q2, q7, q8⟩
    by_cases hi : i < X.length
    · obtain ⟨ex, rfl⟩ := hx.vsl (by rw [z8]; omega)
      have hgi := z6k hi
      rw [show X.getD i [] = stD X i from rfl] at hgi
      by_cases h2 : 200 < (stD X i).length
      · have h2' : ((stD X i).length : Int) > 200 := by omega
        have he : addE hn root rn hs X P = 3 := by unfold addE; rw [if_neg hne, if_pos (zew hi h2)]
        obtain ⟨y', rfl⟩ := hO.ext
        repeat' (first|refine zW.zs ?_|refine zW.zb ?_|refine zW.zc ?_|refine zW.zt rfl ?_|refine zW.zf rfl ?_|(refine zW.zd rfl (fun ht => ?_) (fun ht => ?_)<;>try (exfalso;omega))|((first|refine zW.zr ?_|refine zW.zk ?_|refine zW.ze ?_|refine zW.zq ?_|((first|apply zg0|apply zg1|apply zg2|apply zg3|apply zg4|apply zg5|apply zg6|apply zg7)<;>intro ht));all_goals try simp (disch:=first|omega|(simp only [lens,z7,z6,List.length_reverse,z8,List.length_map,zh,zi];first|done|omega)) only [go_sem,reduceEqDiff,Nat.reduceBEq,reduceAdd,reduceMul,reduceSub,reduceLeDiff,reduceToNat,reducePow, q0, q1, q2, q7, q8, hgi, r1, h2']))
        all_goals exact AddP.no hT he (by omega) ⟨_, rfl⟩
      · have h2' : ¬ ((stD X i).length : Int) > 200 := by omega
        have ht2 : (X.take (i + 1)).any (fun s => decide (200 < s.length)) = false := by
          rw [z6n hi, List.any_append, ht]
          simp [h2]
          try omega
        have hLf := fun O => zfk O (stD X i) (by have := hXs _ (z5w hi); omega)
        obtain ⟨v', O2, ha, hO2⟩ := hO.app (ys := [hc (lfH (stD X i))]) (by simp) (by rw [z6, zi, List.length_take]; simp; omega)
        have hcat : hr (lvs (X.take i)) ++ [hc (lfH (stD X i))] = hr (lvs (X.take (i + 1))) := by rw [z6n hi]; simp [lvs, hr]
        rw [hcat] at hO2
        generalize stD X i = s at *
        repeat' (first|refine zW.zs ?_|refine zW.zb ?_|refine zW.zc ?_|refine zW.zt rfl ?_|refine zW.zf rfl ?_|(refine zW.zd rfl (fun ht => ?_) (fun ht => ?_)<;>try (exfalso;omega))|((first|refine zW.zr ?_|refine zW.zk ?_|refine zW.ze ?_|refine zW.zq ?_|(apply callW.mk_pu; (first | exact (fun _ => hLf _))) | (apply callW.za; (first | exact (hLf _))) | ((first|apply zg0|apply zg1|apply zg2|apply zg3|apply zg4|apply zg5|apply zg6|apply zg7)<;>intro ht));all_goals try simp (disch:=first|omega|(simp only [lens,z7,z6,List.length_reverse,z8,List.length_map,zh,zi];first|done|omega)) only [go_sem,reduceEqDiff,Nat.reduceBEq,reduceAdd,reduceMul,reduceSub,reduceLeDiff,reduceToNat,reducePow, q0, q1, q2, q7, q8, hgi, r1, h2', ha]))
        exact ⟨m - 1, by omega, i + 1, v', by omega, hO2, by simpa using ht2, by simp⟩
    · obtain rfl : i = X.length := by omega
      rw [List.take_of_length_le (Nat.le_refl _)] at hO ht
      have hlg : ¬ z4f X = true := by unfold z4f; rw [ht]; simp
      obtain ⟨news, rfl⟩ := hO.ext
      repeat' (first|refine zW.zs ?_|refine zW.zb ?_|refine zW.zc ?_|refine zW.zt rfl ?_|refine zW.zf rfl ?_|(refine zW.zd rfl (fun ht => ?_) (fun ht => ?_)<;>try (exfalso;omega))|((first|refine zW.zr ?_|refine zW.zk ?_|refine zW.ze ?_|refine zW.zq ?_|((first|apply zg0|apply zg1|apply zg2|apply zg3|apply zg4|apply zg5|apply zg6|apply zg7)<;>intro ht));all_goals try simp (disch:=first|omega|(simp only [lens,z7,z6,List.length_reverse,z8,List.length_map,zh,zi];first|done|omega)) only [go_sem,reduceEqDiff,Nat.reduceBEq,reduceAdd,reduceMul,reduceSub,reduceLeDiff,reduceToNat,reducePow, q0, q1, q2, q7, q8, r1]))
      refine zW.frzAll hw [(0, .ptr r 0 0), (1, x), (2, y), (7, zz 32 (hr (lvs X)))] ?_ ?_
      · intro p hp
        simp only [List.mem_cons, List.not_mem_nil, or_false] at hp
        rcases hp with rfl | rfl | rfl | rfl
        · simp (disch:=first|omega|(simp only [lens,z7,z6,List.length_reverse,z8,List.length_map,zh,zi];first|done|omega)) only [go_sem,reduceEqDiff,Nat.reduceBEq,reduceAdd,reduceMul,reduceSub,reduceLeDiff,reduceToNat,reducePow, q0]
          exact FrzD.same (by simp only [RL]; exact d)
        · simp (disch:=first|omega|(simp only [lens,z7,z6,List.length_reverse,z8,List.length_map,zh,zi];first|done|omega)) only [go_sem,reduceEqDiff,Nat.reduceBEq,reduceAdd,reduceMul,reduceSub,reduceLeDiff,reduceToNat,reducePow, q1]
          exact FrzD.same (zc2 hx)
        · simp (disch:=first|omega|(simp only [lens,z7,z6,List.length_reverse,z8,List.length_map,zh,zi];first|done|omega)) only [go_sem,reduceEqDiff,Nat.reduceBEq,reduceAdd,reduceMul,reduceSub,reduceLeDiff,reduceToNat,reducePow, q2]
          exact FrzD.same (rl_z hy)
        · simp (disch:=first|omega|(simp only [lens,z7,z6,List.length_reverse,z8,List.length_map,zh,zi];first|done|omega)) only [go_sem,reduceEqDiff,Nat.reduceBEq,reduceAdd,reduceMul,reduceSub,reduceLeDiff,reduceToNat,reducePow, q7]
          exact hO.frz (z3f _)
      · exact zn9 O r hn root rn hs L X P sid x y hT hx hy h0 hn4 hl hXl hLl hPl hne hlg
end Am
end Go.Proofs.YtncenefkbpelbaaDoor
end
section
/- Stage: contracts: Alike, Great. -/
namespace Go.Proofs.YtncenefkbpelbaaDoor
namespace Am
/-- A chunk of an act. -/
structure ActS where
  k : Int
  c : Int
  L : List (List UInt8)
  P : List Hash
  x : AV
  y : AV
def actR (a : ActS) : List AV := [.int .u8 a.k, .int .u8 a.c, a.x, a.y]
structure ActOk (a : ActS) : Prop where
  k : 0 <= a.k /\ a.k <= 255
  c : 0 <= a.c /\ a.c <= 255
  x : SlV 1 (strs a.L) a.x
  y : SlV 32 (hr a.P) a.y
  ll : a.L.length <= maxLen
  pl : a.P.length <= maxLen
  sl : ∀ s ∈ a.L, s.length <= maxLen
def z3o (a : ActS) : Bool := decide (20 < a.L.length) || decide (70 < a.P.length) || a.L.any fun s => decide (250 < s.length)
def z4o (l : List ActS) (n : Int) : Bool := l.any z3o || decide ((l.length : Int) > n)
theorem zb2 {a : ActS} (h : z3o a = false) : a.L.length <= 20 /\ a.P.length <= 70 /\ ∀ s ∈ a.L, s.length <= 250 := by
  unfold z3o at h
  simp only [Bool.or_eq_false_iff, decide_eq_false_iff_not, List.any_eq_false, decide_eq_true_eq] at h
  exact ⟨by omega, by omega, fun s hs => by have := h.2 s hs; omega⟩
attribute [local irreducible] ACallsTo ACallsP
set_option maxHeartbeats 8000000 in
theorem zd3 {O : Store} (hw : Wf O.length O) (rq hn : Nat) (root : Hash) (rn : Nat) (z' v' : AV) (L : List (List UInt8)) (sid' : Option Nat) (w : AV) (hg' : O[rq]? = some (some [stC hn root rn z' v'])) (hv' : RowAt 1 O sid' v' (strs L))
    (hw2 : SlV 1 (strs L) w) (hLl : L.length < 1000000) (Z : Env) (q1 : Z 1 = .ptr rq 0 0) (q5 : Z 5 = w) :
    zW TC 71 O.length zbt (endQ O.length [.t 4] (.bool true) O) Z O := by
  have r2 := hw2.len
  rw [z8] at r2
  unfold z12 at r2
  have d' := slen hg'
  repeat' (first|refine zW.zs ?_|refine zW.zb ?_|refine zW.zc ?_|refine zW.zt rfl ?_|refine zW.zf rfl ?_|(refine zW.zd rfl (fun ht => ?_) (fun ht => ?_)<;>try (exfalso;omega))|((first|refine zW.zr ?_|refine zW.zk ?_|refine zW.ze ?_|refine zW.zq ?_|((first|apply zg0|apply zg1|apply zg2|apply zg3|apply zg4|apply zg5|apply zg6|apply zg7)<;>intro ht));all_goals try simp (disch:=first|omega|(simp only [lens,z7,z6,List.length_reverse,z8,List.length_map,zh,zi];first|done|omega)) only [go_sem,reduceEqDiff,Nat.reduceBEq,reduceAdd,reduceMul,reduceSub,reduceLeDiff,reduceToNat,reducePow, q1, q5, r2]))
  refine zW.loop (fun m Z O' => ∃ i : Nat, m + i = L.length /\ O' = O /\ Z 1 = .ptr rq 0 0 /\ Z 5 = w /\ Z 6 = .int .i64 i) L.length ?_ ?_
  · exact ⟨0, by omega, rfl, by simp (disch:=first|omega|(simp only [lens,z7,z6,List.length_reverse,z8,List.length_map,zh,zi];first|done|omega)) only [go_sem,reduceEqDiff,Nat.reduceBEq,reduceAdd,reduceMul,reduceSub,reduceLeDiff,reduceToNat,reducePow, q1], by simp (disch:=first|omega|(simp only [lens,z7,z6,List.length_reverse,z8,List.length_map,zh,zi];first|done|omega)) only [go_sem,reduceEqDiff,Nat.reduceBEq,reduceAdd,reduceMul,reduceSub,reduceLeDiff,reduceToNat,reducePow, q5], by simp (disch:=first|omega|(simp only [lens,z7,z6,List.length_reverse,z8,List.length_map,zh,zi];first|done|omega)) only [go_sem,reduceEqDiff,Nat.reduceBEq,reduceAdd,reduceMul,reduceSub,reduceLeDiff,reduceToNat,reducePow]; rfl⟩
  · rintro m Z O' ⟨i, hm, rfl, q1, q5, q6⟩
    by_cases hi : i < L.length
    · obtain ⟨ex, rfl⟩ := hw2.vsl (by rw [z8]; omega)
      have hgi := z6k hi
      rcases hv' with ⟨_, hL0, _⟩ | ⟨q, _, _, rfl, hgq⟩
      · exact absurd hi (by rw [<- z8, hL0]; simp)
      · have dq := slen hgq
        repeat' (first|refine zW.zs ?_|refine zW.zb ?_|refine zW.zc ?_|refine zW.zt rfl ?_|refine zW.zf rfl ?_|(refine zW.zd rfl (fun ht => ?_) (fun ht => ?_)<;>try (exfalso;omega))|((first|refine zW.zr ?_|refine zW.zk ?_|refine zW.ze ?_|refine zW.zq ?_|((first|apply zg0|apply zg1|apply zg2|apply zg3|apply zg4|apply zg5|apply zg6|apply zg7)<;>intro ht));all_goals try simp (disch:=first|omega|(simp only [lens,z7,z6,List.length_reverse,z8,List.length_map,zh,zi];first|done|omega)) only [go_sem,reduceEqDiff,Nat.reduceBEq,reduceAdd,reduceMul,reduceSub,reduceLeDiff,reduceToNat,reducePow, q1, q5, q6, r2, hg', hgi, hgq]))
        exact ⟨m - 1, by omega, i + 1, by omega, by simp⟩
    · obtain rfl : i = L.length := by omega
      repeat' (first|refine zW.zs ?_|refine zW.zb ?_|refine zW.zc ?_|refine zW.zt rfl ?_|refine zW.zf rfl ?_|(refine zW.zd rfl (fun ht => ?_) (fun ht => ?_)<;>try (exfalso;omega))|((first|refine zW.zr ?_|refine zW.zk ?_|refine zW.ze ?_|refine zW.zq ?_|((first|apply zg0|apply zg1|apply zg2|apply zg3|apply zg4|apply zg5|apply zg6|apply zg7)<;>intro ht));all_goals try simp (disch:=first|omega|(simp only [lens,z7,z6,List.length_reverse,z8,List.length_map,zh,zi];first|done|omega)) only [go_sem,reduceEqDiff,Nat.reduceBEq,reduceAdd,reduceMul,reduceSub,reduceLeDiff,reduceToNat,reducePow, q1, q5, q6, r2]))
      exact DownV.same hw z3x
attribute [local irreducible] zbt
set_option maxHeartbeats 16000000 in
theorem zhg (O : Store) (rs rq hn : Nat) (root : Hash) (rn : Nat) (hs : List Hash) (L : List (List UInt8)) (sid sid' : Option Nat) (hTs : StgIs O rs hn root rn hs L sid) (hTq : StgIs O rq hn root rn hs L sid') (h0 : hn ≠ 0) (hsl : hs.length < 1000000) (hLl : L.length < 1000000) :
    ACallsTo TC 21 [.ptr rs 0 0, .ptr rq 0 0] O (.bool true) O := by
  obtain ⟨z, v, hg, hz, hv⟩ := hTs
  obtain ⟨z', v', hg', hz', hv'⟩ := hTq
  have d := slen hg
  have d' := slen hg'
  have hE := zgm O rs hn root rn z v L hg (by omega) hv.rd hLl
  have hH := zgq O rs hn root rn z v hg (by omega)
  have hF := zgo O rs hn root rn z v hg (by omega)
  have hR := zgs O rs hn root rn z v hs hg (by omega) (.of hz) hsl
  have hS := fun O => znf O rn rn hs hs (zz 32 (hr hs)) z' (.of (z27 _ _)) (.of hz') hsl hsl
  have r2 := (z27 1 (strs L)).len
  rw [z8] at r2
  unfold z12 at r2
  have r3 := hv'.rd.len
  rw [z8] at r3
  unfold z12 at r3
  have he : (decide ((rn : Int) = rn /\ hs = hs)) = true := by simp
  rw [he] at hS
  refine ACallsTo.of_body q1nok (by simp) fun hw _ => ?_
  have hw2 := z27 1 (strs L)
  generalize zz 1 (strs L) = w at *
  generalize zz 32 (hr hs) = w3 at *
  by_cases hfn : (rn : Int) = hn
  · obtain rfl : rn = hn := by omega
    rw [decide_eq_true hfn] at hF
    repeat' (first|refine zW.zs ?_|refine zW.zb ?_|refine zW.zc ?_|refine zW.zt rfl ?_|refine zW.zf rfl ?_|(refine zW.zd rfl (fun ht => ?_) (fun ht => ?_)<;>try (exfalso;omega))|((first|refine zW.zr ?_|refine zW.zk ?_|refine zW.ze ?_|refine zW.zq ?_|(apply callW.mk_pu; (first | exact (fun _ => hE) | exact (fun _ => hH) | exact (fun _ => hF) | exact (fun _ => hR) | exact (fun _ => hS _))) | (apply callW.za; (first | exact (hE) | exact (hH) | exact (hF) | exact (hR) | exact (hS _))) | ((first|apply zg0|apply zg1|apply zg2|apply zg3|apply zg4|apply zg5|apply zg6|apply zg7)<;>intro ht));all_goals try simp (disch:=first|omega|(simp only [lens,z7,z6,List.length_reverse,z8,List.length_map,zh,zi];first|done|omega)) only [go_sem,reduceEqDiff,Nat.reduceBEq,reduceAdd,reduceMul,reduceSub,reduceLeDiff,reduceToNat,reducePow, hg, hg', r2, r3]))
    refine zd3 hw rq rn root rn z' v' L sid' w hg' hv' hw2 hLl _ ?_ ?_ <;> simp (disch:=first|omega|(simp only [lens,z7,z6,List.length_reverse,z8,List.length_map,zh,zi];first|done|omega)) only [go_sem,reduceEqDiff,Nat.reduceBEq,reduceAdd,reduceMul,reduceSub,reduceLeDiff,reduceToNat,reducePow]
  · rw [decide_eq_false hfn] at hF
    repeat' (first|refine zW.zs ?_|refine zW.zb ?_|refine zW.zc ?_|refine zW.zt rfl ?_|refine zW.zf rfl ?_|(refine zW.zd rfl (fun ht => ?_) (fun ht => ?_)<;>try (exfalso;omega))|((first|refine zW.zr ?_|refine zW.zk ?_|refine zW.ze ?_|refine zW.zq ?_|(apply callW.mk_pu; (first | exact (fun _ => hE) | exact (fun _ => hH) | exact (fun _ => hF) | exact (fun _ => hR) | exact (fun _ => hS _))) | (apply callW.za; (first | exact (hE) | exact (hH) | exact (hF) | exact (hR) | exact (hS _))) | ((first|apply zg0|apply zg1|apply zg2|apply zg3|apply zg4|apply zg5|apply zg6|apply zg7)<;>intro ht));all_goals try simp (disch:=first|omega|(simp only [lens,z7,z6,List.length_reverse,z8,List.length_map,zh,zi];first|done|omega)) only [go_sem,reduceEqDiff,Nat.reduceBEq,reduceAdd,reduceMul,reduceSub,reduceLeDiff,reduceToNat,reducePow, hg, hg', hfn, r2, r3]))
    refine zd3 hw rq hn root rn z' v' L sid' w hg' hv' hw2 hLl _ ?_ ?_ <;> simp (disch:=first|omega|(simp only [lens,z7,z6,List.length_reverse,z8,List.length_map,zh,zi];first|done|omega)) only [go_sem,reduceEqDiff,Nat.reduceBEq,reduceAdd,reduceMul,reduceSub,reduceLeDiff,reduceToNat,reducePow]
set_option maxHeartbeats 8000000 in
theorem zd7 (O : Store) (l : List ActS) (n : Int) (x : AV) (hx : SlV 4 (l.map actR) x) (hok : ∀ a ∈ l, ActOk a) (hl : l.length < 9223372036854775808) :
    ACallsTo TC 11 [x, .int .i64 n] O (.bool (z4o l n)) O := by
  have r1 := hx.len
  rw [List.length_map] at r1
  unfold z12 at r1
  refine ACallsTo.of_body q1dok (by simp) fun hw _ => ?_
  repeat' (first|refine zW.zs ?_|refine zW.zb ?_|refine zW.zc ?_|refine zW.zt rfl ?_|refine zW.zf rfl ?_|(refine zW.zd rfl (fun ht => ?_) (fun ht => ?_)<;>try (exfalso;omega))|((first|refine zW.zr ?_|refine zW.zk ?_|refine zW.ze ?_|refine zW.zq ?_|((first|apply zg0|apply zg1|apply zg2|apply zg3|apply zg4|apply zg5|apply zg6|apply zg7)<;>intro ht));all_goals try simp (disch:=first|omega|(simp only [lens,z7,z6,List.length_reverse,z8,List.length_map,zh,zi];first|done|omega)) only [go_sem,reduceEqDiff,Nat.reduceBEq,reduceAdd,reduceMul,reduceSub,reduceLeDiff,reduceToNat,reducePow, r1]))
  refine zW.loop (fun m Z O' => ∃ i : Nat, m + i = l.length /\ O' = O /\ (l.take i).any z3o = false /\ Z 0 = x /\ Z 1 = .int .i64 n /\ Z 5 = .int .i64 i) l.length ?_ ?_
  · exact ⟨0, by omega, rfl, by simp, by simp (disch:=first|omega|(simp only [lens,z7,z6,List.length_reverse,z8,List.length_map,zh,zi];first|done|omega)) only [go_sem,reduceEqDiff,Nat.reduceBEq,reduceAdd,reduceMul,reduceSub,reduceLeDiff,reduceToNat,reducePow], by simp (disch:=first|omega|(simp only [lens,z7,z6,List.length_reverse,z8,List.length_map,zh,zi];first|done|omega)) only [go_sem,reduceEqDiff,Nat.reduceBEq,reduceAdd,reduceMul,reduceSub,reduceLeDiff,reduceToNat,reducePow], by simp (disch:=first|omega|(simp only [lens,z7,z6,List.length_reverse,z8,List.length_map,zh,zi];first|done|omega)) only [go_sem,reduceEqDiff,Nat.reduceBEq,reduceAdd,reduceMul,reduceSub,reduceLeDiff,reduceToNat,reducePow]; rfl⟩
  · rintro m Z O' ⟨i, hm, rfl, ht, q0, q1, q5⟩
    by_cases hi : i < l.length
    · obtain ⟨ex, rfl⟩ := hx.vsl (by rw [List.length_map]; omega)
      obtain ⟨a, hal⟩ : ∃ a, l[i]? = some a := ⟨_, List.getElem?_eq_getElem hi⟩
      have ham : a ∈ l := List.mem_of_getElem? hal
      have hgi : (l.map actR)[i]? = some [.int .u8 a.k, .int .u8 a.c, a.x, a.y] := by rw [List.getElem?_map, hal]; rfl
      have ha := hok a ham
      have lx := ha.x.len
      rw [z8] at lx
      unfold z12 at lx
      have ly := ha.y.len
      rw [z6] at ly
      unfold z12 at ly
      have hll := ha.ll
      have hpl := ha.pl
      have hyes : z3o a = true -> z4o l n = true := fun h => by unfold z4o; rw [List.any_eq_true.2 ⟨a, ham, h⟩]; rfl
      by_cases h1 : 20 < a.L.length
      · rw [hyes (by unfold z3o; rw [decide_eq_true h1]; rfl)]
        have h1' : (a.L.length : Int) > 20 := by omega
        repeat' (first|refine zW.zs ?_|refine zW.zb ?_|refine zW.zc ?_|refine zW.zt rfl ?_|refine zW.zf rfl ?_|(refine zW.zd rfl (fun ht => ?_) (fun ht => ?_)<;>try (exfalso;omega))|((first|refine zW.zr ?_|refine zW.zk ?_|refine zW.ze ?_|refine zW.zq ?_|((first|apply zg0|apply zg1|apply zg2|apply zg3|apply zg4|apply zg5|apply zg6|apply zg7)<;>intro ht));all_goals try simp (disch:=first|omega|(simp only [lens,z7,z6,List.length_reverse,z8,List.length_map,zh,zi];first|done|omega)) only [go_sem,reduceEqDiff,Nat.reduceBEq,reduceAdd,reduceMul,reduceSub,reduceLeDiff,reduceToNat,reducePow, q0, q1, q5, r1, hgi, lx, ly, h1']))
        exact DownV.same hw z3x
      have h1' : ¬ (a.L.length : Int) > 20 := by omega
      by_cases h2 : 70 < a.P.length
      · rw [hyes (by unfold z3o; rw [decide_eq_true h2]; simp)]
        have h2' : (a.P.length : Int) > 70 := by omega
        repeat' (first|refine zW.zs ?_|refine zW.zb ?_|refine zW.zc ?_|refine zW.zt rfl ?_|refine zW.zf rfl ?_|(refine zW.zd rfl (fun ht => ?_) (fun ht => ?_)<;>try (exfalso;omega))|((first|refine zW.zr ?_|refine zW.zk ?_|refine zW.ze ?_|refine zW.zq ?_|((first|apply zg0|apply zg1|apply zg2|apply zg3|apply zg4|apply zg5|apply zg6|apply zg7)<;>intro ht));all_goals try simp (disch:=first|omega|(simp only [lens,z7,z6,List.length_reverse,z8,List.length_map,zh,zi];first|done|omega)) only [go_sem,reduceEqDiff,Nat.reduceBEq,reduceAdd,reduceMul,reduceSub,reduceLeDiff,reduceToNat,reducePow, q0, q1, q5, r1, hgi, lx, ly, h1', h2']))
        exact DownV.same hw z3x
      have h2' : ¬ (a.P.length : Int) > 70 := by omega
      repeat' (first|refine zW.zs ?_|refine zW.zb ?_|refine zW.zc ?_|refine zW.zt rfl ?_|refine zW.zf rfl ?_|(refine zW.zd rfl (fun ht => ?_) (fun ht => ?_)<;>try (exfalso;omega))|((first|refine zW.zr ?_|refine zW.zk ?_|refine zW.ze ?_|refine zW.zq ?_|((first|apply zg0|apply zg1|apply zg2|apply zg3|apply zg4|apply zg5|apply zg6|apply zg7)<;>intro ht));all_goals try simp (disch:=first|omega|(simp only [lens,z7,z6,List.length_reverse,z8,List.length_map,zh,zi];first|done|omega)) only [go_sem,reduceEqDiff,Nat.reduceBEq,reduceAdd,reduceMul,reduceSub,reduceLeDiff,reduceToNat,reducePow, q0, q1, q5, r1, hgi, lx, ly, h1', h2']))
      refine zW.loop (fun m' Z O2 => ∃ j : Nat, m' + j = a.L.length /\ O2 = O' /\ (a.L.take j).any (fun s => decide (250 < s.length)) = false /\ Z 0 = .vsl 4 (l.map actR) ex /\ Z 1 = .int .i64 n /\ Z 5 = .int .i64 i /\ Z 6 = .int .i64 j) a.L.length ?_ ?_
      · exact ⟨0, by omega, rfl, by simp, by simp (disch:=first|omega|(simp only [lens,z7,z6,List.length_reverse,z8,List.length_map,zh,zi];first|done|omega)) only [go_sem,reduceEqDiff,Nat.reduceBEq,reduceAdd,reduceMul,reduceSub,reduceLeDiff,reduceToNat,reducePow, q0], by simp (disch:=first|omega|(simp only [lens,z7,z6,List.length_reverse,z8,List.length_map,zh,zi];first|done|omega)) only [go_sem,reduceEqDiff,Nat.reduceBEq,reduceAdd,reduceMul,reduceSub,reduceLeDiff,reduceToNat,reducePow, q1], by simp (disch:=first|omega|(simp only [lens,z7,z6,List.length_reverse,z8,List.length_map,zh,zi];first|done|omega)) only [go_sem,reduceEqDiff,Nat.reduceBEq,reduceAdd,reduceMul,reduceSub,reduceLeDiff,reduceToNat,reducePow, q5], by simp (disch:=first|omega|(simp only [lens,z7,z6,List.length_reverse,z8,List.length_map,zh,zi];first|done|omega)) only [go_sem,reduceEqDiff,Nat.reduceBEq,reduceAdd,reduceMul,reduceSub,reduceLeDiff,reduceToNat,reducePow]; rfl⟩
      · rintro m' Z O2 ⟨j, hmj, rfl, htj, q0, q1, q5, q6⟩
        by_cases hj : j < a.L.length
        · obtain ⟨ex2, hax⟩ := ha.x.vsl (by rw [z8]; omega)
          have hgj := z6k hj
          rw [show a.L.getD j [] = stD a.L j from rfl] at hgj
          by_cases h3 : 250 < (stD a.L j).length
          · rw [hyes (by unfold z3o; rw [List.any_eq_true.2 ⟨stD a.L j, z5w hj, decide_eq_true h3⟩]; simp)]
            have h3' : ((stD a.L j).length : Int) > 250 := by omega
            rw [hax] at hgi lx
            repeat' (first|refine zW.zs ?_|refine zW.zb ?_|refine zW.zc ?_|refine zW.zt rfl ?_|refine zW.zf rfl ?_|(refine zW.zd rfl (fun ht => ?_) (fun ht => ?_)<;>try (exfalso;omega))|((first|refine zW.zr ?_|refine zW.zk ?_|refine zW.ze ?_|refine zW.zq ?_|((first|apply zg0|apply zg1|apply zg2|apply zg3|apply zg4|apply zg5|apply zg6|apply zg7)<;>intro ht));all_goals try simp (disch:=first|omega|(simp only [lens,z7,z6,List.length_reverse,z8,List.length_map,zh,zi];first|done|omega)) only [go_sem,reduceEqDiff,Nat.reduceBEq,reduceAdd,reduceMul,reduceSub,reduceLeDiff,reduceToNat,reducePow, q0, q1, q5, q6, r1, hgi, hgj, lx, h3']))
            exact DownV.same hw z3x
          · have h3' : ¬ ((stD a.L j).length : Int) > 250 := by omega
            have ht2 : (a.L.take (j + 1)).any (fun s => decide (250 < s.length)) = false := by
              rw [z6n hj, List.any_append, htj]
              simp [h3]
              try omega
            rw [hax] at hgi lx
            repeat' (first|refine zW.zs ?_|refine zW.zb ?_|refine zW.zc ?_|refine zW.zt rfl ?_|refine zW.zf rfl ?_|(refine zW.zd rfl (fun ht => ?_) (fun ht => ?_)<;>try (exfalso;omega))|((first|refine zW.zr ?_|refine zW.zk ?_|refine zW.ze ?_|refine zW.zq ?_|((first|apply zg0|apply zg1|apply zg2|apply zg3|apply zg4|apply zg5|apply zg6|apply zg7)<;>intro ht));all_goals try simp (disch:=first|omega|(simp only [lens,z7,z6,List.length_reverse,z8,List.length_map,zh,zi];first|done|omega)) only [go_sem,reduceEqDiff,Nat.reduceBEq,reduceAdd,reduceMul,reduceSub,reduceLeDiff,reduceToNat,reducePow, q0, q1, q5, q6, r1, hgi, hgj, lx, h3']))
            exact ⟨m' - 1, by omega, j + 1, by omega, by simpa using ht2, by simp⟩
        · obtain rfl : j = a.L.length := by omega
          rw [List.take_of_length_le (Nat.le_refl _)] at htj
          have hga : z3o a = false := by unfold z3o; rw [htj, decide_eq_false h1, decide_eq_false h2]; rfl
          have ht2 : (l.take (i + 1)).any z3o = false := by
            rw [List.take_add_one, hal, List.any_append, ht]
            show (false || ([a] : List ActS).any z3o) = false
            rw [List.any_cons, hga]; rfl
          repeat' (first|refine zW.zs ?_|refine zW.zb ?_|refine zW.zc ?_|refine zW.zt rfl ?_|refine zW.zf rfl ?_|(refine zW.zd rfl (fun ht => ?_) (fun ht => ?_)<;>try (exfalso;omega))|((first|refine zW.zr ?_|refine zW.zk ?_|refine zW.ze ?_|refine zW.zq ?_|((first|apply zg0|apply zg1|apply zg2|apply zg3|apply zg4|apply zg5|apply zg6|apply zg7)<;>intro ht));all_goals try simp (disch:=first|omega|(simp only [lens,z7,z6,List.length_reverse,z8,List.length_map,zh,zi];first|done|omega)) only [go_sem,reduceEqDiff,Nat.reduceBEq,reduceAdd,reduceMul,reduceSub,reduceLeDiff,reduceToNat,reducePow, q0, q1, q5, q6, r1, hgi, lx]))
          exact ⟨m - 1, by omega, i + 1, by omega, ht2, by simp⟩
    · obtain rfl : i = l.length := by omega
      rw [List.take_of_length_le (Nat.le_refl _)] at ht
      unfold z4o
      rw [ht, Bool.false_or]
      by_cases h6 : (l.length : Int) > n
      · rw [decide_eq_true h6]
        repeat' (first|refine zW.zs ?_|refine zW.zb ?_|refine zW.zc ?_|refine zW.zt rfl ?_|refine zW.zf rfl ?_|(refine zW.zd rfl (fun ht => ?_) (fun ht => ?_)<;>try (exfalso;omega))|((first|refine zW.zr ?_|refine zW.zk ?_|refine zW.ze ?_|refine zW.zq ?_|((first|apply zg0|apply zg1|apply zg2|apply zg3|apply zg4|apply zg5|apply zg6|apply zg7)<;>intro ht));all_goals try simp (disch:=first|omega|(simp only [lens,z7,z6,List.length_reverse,z8,List.length_map,zh,zi];first|done|omega)) only [go_sem,reduceEqDiff,Nat.reduceBEq,reduceAdd,reduceMul,reduceSub,reduceLeDiff,reduceToNat,reducePow, q0, q1, q5, r1, h6]))
        exact DownV.same hw z3x
      · rw [decide_eq_false h6]
        repeat' (first|refine zW.zs ?_|refine zW.zb ?_|refine zW.zc ?_|refine zW.zt rfl ?_|refine zW.zf rfl ?_|(refine zW.zd rfl (fun ht => ?_) (fun ht => ?_)<;>try (exfalso;omega))|((first|refine zW.zr ?_|refine zW.zk ?_|refine zW.ze ?_|refine zW.zq ?_|((first|apply zg0|apply zg1|apply zg2|apply zg3|apply zg4|apply zg5|apply zg6|apply zg7)<;>intro ht));all_goals try simp (disch:=first|omega|(simp only [lens,z7,z6,List.length_reverse,z8,List.length_map,zh,zi];first|done|omega)) only [go_sem,reduceEqDiff,Nat.reduceBEq,reduceAdd,reduceMul,reduceSub,reduceLeDiff,reduceToNat,reducePow, q0, q1, q5, r1, h6]))
        exact DownV.same hw z3x
end Am
end Go.Proofs.YtncenefkbpelbaaDoor
end
section
/- Stage: contracts: an act's chunk. -/
namespace Go.Proofs.YtncenefkbpelbaaDoor
namespace Am
/-- The last entry of an act's chunk. -/
def chN (a : ActS) (log : List (List UInt8)) (h : Nat) : Nat := min (h + (a.c % 20).toNat) log.length
def chC (a : ActS) (log : List (List UInt8)) (h : Nat) : List (List UInt8) := (log.take (chN a log h)).drop h
/-- An act's chunk. -/
def chL (a : ActS) (log : List (List UInt8)) (h : Nat) : List (List UInt8) :=
  if a.k % 6 = 5 then a.L
  else if a.k % 6 = 3 /\ 0 < (chC a log h).length then (chC a log h).set (a.c.toNat % (chC a log h).length) (stD (chC a log h) (a.c.toNat % (chC a log h).length) ++ [33])
  else chC a log h
def chP (a : ActS) (log : List (List UInt8)) (h : Nat) : List Hash := if a.k % 6 = 5 \/ a.k % 6 = 4 then a.P else z3w (lvs log) (chN a log h)
theorem zor (l : List (List UInt8)) (i : Nat) (s : List UInt8) : (strs l).set i [.str s] = strs (l.set i s) := by simp [strs, List.map_set]
theorem z6l (l : List (List UInt8)) (n : Nat) : (strs l).take n = strs (l.take n) := by simp [strs, List.map_take]
theorem z8b (l : List (List UInt8)) (n : Nat) : (strs l).drop n = strs (l.drop n) := by simp [strs, List.map_drop]
theorem zaq {O news : Store} (hw : Wf O.length O) {C : List (List UInt8)} {n : Nat} (hC : C.length ≠ 0) (hn : n = (strs C).length) {w : AV} (hg : (O ++ news)[O.length + 1]? = some (some (strs C))) (hrw : RL O.length w) :
    DownV O.length (.tup [.sl (O.length + 1) 0 n none 1, w]) (O ++ news) (.tup [zz 1 (strs C), w]) O := by
  subst hn
  have hne : strs C ≠ [] := fun e => hC (by rw [<- z8, e]; rfl)
  refine DownV.all hw (drT (drsc ?_ (drs1 (FrzD.same hrw))))
  unfold zz
  rw [if_neg hne]
  exact FrzD.sl (o := strs C) (off := 0) (by omega) hg (by omega) (by simp) (z87 C)
attribute [local irreducible] ACallsTo ACallsP
set_option maxHeartbeats 16000000 in
theorem of_to (O : Store) (a : ActS) (log : List (List UInt8)) (y : AV) (h : Nat) (ha : ActOk a) (hy : SlV 1 (strs log) y) (hlog : log.length <= 60) (hls : ∀ s ∈ log, s.length <= 200) (hh : h <= log.length) :
    ∃ X Y, SlV 1 (strs (chL a log h)) X /\ SlV 32 (hr (chP a log h)) Y /\ ∀ O, ACallsTo TC 26 [.agg (actR a), y, .int .i64 h] O (.tup [X, Y]) O := by
  have hk := ha.k
  have hc := ha.c
  by_cases k5 : a.k % 6 = 5
  · refine ⟨a.x, a.y, ?_, ?_, fun O => ?_⟩
    · unfold chL; rw [if_pos k5]; exact ha.x
    · unfold chP; rw [if_pos (.inl k5)]; exact ha.y
    · unfold actR
      have xc := z48 ha.x
      have yc := z48 ha.y
      unfold cellsOf at xc yc
      have hrx : RL O.length a.x := zc2 ha.x
      have hry : RL O.length a.y := rl_z ha.y
      generalize a.x = x at *
      generalize a.y = y' at *
      refine ACallsTo.of_body z6b (by simp) fun hw _ => ?_
      repeat' (first|refine zW.zs ?_|refine zW.zb ?_|refine zW.zc ?_|refine zW.zt rfl ?_|refine zW.zf rfl ?_|(refine zW.zd rfl (fun ht => ?_) (fun ht => ?_)<;>try (exfalso;omega))|((first|refine zW.zr ?_|refine zW.zk ?_|refine zW.ze ?_|refine zW.zq ?_|((first|apply zg0|apply zg1|apply zg2|apply zg3|apply zg4|apply zg5|apply zg6|apply zg7)<;>intro ht));all_goals try simp (disch:=first|omega|(simp only [lens,z7,z6,List.length_reverse,z8,List.length_map,zh,zi,List.length_take,List.length_drop];first|done|omega)) only [go_sem,reduceEqDiff,Nat.reduceBEq,reduceAdd,reduceMul,reduceSub,reduceLeDiff,reduceToNat,reducePow, xc, yc, k5]))
      exact DownV.pure hw (by simp only [RL, RLs]; exact ⟨hrx, hry, trivial⟩)
  · have hN : (if (log.length : Int) < (h : Int) + a.c % 20 then (log.length : Int) else (h : Int) + a.c % 20) = ((chN a log h : Nat) : Int) := by unfold chN; split <;> omega
    have hN1 : h <= chN a log h /\ chN a log h <= log.length := by unfold chN; omega
    have r1 := hy.len
    rw [z8] at r1
    unfold z12 at r1
    have hlv := fun O => z9h O log y hy (fun s hs => by have := hls s hs; omega) (by omega)
    have hPr := fun O => zac O (lvs log) (zz 32 (hr (lvs log))) ((chN a log h : Nat) : Int) (z27 _ _) (by rw [zi]; omega)
    have xc := z48 ha.x
    have yc := z48 ha.y
    unfold cellsOf at xc yc
    have hlen : (chC a log h).length = chN a log h - h := by unfold chC; rw [List.length_drop, List.length_take]; omega
    have hP : SlV 32 (hr (chP a log h)) (if a.k % 6 = 4 then a.y else zz 32 (hr (z3w (lvs log) (chN a log h)))) := by
      unfold chP
      by_cases k4 : a.k % 6 = 4
      · rw [if_pos (.inr k4), if_pos k4]; exact ha.y
      · rw [if_neg (by omega), if_neg k4]; exact z27 _ _
    have hrp : ∀ k, RL k (zz 32 (hr (z3w (lvs log) (chN a log h)))) := fun k => zc0 (z3f _)
    have hC : (log.take (chN a log h)).drop h = chC a log h := rfl
    refine ⟨zz 1 (strs (chL a log h)), _, z27 _ _, hP, fun O => ?_⟩
    have hry : RL O.length a.y := rl_z ha.y
    have hL5 : chL a log h = if a.k % 6 = 3 /\ 0 < (chC a log h).length then (chC a log h).set (a.c.toNat % (chC a log h).length) (stD (chC a log h) (a.c.toNat % (chC a log h).length) ++ [33]) else chC a log h := by unfold chL; rw [if_neg k5]
    rw [hL5]
    clear hP hL5
    have hCs : ∀ s ∈ chC a log h, s.length <= 200 := fun s hs => hls s (List.mem_of_mem_take (List.mem_of_mem_drop hs))
    unfold actR
    generalize a.x = x at *
    generalize a.y = y' at *
    generalize chC a log h = C at *
    generalize z3w (lvs log) (chN a log h) = PH at *
    generalize chN a log h = N at *
    by_cases hn : C.length = 0
    · obtain rfl := List.eq_nil_of_length_eq_zero hn
      rw [if_neg (by simp), show zz 1 (strs []) = .nilsl from rfl]
      by_cases hl0 : log.length = 0
      · obtain rfl := List.eq_nil_of_length_eq_zero hl0
        obtain rfl : N = 0 := by simpa using hN1.2
        obtain rfl : h = 0 := by simpa using hh
        have hz : (if (0 : Int) < (0 : Int) + a.c % 20 then (0 : Int) else (0 : Int) + a.c % 20) = 0 := by split <;> omega
        rcases hy with ⟨rfl, _⟩ | ⟨ex, rfl⟩
        · refine ACallsTo.of_body z6b (by simp) fun hw _ => ?_
          by_cases k4 : a.k % 6 = 4
          · rw [if_pos k4]
            repeat' (first|refine zW.zs ?_|refine zW.zb ?_|refine zW.zc ?_|refine zW.zt rfl ?_|refine zW.zf rfl ?_|(refine zW.zd rfl (fun ht => ?_) (fun ht => ?_)<;>try (exfalso;omega))|((first|refine zW.zr ?_|refine zW.zk ?_|refine zW.ze ?_|refine zW.zq ?_|(apply callW.mk_pu; (first | exact (fun _ => hlv _) | exact (fun _ => hPr _))) | (apply callW.za; (first | exact (hlv _) | exact (hPr _))) | ((first|apply zg0|apply zg1|apply zg2|apply zg3|apply zg4|apply zg5|apply zg6|apply zg7)<;>intro ht));all_goals try simp (disch:=first|omega|(simp only [lens,z7,z6,List.length_reverse,z8,List.length_map,zh,zi,List.length_take,List.length_drop];first|done|omega)) only [go_sem,reduceEqDiff,Nat.reduceBEq,reduceAdd,reduceMul,reduceSub,reduceLeDiff,reduceToNat,reducePow, xc, yc, k5, k4, hz, Int.natCast_zero, Int.toNat_zero]))
            all_goals exact DownV.pure hw (by simp only [RL, RLs]; exact ⟨trivial, hry, trivial⟩)
          · rw [if_neg k4]
            repeat' (first|refine zW.zs ?_|refine zW.zb ?_|refine zW.zc ?_|refine zW.zt rfl ?_|refine zW.zf rfl ?_|(refine zW.zd rfl (fun ht => ?_) (fun ht => ?_)<;>try (exfalso;omega))|((first|refine zW.zr ?_|refine zW.zk ?_|refine zW.ze ?_|refine zW.zq ?_|(apply callW.mk_pu; (first | exact (fun _ => hlv _) | exact (fun _ => hPr _))) | (apply callW.za; (first | exact (hlv _) | exact (hPr _))) | ((first|apply zg0|apply zg1|apply zg2|apply zg3|apply zg4|apply zg5|apply zg6|apply zg7)<;>intro ht));all_goals try simp (disch:=first|omega|(simp only [lens,z7,z6,List.length_reverse,z8,List.length_map,zh,zi,List.length_take,List.length_drop];first|done|omega)) only [go_sem,reduceEqDiff,Nat.reduceBEq,reduceAdd,reduceMul,reduceSub,reduceLeDiff,reduceToNat,reducePow, xc, yc, k5, k4, hz, Int.natCast_zero, Int.toNat_zero]))
            all_goals exact DownV.pure hw (by simp only [RL, RLs]; exact ⟨trivial, hrp _, trivial⟩)
        · have hs0 : strs [] = [] := rfl
          refine ACallsTo.of_body z6b (by simp) fun hw _ => ?_
          by_cases k4 : a.k % 6 = 4
          · rw [if_pos k4]
            repeat' (first|refine zW.zs ?_|refine zW.zb ?_|refine zW.zc ?_|refine zW.zt rfl ?_|refine zW.zf rfl ?_|(refine zW.zd rfl (fun ht => ?_) (fun ht => ?_)<;>try (exfalso;omega))|((first|refine zW.zr ?_|refine zW.zk ?_|refine zW.ze ?_|refine zW.zq ?_|(apply callW.mk_pu; (first | exact (fun _ => hlv _) | exact (fun _ => hPr _))) | (apply callW.za; (first | exact (hlv _) | exact (hPr _))) | ((first|apply zg0|apply zg1|apply zg2|apply zg3|apply zg4|apply zg5|apply zg6|apply zg7)<;>intro ht));all_goals try simp (disch:=first|omega|(simp only [lens,z7,z6,List.length_reverse,z8,List.length_map,zh,zi,List.length_take,List.length_drop];first|done|omega)) only [go_sem,reduceEqDiff,Nat.reduceBEq,reduceAdd,reduceMul,reduceSub,reduceLeDiff,reduceToNat,reducePow, xc, yc, k5, k4, hz, hs0, Int.natCast_zero, Int.toNat_zero]))
            all_goals exact DownV.pure hw (by simp only [RL, RLs]; exact ⟨trivial, hry, trivial⟩)
          · rw [if_neg k4]
            repeat' (first|refine zW.zs ?_|refine zW.zb ?_|refine zW.zc ?_|refine zW.zt rfl ?_|refine zW.zf rfl ?_|(refine zW.zd rfl (fun ht => ?_) (fun ht => ?_)<;>try (exfalso;omega))|((first|refine zW.zr ?_|refine zW.zk ?_|refine zW.ze ?_|refine zW.zq ?_|(apply callW.mk_pu; (first | exact (fun _ => hlv _) | exact (fun _ => hPr _))) | (apply callW.za; (first | exact (hlv _) | exact (hPr _))) | ((first|apply zg0|apply zg1|apply zg2|apply zg3|apply zg4|apply zg5|apply zg6|apply zg7)<;>intro ht));all_goals try simp (disch:=first|omega|(simp only [lens,z7,z6,List.length_reverse,z8,List.length_map,zh,zi,List.length_take,List.length_drop];first|done|omega)) only [go_sem,reduceEqDiff,Nat.reduceBEq,reduceAdd,reduceMul,reduceSub,reduceLeDiff,reduceToNat,reducePow, xc, yc, k5, k4, hz, hs0, Int.natCast_zero, Int.toNat_zero]))
            all_goals exact DownV.pure hw (by simp only [RL, RLs]; exact ⟨trivial, hrp _, trivial⟩)
      · obtain ⟨ex, rfl⟩ := hy.vsl (by rw [z8]; omega)
        have hs0 : strs [] = [] := rfl
        refine ACallsTo.of_body z6b (by simp) fun hw _ => ?_
        by_cases k4 : a.k % 6 = 4
        · rw [if_pos k4]
          repeat' (first|refine zW.zs ?_|refine zW.zb ?_|refine zW.zc ?_|refine zW.zt rfl ?_|refine zW.zf rfl ?_|(refine zW.zd rfl (fun ht => ?_) (fun ht => ?_)<;>try (exfalso;omega))|((first|refine zW.zr ?_|refine zW.zk ?_|refine zW.ze ?_|refine zW.zq ?_|(apply callW.mk_pu; (first | exact (fun _ => hlv _) | exact (fun _ => hPr _))) | (apply callW.za; (first | exact (hlv _) | exact (hPr _))) | ((first|apply zg0|apply zg1|apply zg2|apply zg3|apply zg4|apply zg5|apply zg6|apply zg7)<;>intro ht));all_goals try simp (disch:=first|omega|(simp only [lens,z7,z6,List.length_reverse,z8,List.length_map,zh,zi,List.length_take,List.length_drop];first|done|omega)) only [go_sem,reduceEqDiff,Nat.reduceBEq,reduceAdd,reduceMul,reduceSub,reduceLeDiff,reduceToNat,reducePow, xc, yc, k5, k4, r1, hN, Int.toNat_natCast, z6l, z8b, hC, hs0]))
          all_goals exact DownV.pure hw (by simp only [RL, RLs]; exact ⟨trivial, hry, trivial⟩)
        · rw [if_neg k4]
          repeat' (first|refine zW.zs ?_|refine zW.zb ?_|refine zW.zc ?_|refine zW.zt rfl ?_|refine zW.zf rfl ?_|(refine zW.zd rfl (fun ht => ?_) (fun ht => ?_)<;>try (exfalso;omega))|((first|refine zW.zr ?_|refine zW.zk ?_|refine zW.ze ?_|refine zW.zq ?_|(apply callW.mk_pu; (first | exact (fun _ => hlv _) | exact (fun _ => hPr _))) | (apply callW.za; (first | exact (hlv _) | exact (hPr _))) | ((first|apply zg0|apply zg1|apply zg2|apply zg3|apply zg4|apply zg5|apply zg6|apply zg7)<;>intro ht));all_goals try simp (disch:=first|omega|(simp only [lens,z7,z6,List.length_reverse,z8,List.length_map,zh,zi,List.length_take,List.length_drop];first|done|omega)) only [go_sem,reduceEqDiff,Nat.reduceBEq,reduceAdd,reduceMul,reduceSub,reduceLeDiff,reduceToNat,reducePow, xc, yc, k5, k4, r1, hN, Int.toNat_natCast, z6l, z8b, hC, hs0]))
          all_goals exact DownV.pure hw (by simp only [RL, RLs]; exact ⟨trivial, hrp _, trivial⟩)
    · obtain ⟨ex, rfl⟩ := hy.vsl (by rw [z8]; omega)
      by_cases k3 : a.k % 6 = 3
      · have k4 : ¬ a.k % 6 = 4 := by omega
        rw [if_pos ⟨k3, by omega⟩, if_neg k4]
        refine ACallsTo.of_body z6b (by simp) fun hw _ => ?_
        have hcm : a.c % (C.length : Int) = ((a.c.toNat % C.length : Nat) : Int) := by rw [Int.natCast_emod, Int.toNat_of_nonneg hc.1]
        have him : a.c.toNat % C.length < C.length := Nat.mod_lt _ (by omega)
        have hgi := z6k him
        rw [show C.getD (a.c.toNat % C.length) [] = stD C (a.c.toNat % C.length) from rfl] at hgi
        generalize a.c.toNat % C.length = J at *
        rw [<- z8] at hcm
        have hsl := hCs _ (z5w him)
        generalize stD C J = s at *
        repeat' (first|refine zW.zs ?_|refine zW.zb ?_|refine zW.zc ?_|refine zW.zt rfl ?_|refine zW.zf rfl ?_|(refine zW.zd rfl (fun ht => ?_) (fun ht => ?_)<;>try (exfalso;omega))|((first|refine zW.zr ?_|refine zW.zk ?_|refine zW.ze ?_|refine zW.zq ?_|(apply callW.mk_pu; (first | exact (fun _ => hlv _) | exact (fun _ => hPr _))) | (apply callW.za; (first | exact (hlv _) | exact (hPr _))) | ((first|apply zg0|apply zg1|apply zg2|apply zg3|apply zg4|apply zg5|apply zg6|apply zg7)<;>intro ht));all_goals try simp (disch:=first|omega|(simp only [lens,z7,z6,List.length_reverse,z8,List.length_map,zh,zi,List.length_take,List.length_drop];first|done|omega)) only [go_sem,reduceEqDiff,Nat.reduceBEq,reduceAdd,reduceMul,reduceSub,reduceLeDiff,reduceToNat,reducePow, xc, yc, k5, k3, k4, r1, hN, Int.toNat_natCast, z6l, z8b, hC, hcm, hgi, zor]))
        refine zaq hw ?_ ?_ ?_ (hrp _)
        · simpa using hn
        · simp [z8]
        · simp
      · rw [if_neg (fun h => k3 h.1)]
        by_cases k4 : a.k % 6 = 4
        · rw [if_pos k4]
          refine ACallsTo.of_body z6b (by simp) fun hw _ => ?_
          repeat' (first|refine zW.zs ?_|refine zW.zb ?_|refine zW.zc ?_|refine zW.zt rfl ?_|refine zW.zf rfl ?_|(refine zW.zd rfl (fun ht => ?_) (fun ht => ?_)<;>try (exfalso;omega))|((first|refine zW.zr ?_|refine zW.zk ?_|refine zW.ze ?_|refine zW.zq ?_|(apply callW.mk_pu; (first | exact (fun _ => hlv _) | exact (fun _ => hPr _))) | (apply callW.za; (first | exact (hlv _) | exact (hPr _))) | ((first|apply zg0|apply zg1|apply zg2|apply zg3|apply zg4|apply zg5|apply zg6|apply zg7)<;>intro ht));all_goals try simp (disch:=first|omega|(simp only [lens,z7,z6,List.length_reverse,z8,List.length_map,zh,zi,List.length_take,List.length_drop];first|done|omega)) only [go_sem,reduceEqDiff,Nat.reduceBEq,reduceAdd,reduceMul,reduceSub,reduceLeDiff,reduceToNat,reducePow, xc, yc, k5, k3, k4, r1, hN, Int.toNat_natCast, z6l, z8b, hC]))
          exact zaq hw hn rfl (by simp) hry
        · rw [if_neg k4]
          refine ACallsTo.of_body z6b (by simp) fun hw _ => ?_
          repeat' (first|refine zW.zs ?_|refine zW.zb ?_|refine zW.zc ?_|refine zW.zt rfl ?_|refine zW.zf rfl ?_|(refine zW.zd rfl (fun ht => ?_) (fun ht => ?_)<;>try (exfalso;omega))|((first|refine zW.zr ?_|refine zW.zk ?_|refine zW.ze ?_|refine zW.zq ?_|(apply callW.mk_pu; (first | exact (fun _ => hlv _) | exact (fun _ => hPr _))) | (apply callW.za; (first | exact (hlv _) | exact (hPr _))) | ((first|apply zg0|apply zg1|apply zg2|apply zg3|apply zg4|apply zg5|apply zg6|apply zg7)<;>intro ht));all_goals try simp (disch:=first|omega|(simp only [lens,z7,z6,List.length_reverse,z8,List.length_map,zh,zi,List.length_take,List.length_drop];first|done|omega)) only [go_sem,reduceEqDiff,Nat.reduceBEq,reduceAdd,reduceMul,reduceSub,reduceLeDiff,reduceToNat,reducePow, xc, yc, k5, k3, k4, r1, hN, Int.toNat_natCast, z6l, z8b, hC]))
          exact zaq hw hn rfl (by simp) (hrp _)
end Am
end Go.Proofs.YtncenefkbpelbaaDoor
end
section
/- Stage: one stage alone; the chapter's log. -/
namespace Go.Proofs.YtncenefkbpelbaaDoor
namespace Am
/-- A stage behind all elder objects. -/
structure StAt (τ O' : Store) (r hn : Nat) (root : Hash) (rn : Nat) (hs : List Hash) (L : List (List UInt8)) : Prop where
  is : ∃ sid, StgIs O' r hn root rn hs L sid /\ ∀ q, sid = some q -> τ.length <= q
  r : τ.length <= r
  le : τ.length <= O'.length
  st : ∀ q, q < τ.length -> O'[q]? = τ[q]?
theorem StAt.get {τ O' : Store} {r hn : Nat} {root : Hash} {rn : Nat} {hs : List Hash} {L : List (List UInt8)} (h : StAt τ O' r hn root rn hs L) {q : Nat} {o : Option AObj} (hq : τ[q]? = some o) : O'[q]? = some o := by
  rw [h.st q (slen hq)]; exact hq
theorem StAt.more {τ O' y : Store} {r hn : Nat} {root : Hash} {rn : Nat} {hs : List Hash} {L : List (List UInt8)} (h : StAt τ O' r hn root rn hs L) : StAt τ (O' ++ y) r hn root rn hs L := by
  obtain ⟨sid, h1, h2⟩ := h.is
  exact ⟨⟨sid, h1.ext ⟨y, rfl⟩, h2⟩, h.r, by have := h.le; simp; omega, fun q hq => by rw [gapp (by have := h.le; omega)]; exact h.st q hq⟩
theorem StAt.add {τ O' : Store} {r hn : Nat} {root : Hash} {rn : Nat} {hs : List Hash} {L X : List (List UInt8)} {P : List Hash} {x y : AV} (h : StAt τ O' r hn root rn hs L) (hx : SlV 1 (strs X) x) (hy : SlV 32 (hr P) y) (h0 : hn ≠ 0) (hn4 : hn <= 4096) (hle : rn <= hn) (hl : hs.length = pc 13 rn)
    (hXs : ∀ s ∈ X, s.length < 1000000) (hXl : X.length < 1000000) (hLl : L.length < 1000000) (hPl : P.length < 1000000) :
    ACallsP TC 15 [.ptr r 0 0, x, y] O' (fun a O'' => a = .int .i64 (addE hn root rn hs X P) ∧
      StAt τ O'' r hn root (if addE hn root rn hs X P = 0 then rn + X.length else rn) (if addE hn root rn hs X P = 0 then nxH rn hs X else hs) (if addE hn root rn hs X P = 0 then L ++ X else L)) := by
  obtain ⟨sid, h1, h2⟩ := h.is
  refine (zgk O' r hn root rn hs L X P sid x y h1 hx hy h0 hn4 hle hl hXs hXl hLl hPl).mono ?_
  rintro a O'' ⟨e, sid', fr, T⟩
  refine ⟨e, ⟨sid', T, fun q hq => ?_⟩, h.r, by have := h.le; have := fr.le; omega, fun q hq => ?_⟩
  · rcases fr.new with h3 | ⟨q', h3, h4⟩
    · exact h2 q (by rw [<- h3]; exact hq)
    · rw [h3] at hq; cases hq; have := h.le; omega
  · rw [fr.st q (by have := h.le; omega) (fun e => by have := h.r; omega) (fun e => by have := h2 q e; omega)]
    exact h.st q hq
theorem StAt.has {τ O' : Store} {r hn : Nat} {root : Hash} {rn : Nat} {hs : List Hash} {L X : List (List UInt8)} {P : List Hash} (h : StAt τ O' r hn root rn hs L) (hX : X ≠ []) : ∃ a O'', a = AV.int .i64 (addE hn root rn hs X P) ∧
      StAt τ O'' r hn root (if addE hn root rn hs X P = 0 then rn + X.length else rn) (if addE hn root rn hs X P = 0 then nxH rn hs X else hs) (if addE hn root rn hs X P = 0 then L ++ X else L) := by
  obtain ⟨sid, h1, h2⟩ := h.is
  obtain ⟨a, O'', e, sid', fr, T⟩ := AddP.is (P := P) h1 hX
  refine ⟨a, O'', e, ⟨sid', T, fun q hq => ?_⟩, h.r, by have := h.le; have := fr.le; omega, fun q hq => ?_⟩
  · rcases fr.new with h3 | ⟨q', h3, h4⟩
    · exact h2 q (by rw [<- h3]; exact hq)
    · rw [h3] at hq; cases hq; have := h.le; omega
  · rw [fr.st q (by have := h.le; omega) (fun e => by have := h.r; omega) (fun e => by have := h2 q e; omega)]
    exact h.st q hq
theorem split3 : zn 3 = 2 := by
  obtain ⟨j, h1, h2, h3⟩ := zcg (n := 3) (by omega)
  rw [h1]
  match j, h2, h3 with
  | 0, _, h => simp at h
  | 1, _, _ => rfl
  | j + 2, h, _ => have : 2 ^ 2 <= 2 ^ (j + 2) := Nat.pow_le_pow_right (by omega) (by omega); omega
theorem root_3 (a b c : Hash) : z3m [a, b, c] = z15 (z15 a b) c := by
  rw [zft (by simp)]; simp [split3, zfw, zfs]
section
variable (a b c d : Hash)
theorem nx2 : nxH 0 [] [[97], [98]] = [z15 (lfH [97]) (lfH [98])] := rfl
theorem nx3 (n : Hash) (s : List UInt8) : nxH 2 [n] [s] = [n, lfH s] := rfl
theorem zfu (n l : Hash) : z4u [n, l].reverse = z15 n l := rfl
theorem rootR1 (n : Hash) : z4u [n].reverse = n := rfl
end
set_option maxRecDepth 100000 in
theorem zoi : z1d (z1d (shaS [0, 97]) (shaS [0, 98])) (shaS [0, 100]) ≠ z1d (z1d (shaS [0, 97]) (shaS [0, 98])) (shaS [0, 99]) := by decide +kernel
theorem all3 : lvs [[97], [98], [99]] = [lfH [97], lfH [98], lfH [99]] := rfl
theorem zmz (a b c : Hash) : z1x (hb [a, b, c]) 3 = [] := by unfold z1x; rw [if_neg (by simp [hb])]
theorem chk23 (a b c : Hash) : chkH 2 3 (z15 a b) (z3m [a, b, c]) (z3w [a, b, c] 2) = 0 := by
  have h := zkl (l := hb [a, b, c]) (m := 2) (by simp [hb]) (by simp [hb])
  unfold chkH
  rw [z9n, <- zfw]
  exact h
theorem chk33 (a b c d : Hash) : chkH 3 3 (z15 (z15 a b) d) (z3m [a, b, c]) (z3w [a, b, c] 3) = if z15 (z15 a b) d = z15 (z15 a b) c then 0 else 80 := by
  unfold chkH
  rw [z9n, zmz, root_3]
  unfold chkI
  rw [if_neg (by omega), if_neg (by omega), if_pos rfl]
  simp only [true_and, Subtype.ext_iff]
theorem addE1 : addE 3 (z3m (lvs [[97], [98], [99]])) 0 [] [[97], [98]] (z3w (lvs [[97], [98], [99]]) 2) = 0 := by
  unfold addE
  rw [if_neg (by simp), if_neg (by simp [z4f]), if_pos]
  rw [nx2, rootR1, all3]
  exact chk23 _ _ _
theorem addE2 : addE 3 (z3m (lvs [[97], [98], [99]])) 2 [z15 (lfH [97]) (lfH [98])] [[100]] (z3w (lvs [[97], [98], [99]]) 3) = 80 := by
  have hne : z15 (z15 (lfH [97]) (lfH [98])) (lfH [100]) ≠ z15 (z15 (lfH [97]) (lfH [98])) (lfH [99]) := fun h => by
    have := congrArg Subtype.val h
    simp only [z15, lfH, shaH] at this
    exact zoi this
  unfold addE
  rw [if_neg (by simp), if_neg (by simp [z4f]), if_neg]
  rw [nx3, zfu, all3]
  generalize lfH [97] = A at *
  generalize lfH [98] = B at *
  generalize lfH [99] = C at *
  generalize lfH [100] = D at *
  have h := chk33 A B C D
  rw [if_neg hne] at h
  intro h2
  have h3 : chkH 3 3 (z15 (z15 A B) D) (z3m [A, B, C]) (z3w [A, B, C] 3) = 0 := h2
  rw [h] at h3
  omega
theorem addE3 : addE 3 (z3m (lvs [[97], [98], [99]])) 2 [z15 (lfH [97]) (lfH [98])] [[99]] (z3w (lvs [[97], [98], [99]]) 3) = 0 := by
  unfold addE
  rw [if_neg (by simp), if_neg (by simp [z4f]), if_pos]
  rw [nx3, zfu, all3]
  generalize lfH [97] = A at *
  generalize lfH [98] = B at *
  generalize lfH [99] = C at *
  have h := chk33 A B C C
  rw [if_pos rfl] at h
  exact h
theorem addE4 (h : Hash) (hs : List Hash) (P : List Hash) : addE 3 h 3 hs [[99]] P = 2 := by
  unfold addE
  rw [if_pos (by simp)]
end Am
end Go.Proofs.YtncenefkbpelbaaDoor
end
section
/- Stage: the chapter's log: its contract. -/
namespace Go.Proofs.YtncenefkbpelbaaDoor
namespace Am
attribute [local irreducible] ACallsTo ACallsP
theorem zb6 (O : Store) (s : List UInt8) (h : s.length < 100000000) : ACallsTo TC 56 [.str s] O (.agg (hc (lfH s))) O := by
  have hS := fun O => zh1 O s h
  refine ACallsTo.of_body q1rok (by simp) fun hw _ => ?_
  repeat' (first|refine zW.zs ?_|refine zW.zb ?_|refine zW.zc ?_|refine zW.zt rfl ?_|refine zW.zf rfl ?_|(refine zW.zd rfl (fun ht => ?_) (fun ht => ?_)<;>try (exfalso;omega))|((first|refine zW.zr ?_|refine zW.zk ?_|refine zW.ze ?_|refine zW.zq ?_|(apply callW.mk_pu; (first | exact (fun _ => hS _))) | (apply callW.za; (first | exact (hS _))) | ((first|apply zg0|apply zg1|apply zg2|apply zg3|apply zg4|apply zg5|apply zg6|apply zg7)<;>intro ht));all_goals try simp (disch:=first|omega|(simp only [lens,z7,z6,List.length_reverse,z8,List.length_map,zh,zi];first|done|omega)) only [go_sem,reduceEqDiff,Nat.reduceBEq,reduceAdd,reduceMul,reduceSub,reduceLeDiff,reduceToNat,reducePow]))
  exact DownV.pure hw (zbz _)
set_option maxHeartbeats 16000000 in
theorem z3n (O : Store) : ACallsTo TC 12 [] O (.bool true) O := by
  have hLa := fun O => zb6 O [97] (by simp)
  have hLb := fun O => zb6 O [98] (by simp)
  have hLc := fun O => zb6 O [99] (by simp)
  have e1 := addE1
  have e2 := addE2
  have e3 := addE3
  have e4 := addE4 (z3m (lvs [[97], [98], [99]]))
  have eN := nx2
  rw [all3] at e1 e2 e3 e4
  have hal : SlV 32 (hr [lfH [97], lfH [98], lfH [99]]) (.vsl 32 [hc (lfH [97]), hc (lfH [98]), hc (lfH [99])] true) := .inr ⟨true, rfl⟩
  have hRt := fun O => zh3 O [lfH [97], lfH [98], lfH [99]] _ (.of hal) (by simp)
  have hP2 := fun O => zac O [lfH [97], lfH [98], lfH [99]] _ 2 hal (by simp)
  have hP3 := fun O => zac O [lfH [97], lfH [98], lfH [99]] _ 3 hal (by simp)
  have hE2 : z47 (hb [lfH [97], lfH [98], lfH [99]]) 2 = 0 := by unfold z47; rw [if_neg (by simp [hb])]
  have hE3 : z47 (hb [lfH [97], lfH [98], lfH [99]]) 3 = 0 := by unfold z47; rw [if_neg (by simp [hb])]
  rw [hE2] at hP2
  rw [hE3] at hP3
  have hNw := fun O => zcl O 0 3 (z3m [lfH [97], lfH [98], lfH [99]]) [] .nilsl (.of (.inl ⟨rfl, rfl⟩)) (by decide) (by simp)
  generalize z3m [lfH [97], lfH [98], lfH [99]] = R at *
  generalize hp2 : z3w [lfH [97], lfH [98], lfH [99]] 2 = p2 at *
  generalize hp3 : z3w [lfH [97], lfH [98], lfH [99]] 3 = p3 at *
  have l2 : p2.length < 1000000 := by have := zbn [lfH [97], lfH [98], lfH [99]] 2; rw [hp2] at this; simp at this; omega
  have l3 : p3.length < 1000000 := by have := zbn [lfH [97], lfH [98], lfH [99]] 3; rw [hp3] at this; simp at this; omega
  clear hp2 hp3 hE2 hE3 hal
  generalize lfH [97] = A at *
  generalize lfH [98] = B at *
  generalize lfH [99] = C at *
  refine ACallsTo.of_body q1eok (by simp) fun hw _ => ?_
  repeat' (first|refine zW.zs ?_|refine zW.zb ?_|refine zW.zc ?_|refine zW.zt rfl ?_|refine zW.zf rfl ?_|(refine zW.zd rfl (fun ht => ?_) (fun ht => ?_)<;>try (exfalso;omega))|((first|refine zW.zr ?_|refine zW.zk ?_|refine zW.ze ?_|refine zW.zq ?_|(apply callW.mk_pu; (first | exact (fun _ => hLa _) | exact (fun _ => hLb _) | exact (fun _ => hLc _) | exact (fun _ => hRt _) | exact (fun _ => hP2 _) | exact (fun _ => hP3 _) | exact (fun _ => hNw _))) | (apply callW.za; (first | exact (hLa _) | exact (hLb _) | exact (hLc _) | exact (hRt _) | exact (hP2 _) | exact (hP3 _) | exact (hNw _))) | ((first|apply zg0|apply zg1|apply zg2|apply zg3|apply zg4|apply zg5|apply zg6|apply zg7)<;>intro ht));all_goals try simp (disch:=first|omega|(simp only [lens,z7,z6,List.length_reverse,z8,List.length_map,zh,zi];first|done|omega)) only [go_sem,reduceEqDiff,Nat.reduceBEq,reduceAdd,reduceMul,reduceSub,reduceLeDiff,reduceToNat,reducePow]))
  have hx2 : SlV 1 (strs [[97], [98]]) (.vsl 1 [[.str [97]], [.str [98]]] true) := .inr ⟨true, rfl⟩
  have hxd : SlV 1 (strs [[100]]) (.vsl 1 [[.str [100]]] true) := .inr ⟨true, rfl⟩
  have hxc : SlV 1 (strs [[99]]) (.vsl 1 [[.str [99]]] true) := .inr ⟨true, rfl⟩
  obtain ⟨τ, hτ⟩ : ∃ τ, τ = O ++ [some [.int .i64 3 :: hc R], some [[.int .i64 0, .nilsl]], some [.int .i64 3 :: hc R]] := ⟨_, rfl⟩
  have hτl : τ.length = O.length + 3 := by rw [hτ]; simp
  have hτ0 : τ[O.length]? = some (some [.int .i64 3 :: hc R]) := by rw [hτ]; simp
  have A0 : StAt τ (O ++ [some [.int .i64 3 :: hc R], some [[.int .i64 0, .nilsl]], some [.int .i64 3 :: hc R], some [stC 3 R 0 (zz 32 (hr [])) .nilsl]]) (O.length + 1 + 2) 3 R 0 [] [] := by
    refine ⟨⟨none, ⟨_, _, by rw [z4e (by omega), show O.length + 1 + 2 - O.length = 3 by omega]; rfl, z27 _ _, .inl ⟨rfl, rfl, rfl⟩⟩, by simp⟩, by omega, by rw [hτl]; simp, fun q hq => ?_⟩
    rw [hτ, show O ++ [some [.int .i64 3 :: hc R], some [[.int .i64 0, .nilsl]], some [.int .i64 3 :: hc R], some [stC 3 R 0 (zz 32 (hr [])) .nilsl]] = (O ++ [some [.int .i64 3 :: hc R], some [[.int .i64 0, .nilsl]], some [.int .i64 3 :: hc R]]) ++ [some [stC 3 R 0 (zz 32 (hr [])) .nilsl]] by simp, <- hτ]
    exact gapp hq
  refine callW.mkP (caps := []) (A0.add (P := p2) hx2 (z27 _ _) (by omega) (by omega) (by omega) (by decide) (by simp) (by simp) (by simp) l2) (A0.has (P := p2) (X := [[97], [98]]) (by simp)) ?_
  rintro v O1 ⟨rfl, A1⟩
  rw [e1, if_pos rfl, if_pos rfl, if_pos rfl, eN] at A1
  rw [e1]
  change StAt τ O1 (O.length + 1 + 2) 3 R 2 [z15 A B] [[97], [98]] at A1
  obtain ⟨sid1, ⟨z1, v1, g1, hz1, hv1⟩, _⟩ := id A1.is
  have hH := zgq O1 (O.length + 1 + 2) 3 R 2 z1 v1 g1 (by omega)
  simp (disch:=first|omega|(simp only [lens,z7,z6,List.length_reverse,z8,List.length_map,zh,zi];first|done|omega)) only [go_sem,reduceEqDiff,Nat.reduceBEq,reduceAdd,reduceMul,reduceSub,reduceLeDiff,reduceToNat,reducePow]
  repeat' (first|refine zW.zs ?_|refine zW.zb ?_|refine zW.zc ?_|refine zW.zt rfl ?_|refine zW.zf rfl ?_|(refine zW.zd rfl (fun ht => ?_) (fun ht => ?_)<;>try (exfalso;omega))|((first|refine zW.zr ?_|refine zW.zk ?_|refine zW.ze ?_|refine zW.zq ?_|(apply callW.mk_pu; (first | exact (fun _ => hH))) | (apply callW.za; (first | exact (hH))) | ((first|apply zg0|apply zg1|apply zg2|apply zg3|apply zg4|apply zg5|apply zg6|apply zg7)<;>intro ht));all_goals try simp (disch:=first|omega|(simp only [lens,z7,z6,List.length_reverse,z8,List.length_map,zh,zi];first|done|omega)) only [go_sem,reduceEqDiff,Nat.reduceBEq,reduceAdd,reduceMul,reduceSub,reduceLeDiff,reduceToNat,reducePow]))
  refine callW.mkP (caps := []) (A1.add (P := p3) hxd (z27 _ _) (by omega) (by omega) (by omega) (by show 1 = pc 13 2; decide) (by simp) (by simp) (by simp) l3) (A1.has (P := p3) (X := [[100]]) (by simp)) ?_
  rintro v O2 ⟨rfl, A2⟩
  rw [e2, if_neg (by omega), if_neg (by omega), if_neg (by omega)] at A2
  rw [e2]
  simp (disch:=first|omega|(simp only [lens,z7,z6,List.length_reverse,z8,List.length_map,zh,zi];first|done|omega)) only [go_sem,reduceEqDiff,Nat.reduceBEq,reduceAdd,reduceMul,reduceSub,reduceLeDiff,reduceToNat,reducePow]
  repeat' (first|refine zW.zs ?_|refine zW.zb ?_|refine zW.zc ?_|refine zW.zt rfl ?_|refine zW.zf rfl ?_|(refine zW.zd rfl (fun ht => ?_) (fun ht => ?_)<;>try (exfalso;omega))|((first|refine zW.zr ?_|refine zW.zk ?_|refine zW.ze ?_|refine zW.zq ?_|((first|apply zg0|apply zg1|apply zg2|apply zg3|apply zg4|apply zg5|apply zg6|apply zg7)<;>intro ht));all_goals try simp (disch:=first|omega|(simp only [lens,z7,z6,List.length_reverse,z8,List.length_map,zh,zi];first|done|omega)) only [go_sem,reduceEqDiff,Nat.reduceBEq,reduceAdd,reduceMul,reduceSub,reduceLeDiff,reduceToNat,reducePow]))
  refine callW.mkP (caps := []) (A2.add (P := p3) hxc (z27 _ _) (by omega) (by omega) (by omega) (by show 1 = pc 13 2; decide) (by simp) (by simp) (by simp) l3) (A2.has (P := p3) (X := [[99]]) (by simp)) ?_
  rintro v O3 ⟨rfl, A3⟩
  rw [e3, if_pos rfl, if_pos rfl, if_pos rfl] at A3
  rw [e3]
  change StAt τ O3 (O.length + 1 + 2) 3 R 3 [z15 A B, lfH [99]] [[97], [98], [99]] at A3
  generalize lfH [99] = C' at *
  simp (disch:=first|omega|(simp only [lens,z7,z6,List.length_reverse,z8,List.length_map,zh,zi];first|done|omega)) only [go_sem,reduceEqDiff,Nat.reduceBEq,reduceAdd,reduceMul,reduceSub,reduceLeDiff,reduceToNat,reducePow]
  repeat' (first|refine zW.zs ?_|refine zW.zb ?_|refine zW.zc ?_|refine zW.zt rfl ?_|refine zW.zf rfl ?_|(refine zW.zd rfl (fun ht => ?_) (fun ht => ?_)<;>try (exfalso;omega))|((first|refine zW.zr ?_|refine zW.zk ?_|refine zW.ze ?_|refine zW.zq ?_|((first|apply zg0|apply zg1|apply zg2|apply zg3|apply zg4|apply zg5|apply zg6|apply zg7)<;>intro ht));all_goals try simp (disch:=first|omega|(simp only [lens,z7,z6,List.length_reverse,z8,List.length_map,zh,zi];first|done|omega)) only [go_sem,reduceEqDiff,Nat.reduceBEq,reduceAdd,reduceMul,reduceSub,reduceLeDiff,reduceToNat,reducePow]))
  refine callW.mkP (caps := []) (A3.add (P := p3) hxc (z27 _ _) (by omega) (by omega) (by omega) (by show 2 = pc 13 3; decide) (by simp) (by simp) (by simp) l3) (A3.has (P := p3) (X := [[99]]) (by simp)) ?_
  rintro v O4 ⟨rfl, A4⟩
  rw [e4, if_neg (by omega), if_neg (by omega), if_neg (by omega)] at A4
  rw [e4]
  obtain ⟨sid4, ⟨z4, v4, g4, hz4, hv4⟩, _⟩ := id A4.is
  have hRg := zgs O4 (O.length + 1 + 2) 3 R 3 z4 v4 _ g4 (by omega) (.of hz4) (by simp)
  have hFl := zgo O4 (O.length + 1 + 2) 3 R 3 z4 v4 g4 (by omega)
  have hEn := zgm O4 (O.length + 1 + 2) 3 R 3 z4 v4 _ g4 (by omega) hv4.rd (by simp)
  have hNb := fun O => zck O 3 3 R [z15 A B, C'] (zz 32 (hr [z15 A B, C'])) (.of (z27 _ _)) (by show newB 3 3 2 = false; decide)
  have hh := A4.get hτ0
  have dh := slen hh
  have r5 := (z27 1 (strs [[97], [98], [99]])).len
  unfold z12 at r5
  rw [decide_eq_true rfl] at hFl
  generalize zz 1 (strs [[97], [98], [99]]) = w5 at *
  have d4 : O.length + 1 + 2 < O4.length := slen g4
  simp (disch:=first|omega|(simp only [lens,z7,z6,List.length_reverse,z8,List.length_map,zh,zi];first|done|omega)) only [go_sem,reduceEqDiff,Nat.reduceBEq,reduceAdd,reduceMul,reduceSub,reduceLeDiff,reduceToNat,reducePow, hh]
  repeat' (first|refine zW.zs ?_|refine zW.zb ?_|refine zW.zc ?_|refine zW.zt rfl ?_|refine zW.zf rfl ?_|(refine zW.zd rfl (fun ht => ?_) (fun ht => ?_)<;>try (exfalso;omega))|((first|refine zW.zr ?_|refine zW.zk ?_|refine zW.ze ?_|refine zW.zq ?_|(apply callW.mk_pu; (first | exact (fun _ => hRg) | exact (fun _ => hNb _) | exact (fun _ => hFl) | exact (fun _ => hEn))) | (apply callW.za; (first | exact (hRg) | exact (hNb _) | exact (hFl) | exact (hEn))) | ((first|apply zg0|apply zg1|apply zg2|apply zg3|apply zg4|apply zg5|apply zg6|apply zg7)<;>intro ht));all_goals try simp (disch:=first|omega|(simp only [lens,z7,z6,List.length_reverse,z8,List.length_map,zh,zi];first|done|omega)) only [go_sem,reduceEqDiff,Nat.reduceBEq,reduceAdd,reduceMul,reduceSub,reduceLeDiff,reduceToNat,reducePow, hh, r5]))
  obtain ⟨news, rfl⟩ := zax (O := O) (O' := O4) (by omega) fun q hq => by rw [A4.st q (by omega), hτ]; exact gapp hq
  exact DownV.pure hw z3x
end Am
end Go.Proofs.YtncenefkbpelbaaDoor
end
section
/- Stage: two stages, alike; the law StageRaw. -/
namespace Go.Proofs.YtncenefkbpelbaaDoor
namespace Am
/-- What a stage has. -/
structure StV where
  rn : Nat
  hs : List Hash
  L : List (List UInt8)
def StV.add (hn : Nat) (root : Hash) (X : List (List UInt8)) (P : List Hash) (v : StV) : StV := if addE hn root v.rn v.hs X P = 0 then ⟨v.rn + X.length, nxH v.rn v.hs X, v.L ++ X⟩ else v
structure StV.Ok (hn : Nat) (v : StV) : Prop where
  le : v.rn <= hn
  hl : v.hs.length = pc 13 v.rn
  ll : v.L.length <= v.rn
theorem StV.Ok.add {hn : Nat} {root : Hash} {X : List (List UInt8)} {P : List Hash} {v : StV} (h : v.Ok hn) (h4 : hn <= 4096) : (v.add hn root X P).Ok hn := by
  unfold StV.add
  by_cases he : addE hn root v.rn v.hs X P = 0
  · rw [if_pos he]
    have hx : ¬ (X.length < 1 \/ 16 < X.length \/ hn < v.rn + X.length) := fun h => by unfold addE at he; rw [if_pos h] at he; omega
    refine ⟨by show v.rn + X.length <= hn; omega, ?_, by show (v.L ++ X).length <= v.rn + X.length; rw [List.length_append]; have := h.ll; omega⟩
    show (nxH v.rn v.hs X).length = pc 13 (v.rn + X.length)
    unfold nxH
    rw [List.length_reverse, z66 13 v.rn v.hs.reverse (lvs X) (by rw [zi]; omega) (by rw [List.length_reverse]; exact h.hl), zi]
  · rw [if_neg he]; exact h
/-- Two stages, behind all elder objects, that have nothing in common. -/
structure StPair (τ O' : Store) (rs rq hn : Nat) (root : Hash) (v w : StV) : Prop where
  is : ∃ sid sid', StgIs O' rs hn root v.rn v.hs v.L sid /\ StgIs O' rq hn root w.rn w.hs w.L sid' /\ (∀ q, sid = some q -> τ.length <= q /\ q ≠ rq /\ sid' ≠ some q) /\ (∀ q, sid' = some q -> τ.length <= q /\ q ≠ rs)
  ls : τ.length <= rs
  lq : τ.length <= rq
  ne : rs ≠ rq
  le : τ.length <= O'.length
  st : ∀ q, q < τ.length -> O'[q]? = τ[q]?
theorem StPair.get {τ O' : Store} {rs rq hn : Nat} {root : Hash} {v w : StV} (h : StPair τ O' rs rq hn root v w) {q : Nat} {o : Option AObj} (hq : τ[q]? = some o) : O'[q]? = some o := by
  rw [h.st q (slen hq)]; exact hq
theorem StPair.left {τ O' O'' : Store} {rs rq hn : Nat} {root : Hash} {v w v' : StV} (h : StPair τ O' rs rq hn root v w) (sid sid' sid2 : Option Nat) (h1 : StgIs O' rs hn root v.rn v.hs v.L sid) (h2 : StgIs O' rq hn root w.rn w.hs w.L sid') (h3 : ∀ q, sid = some q -> τ.length <= q /\ q ≠ rq /\ sid' ≠ some q) (h4 : ∀ q, sid' = some q -> τ.length <= q /\ q ≠ rs)
    (fr : StFr O' O'' rs sid sid2) (T : StgIs O'' rs hn root v'.rn v'.hs v'.L sid2) : StPair τ O'' rs rq hn root v' w := by
  have hrq : rq < O'.length := by obtain ⟨z, x, hg, _, _⟩ := h2; exact slen hg
  have hs' : ∀ q, sid' = some q -> q < O'.length := fun q e => by obtain ⟨z, x, _, _, hv⟩ := h2; exact hv.lt e
  refine ⟨⟨sid2, sid', T, h2.keep (fr.st rq hrq (fun e => h.ne e.symm) fun e => (h3 rq e).2.1 rfl) (fun q hq => fr.st q (hs' q hq) (h4 q hq).2 fun e => (h3 q e).2.2 hq), ?_, h4⟩, h.ls, h.lq, h.ne, by have := h.le; have := fr.le; omega, fun q hq => ?_⟩
  · intro q hq
    rcases fr.new with e | ⟨q', e, hle⟩
    · exact h3 q (by rw [<- e]; exact hq)
    · rw [e] at hq; cases hq
      exact ⟨by have := h.le; omega, by omega, fun e2 => by have := hs' _ e2; omega⟩
  · rw [fr.st q (by have := h.le; omega) (fun e => by have := h.ls; omega) (fun e => by have := (h3 q e).1; omega)]
    exact h.st q hq
theorem StPair.right {τ O' O'' : Store} {rs rq hn : Nat} {root : Hash} {v w w' : StV} (h : StPair τ O' rs rq hn root v w) (sid sid' sid2 : Option Nat) (h1 : StgIs O' rs hn root v.rn v.hs v.L sid) (h2 : StgIs O' rq hn root w.rn w.hs w.L sid') (h3 : ∀ q, sid = some q -> τ.length <= q /\ q ≠ rq /\ sid' ≠ some q) (h4 : ∀ q, sid' = some q -> τ.length <= q /\ q ≠ rs)
    (fr : StFr O' O'' rq sid' sid2) (T : StgIs O'' rq hn root w'.rn w'.hs w'.L sid2) : StPair τ O'' rs rq hn root v w' := by
  have hrs : rs < O'.length := by obtain ⟨z, x, hg, _, _⟩ := h1; exact slen hg
  have hs' : ∀ q, sid = some q -> q < O'.length := fun q e => by obtain ⟨z, x, _, _, hv⟩ := h1; exact hv.lt e
  have hn2 : ∀ q, sid2 = some q -> τ.length <= q /\ q ≠ rs /\ sid ≠ some q := by
    intro q hq
    rcases fr.new with e | ⟨q', e, hle⟩
    · rw [e] at hq; exact ⟨(h4 q hq).1, (h4 q hq).2, fun e2 => (h3 q e2).2.2 hq⟩
    · rw [e] at hq; cases hq
      exact ⟨by have := h.le; omega, by omega, fun e2 => by have := hs' _ e2; omega⟩
  refine ⟨⟨sid, sid2, h1.keep (fr.st rs hrs h.ne fun e => (h4 rs e).2 rfl) (fun q hq => fr.st q (hs' q hq) (h3 q hq).2.1 (h3 q hq).2.2), T, ?_, fun q hq => ⟨(hn2 q hq).1, (hn2 q hq).2.1⟩⟩, h.ls, h.lq, h.ne, by have := h.le; have := fr.le; omega, fun q hq => ?_⟩
  · intro q hq
    exact ⟨(h3 q hq).1, (h3 q hq).2.1, fun e => (hn2 q e).2.2 hq⟩
  · rw [fr.st q (by have := h.le; omega) (fun e => by have := h.lq; omega) (fun e => by have := (h4 q e).1; omega)]
    exact h.st q hq
/-- Add of the program's stage. -/
theorem StPair.addS {τ O' : Store} {rs rq hn : Nat} {root : Hash} {v w : StV} (h : StPair τ O' rs rq hn root v w) {X : List (List UInt8)} {P : List Hash} {x y : AV} (hx : SlV 1 (strs X) x) (hy : SlV 32 (hr P) y) (h0 : hn ≠ 0) (hn4 : hn <= 4096) (hv : v.Ok hn)
    (hXs : ∀ s ∈ X, s.length < 1000000) (hXl : X.length < 1000000) (hPl : P.length < 1000000) :
    ACallsP TC 15 [.ptr rs 0 0, x, y] O' (fun a O'' => a = .int .i64 (addE hn root v.rn v.hs X P) /\ StPair τ O'' rs rq hn root (v.add hn root X P) w) := by
  obtain ⟨sid, sid', h1, h2, h3, h4⟩ := id h.is
  refine (zgk O' rs hn root v.rn v.hs v.L X P sid x y h1 hx hy h0 hn4 hv.le hv.hl hXs hXl (by have := hv.ll; have := hv.le; omega) hPl).mono ?_
  rintro a O'' ⟨e, sid2, fr, T⟩
  refine ⟨e, h.left sid sid' sid2 h1 h2 h3 h4 fr ?_⟩
  unfold StV.add
  by_cases he : addE hn root v.rn v.hs X P = 0
  · rw [if_pos he, if_pos he, if_pos he] at T; rw [if_pos he]; exact T
  · rw [if_neg he, if_neg he, if_neg he] at T; rw [if_neg he]; exact T
theorem StPair.hasS {τ O' : Store} {rs rq hn : Nat} {root : Hash} {v w : StV} (h : StPair τ O' rs rq hn root v w) {X : List (List UInt8)} {P : List Hash} : ∃ a O'', a = AV.int .i64 (addE hn root v.rn v.hs X P) /\ StPair τ O'' rs rq hn root (v.add hn root X P) w := by
  by_cases hX : X = []
  · refine ⟨_, O', rfl, ?_⟩
    unfold StV.add
    rw [if_neg]
    · exact h
    · subst hX; unfold addE; rw [if_pos (by simp)]; omega
  · obtain ⟨sid, sid', h1, h2, h3, h4⟩ := id h.is
    obtain ⟨a, O'', e, sid2, fr, T⟩ := AddP.is (P := P) h1 hX
    refine ⟨a, O'', e, h.left sid sid' sid2 h1 h2 h3 h4 fr ?_⟩
    unfold StV.add
    by_cases he : addE hn root v.rn v.hs X P = 0
    · rw [if_pos he, if_pos he, if_pos he] at T; rw [if_pos he]; exact T
    · rw [if_neg he, if_neg he, if_neg he] at T; rw [if_neg he]; exact T
/-- Add of the document's stage. -/
theorem StPair.addQ {τ O' : Store} {rs rq hn : Nat} {root : Hash} {v w : StV} (h : StPair τ O' rs rq hn root v w) {X : List (List UInt8)} {P : List Hash} {x y : AV} (hx : SlV 1 (strs X) x) (hy : SlV 32 (hr P) y) (h0 : hn ≠ 0) (hn4 : hn <= 4096) (hv : w.Ok hn)
    (hXs : ∀ s ∈ X, s.length < 1000000) (hXl : X.length < 1000000) (hPl : P.length < 1000000) :
    ACallsP TC 20 [.ptr rq 0 0, x, y] O' (fun a O'' => a = .int .i64 (addE hn root w.rn w.hs X P) /\ StPair τ O'' rs rq hn root v (w.add hn root X P)) := by
  obtain ⟨sid, sid', h1, h2, h3, h4⟩ := id h.is
  refine (zna O' rq hn root w.rn w.hs w.L X P sid' x y h2 hx hy h0 hn4 hv.le hv.hl hXs hXl (by have := hv.ll; have := hv.le; omega) hPl).mono ?_
  rintro a O'' ⟨e, sid2, fr, T⟩
  refine ⟨e, h.right sid sid' sid2 h1 h2 h3 h4 fr ?_⟩
  unfold StV.add
  by_cases he : addE hn root w.rn w.hs X P = 0
  · rw [if_pos he, if_pos he, if_pos he] at T; rw [if_pos he]; exact T
  · rw [if_neg he, if_neg he, if_neg he] at T; rw [if_neg he]; exact T
theorem StPair.hasQ {τ O' : Store} {rs rq hn : Nat} {root : Hash} {v w : StV} (h : StPair τ O' rs rq hn root v w) {X : List (List UInt8)} {P : List Hash} : ∃ a O'', a = AV.int .i64 (addE hn root w.rn w.hs X P) /\ StPair τ O'' rs rq hn root v (w.add hn root X P) := by
  by_cases hX : X = []
  · refine ⟨_, O', rfl, ?_⟩
    unfold StV.add
    rw [if_neg]
    · exact h
    · subst hX; unfold addE; rw [if_pos (by simp)]; omega
  · obtain ⟨sid, sid', h1, h2, h3, h4⟩ := id h.is
    obtain ⟨a, O'', e, sid2, fr, T⟩ := AddP.is (P := P) h2 hX
    refine ⟨a, O'', e, h.right sid sid' sid2 h1 h2 h3 h4 fr ?_⟩
    unfold StV.add
    by_cases he : addE hn root w.rn w.hs X P = 0
    · rw [if_pos he, if_pos he, if_pos he] at T; rw [if_pos he]; exact T
    · rw [if_neg he, if_neg he, if_neg he] at T; rw [if_neg he]; exact T
theorem StPair.alike {τ O' : Store} {rs rq hn : Nat} {root : Hash} {v : StV} (h : StPair τ O' rs rq hn root v v) (h0 : hn ≠ 0) (hn4 : hn <= 4096) (hv : v.Ok hn) : ACallsTo TC 21 [.ptr rs 0 0, .ptr rq 0 0] O' (.bool true) O' := by
  obtain ⟨sid, sid', h1, h2, _, _⟩ := h.is
  exact zhg O' rs rq hn root v.rn v.hs v.L sid sid' h1 h2 h0 (by rw [hv.hl]; have := z5s 13 v.rn; omega) (by have := hv.ll; have := hv.le; omega)
end Am
end Go.Proofs.YtncenefkbpelbaaDoor
end
section
/- Stage: the law StageRaw: its contract. -/
namespace Go.Proofs.YtncenefkbpelbaaDoor
namespace Am
def z50 : Ty := .row [.int .u8, .int .u8, .sl 1 .str, .sl 32 z4p]
theorem zgw {cs : List AV} (h : ShC (.sl 1 .str) cs) : ∃ (L : List (List UInt8)) (a : AV), cs = [a] /\ SlV 1 (strs L) a /\ L.length <= maxLen /\ ∀ s ∈ L, s.length <= maxLen := by
  simp only [ShC] at h
  rcases h with rfl | ⟨es, rfl, hl, _, h2⟩
  · exact ⟨[], .nilsl, rfl, .inl ⟨rfl, rfl⟩, Nat.zero_le _, by simp⟩
  · have : ∀ es : List (List AV), (∀ x ∈ es, ∃ s : List UInt8, x = [.str s] /\ s.length <= maxLen) -> ∃ L, es = strs L /\ ∀ s ∈ L, s.length <= maxLen := by
      intro es
      induction es with
      | nil => intro _; exact ⟨[], rfl, by simp⟩
      | cons e es ih =>
        intro h
        obtain ⟨s, rfl, hs⟩ := h e (by simp)
        obtain ⟨L, rfl, hL⟩ := ih fun x hx => h x (by simp [hx])
        exact ⟨s :: L, rfl, fun t ht => by rcases List.mem_cons.1 ht with rfl | h1; exact hs; exact hL t h1⟩
    obtain ⟨L, rfl, hL⟩ := this es h2
    exact ⟨L, _, rfl, .inr ⟨false, rfl⟩, by rwa [z8] at hl, hL⟩
theorem zde {cs : List AV} (h : ShC z50 cs) : ∃ a : ActS, cs = actR a /\ ActOk a := by
  simp only [z50, ShC, z43] at h
  obtain ⟨A, B, rfl, hA, C, D, rfl, hC, E, F, rfl, hE, G, K, rfl, hG, rfl⟩ := h
  obtain ⟨k, rfl, k1, k2⟩ := hA
  obtain ⟨c, rfl, c1, c2⟩ := hC
  obtain ⟨L, x, rfl, hx, hl, hs⟩ := zgw (by simpa only [ShC] using hE)
  obtain ⟨P, y, rfl, hy, hp⟩ := zei (by simpa only [ShC] using hG)
  simp only [IntKind.min, IntKind.max, IntKind.signed, IntKind.bits] at k1 k2 c1 c2
  simp at k1 k2 c1 c2
  exact ⟨⟨k, c, L, P, x, y⟩, rfl, ⟨k1, k2⟩, ⟨c1, c2⟩, hx, hy, hl, hp, hs⟩
theorem zi3 {a : AV} (h : Sh z50 a) : ∃ A : ActS, a = .agg (actR A) /\ ActOk A := by
  simp only [z50, Sh] at h
  obtain ⟨cs, rfl, h⟩ := h
  obtain ⟨A, rfl, hA⟩ := zde (by simpa only [z50, ShC] using h)
  exact ⟨A, rfl, hA⟩
theorem head_h {a : AV} (h : Sh (.row [.int .i64, z4p]) a) : ∃ (n : Int) (r : Hash), a = .agg (.int .i64 n :: hc r) /\ -9223372036854775808 <= n /\ n <= 9223372036854775807 := by
  simp only [Sh] at h
  obtain ⟨cs, rfl, h⟩ := h
  simp only [z43] at h
  obtain ⟨A, B, rfl, hA, C, D, rfl, hC, rfl⟩ := h
  simp only [ShC] at hA
  obtain ⟨n, rfl, h1, h2⟩ := hA
  obtain ⟨r, rfl⟩ := zkb hC
  simp only [IntKind.min, IntKind.max, IntKind.signed, IntKind.bits] at h1 h2
  simp at h1 h2
  exact ⟨n, r, by simp, h1, h2⟩
attribute [local irreducible] ACallsTo ACallsP
theorem zgj (O : Store) (x y : AV) : ACallsTo TC 15 [.nilp, x, y] O (.int .i64 1) O := by
  refine ACallsTo.of_body q1hok (by simp) fun hw _ => ?_
  repeat' (first|refine zW.zs ?_|refine zW.zb ?_|refine zW.zc ?_|refine zW.zt rfl ?_|refine zW.zf rfl ?_|(refine zW.zd rfl (fun ht => ?_) (fun ht => ?_)<;>try (exfalso;omega))|((first|refine zW.zr ?_|refine zW.zk ?_|refine zW.ze ?_|refine zW.zq ?_|(apply callW.mk_pu; (first | exact (fun _ => z4y _))) | (apply callW.za; (first | exact (z4y _))) | ((first|apply zg0|apply zg1|apply zg2|apply zg3|apply zg4|apply zg5|apply zg6|apply zg7)<;>intro ht));all_goals try simp (disch:=first|omega|(simp only [lens,z7,z6,List.length_reverse,z8,List.length_map,zh,zi];first|done|omega)) only [go_sem,reduceEqDiff,Nat.reduceBEq,reduceAdd,reduceMul,reduceSub,reduceLeDiff,reduceToNat,reducePow]))
  exact DownV.same hw z6e
set_option maxHeartbeats 16000000 in
theorem zhz (rn hn : Int) (root : Hash) (hs : List Hash) (x : AV) (a : ActS) (hx : SlV 32 (hr hs) x) (ha : ActOk a) (hhl : hs.length <= maxLen) (hrn : -9223372036854775808 <= rn /\ rn <= 9223372036854775807) (hhn : -9223372036854775808 <= hn /\ hn <= 9223372036854775807) :
    ACallsTo TC 3 [.agg [.int .i64 rn, x], .agg (.int .i64 hn :: hc root), .agg (actR a)] [] (.bool true) [] := by
  have xc := z48 hx
  have ax := z48 ha.x
  have ay := z48 ha.y
  unfold cellsOf at xc ax ay
  have r1 := hx.len
  rw [z6] at r1
  unfold z12 at r1
  have hG := fun O => zd7 O [a] 1 (.vsl 4 [actR a] true) (.inr ⟨true, rfl⟩) (fun b hb => by rw [List.mem_singleton] at hb; subst hb; exact ha) (by simp)
  have hx1 := ha.x
  have hy1 := ha.y
  refine ACallsTo.of_body q1bok (by simp) fun hw _ => ?_
  by_cases h70 : (hs.length : Int) > 70
  · unfold actR at *
    repeat' (first|refine zW.zs ?_|refine zW.zb ?_|refine zW.zc ?_|refine zW.zt rfl ?_|refine zW.zf rfl ?_|(refine zW.zd rfl (fun ht => ?_) (fun ht => ?_)<;>try (exfalso;omega))|((first|refine zW.zr ?_|refine zW.zk ?_|refine zW.ze ?_|refine zW.zq ?_|(apply callW.mk_pu; (first | exact (fun _ => hG _) | exact (fun _ => z3n _))) | (apply callW.za; (first | exact (hG _) | exact (z3n _))) | ((first|apply zg0|apply zg1|apply zg2|apply zg3|apply zg4|apply zg5|apply zg6|apply zg7)<;>intro ht));all_goals try simp (disch:=first|omega|(simp only [lens,z7,z6,List.length_reverse,z8,List.length_map,zh,zi];first|done|omega)) only [go_sem,reduceEqDiff,Nat.reduceBEq,reduceAdd,reduceMul,reduceSub,reduceLeDiff,reduceToNat,reducePow, xc, ax, ay, r1, h70]))
    exact DownV.pure (τ := []) hw (z14 _ rfl)
  cases hg : z4o [a] 1 with
  | true =>
    rw [hg] at hG
    unfold actR at *
    repeat' (first|refine zW.zs ?_|refine zW.zb ?_|refine zW.zc ?_|refine zW.zt rfl ?_|refine zW.zf rfl ?_|(refine zW.zd rfl (fun ht => ?_) (fun ht => ?_)<;>try (exfalso;omega))|((first|refine zW.zr ?_|refine zW.zk ?_|refine zW.ze ?_|refine zW.zq ?_|(apply callW.mk_pu; (first | exact (fun _ => hG _) | exact (fun _ => z3n _))) | (apply callW.za; (first | exact (hG _) | exact (z3n _))) | ((first|apply zg0|apply zg1|apply zg2|apply zg3|apply zg4|apply zg5|apply zg6|apply zg7)<;>intro ht));all_goals try simp (disch:=first|omega|(simp only [lens,z7,z6,List.length_reverse,z8,List.length_map,zh,zi];first|done|omega)) only [go_sem,reduceEqDiff,Nat.reduceBEq,reduceAdd,reduceMul,reduceSub,reduceLeDiff,reduceToNat,reducePow, xc, ax, ay, r1, h70]))
    exact DownV.pure (τ := []) hw (z14 _ rfl)
  | false =>
    rw [hg] at hG
    have hga : z3o a = false := by
      unfold z4o at hg
      rw [Bool.or_eq_false_iff] at hg
      simpa using hg.1
    obtain ⟨g1, g2, g3⟩ := zb2 hga
    cases hb : newB rn hn hs.length with
    | false =>
      have hN := fun O => zck O rn hn root hs x (.of hx) hb
      have hM := fun O => zfl O rn hn root hs x (.of hx) hb
      unfold actR at *
      repeat' (first|refine zW.zs ?_|refine zW.zb ?_|refine zW.zc ?_|refine zW.zt rfl ?_|refine zW.zf rfl ?_|(refine zW.zd rfl (fun ht => ?_) (fun ht => ?_)<;>try (exfalso;omega))|((first|refine zW.zr ?_|refine zW.zk ?_|refine zW.ze ?_|refine zW.zq ?_|(apply callW.mk_pu; (first | exact (fun _ => hG _) | exact (fun _ => hN _) | exact (fun _ => hM _) | exact (fun _ => zgj _ _ _) | exact (fun _ => zgp _) | exact (fun _ => zgn _) | exact (fun _ => zgl _) | exact (fun _ => zgr _) | exact (fun _ => z3n _))) | (apply callW.za; (first | exact (hG _) | exact (hN _) | exact (hM _) | exact (zgj _ _ _) | exact (zgp _) | exact (zgn _) | exact (zgl _) | exact (zgr _) | exact (z3n _))) | ((first|apply zg0|apply zg1|apply zg2|apply zg3|apply zg4|apply zg5|apply zg6|apply zg7)<;>intro ht));all_goals try simp (disch:=first|omega|(simp only [lens,z7,z6,List.length_reverse,z8,List.length_map,zh,zi];first|done|omega)) only [go_sem,reduceEqDiff,Nat.reduceBEq,reduceAdd,reduceMul,reduceSub,reduceLeDiff,reduceToNat,reducePow, xc, ax, ay, r1, h70]))
      exact DownV.pure (τ := []) hw (z14 _ rfl)
    | true =>
      obtain ⟨hv, h4, hlt⟩ := of_decide_eq_true hb
      obtain ⟨v1, v2, v3⟩ := of_decide_eq_true hv
      obtain ⟨rn, rfl⟩ : ∃ k : Nat, rn = k := ⟨rn.toNat, by omega⟩
      obtain ⟨hn, rfl⟩ : ∃ k : Nat, hn = k := ⟨hn.toNat, by omega⟩
      rw [Int.toNat_natCast, pc13 (by omega)] at v3
      have hN := fun O => zcl O rn hn root hs x (.of hx) hb (by omega)
      have hM := fun O => zfm O rn hn root hs x (.of hx) hb (by omega)
      unfold actR at *
      repeat' (first|refine zW.zs ?_|refine zW.zb ?_|refine zW.zc ?_|refine zW.zt rfl ?_|refine zW.zf rfl ?_|(refine zW.zd rfl (fun ht => ?_) (fun ht => ?_)<;>try (exfalso;omega))|((first|refine zW.zr ?_|refine zW.zk ?_|refine zW.ze ?_|refine zW.zq ?_|(apply callW.mk_pu; (first | exact (fun _ => hG _) | exact (fun _ => hN _) | exact (fun _ => hM _))) | (apply callW.za; (first | exact (hG _) | exact (hN _) | exact (hM _))) | ((first|apply zg0|apply zg1|apply zg2|apply zg3|apply zg4|apply zg5|apply zg6|apply zg7)<;>intro ht));all_goals try simp (disch:=first|omega|(simp only [lens,z7,z6,List.length_reverse,z8,List.length_map,zh,zi];first|done|omega)) only [go_sem,reduceEqDiff,Nat.reduceBEq,reduceAdd,reduceMul,reduceSub,reduceLeDiff,reduceToNat,reducePow, xc, ax, ay, r1, h70]))
      have hok : StV.Ok hn ⟨rn, hs, []⟩ := ⟨by show rn <= hn; omega, v3, Nat.zero_le _⟩
      have P0 : StPair [some [[.int .i64 rn, x]], some [.int .i64 hn :: hc root], some [[.int .u8 a.k, .int .u8 a.c, a.x, a.y]], some [[.int .i64 rn, x]], some [.int .i64 hn :: hc root]]
        [some [[.int .i64 rn, x]], some [.int .i64 hn :: hc root], some [[.int .u8 a.k, .int .u8 a.c, a.x, a.y]], some [[.int .i64 rn, x]], some [.int .i64 hn :: hc root], some [stC hn root rn (zz 32 (hr hs)) .nilsl], some [[.int .i64 rn, x]], some [.int .i64 hn :: hc root], some [stC hn root rn x .nilsl]] 5 8 hn root ⟨rn, hs, []⟩ ⟨rn, hs, []⟩ := by
        refine ⟨⟨none, none, ⟨_, _, rfl, z27 _ _, .inl ⟨rfl, rfl, rfl⟩⟩, ⟨_, _, rfl, hx, .inl ⟨rfl, rfl, rfl⟩⟩, by simp, by simp⟩, by simp, by simp, by omega, by simp, fun q hq => ?_⟩
        match q, hq with
        | 0, _ => rfl
        | 1, _ => rfl
        | 2, _ => rfl
        | 3, _ => rfl
        | 4, _ => rfl
        | q + 5, h => simp at h; omega
      have hXs : ∀ s ∈ a.L, s.length < 1000000 := fun s hs => by have := g3 s hs; omega
      refine callW.mkP_ef (caps := []) (P0.addS hx1 hy1 (by omega) (by omega) hok hXs (by omega) (by omega)) P0.hasS ?_
      rintro v O2 ⟨rfl, P1⟩
      have ho2 := P1.get (q := 2) (o := some [[.int .u8 a.k, .int .u8 a.c, a.x, a.y]]) rfl
      have d2 := slen ho2
      simp (disch:=first|omega|(simp only [lens,z7,z6,List.length_reverse,z8,List.length_map,zh,zi];first|done|omega)) only [go_sem,reduceEqDiff,Nat.reduceBEq,reduceAdd,reduceMul,reduceSub,reduceLeDiff,reduceToNat,reducePow, ho2]
      refine callW.mkP (caps := []) (P1.addQ hx1 hy1 (by omega) (by omega) hok hXs (by omega) (by omega)) P1.hasQ ?_
      rintro v O3 ⟨rfl, P2⟩
      have hA := P2.alike (by omega) (by omega) (hok.add (by omega))
      simp (disch:=first|omega|(simp only [lens,z7,z6,List.length_reverse,z8,List.length_map,zh,zi];first|done|omega)) only [go_sem,reduceEqDiff,Nat.reduceBEq,reduceAdd,reduceMul,reduceSub,reduceLeDiff,reduceToNat,reducePow]
      repeat' (first|refine zW.zs ?_|refine zW.zb ?_|refine zW.zc ?_|refine zW.zt rfl ?_|refine zW.zf rfl ?_|(refine zW.zd rfl (fun ht => ?_) (fun ht => ?_)<;>try (exfalso;omega))|((first|refine zW.zr ?_|refine zW.zk ?_|refine zW.ze ?_|refine zW.zq ?_|(apply callW.mk_pu; (first | exact (fun _ => hA) | exact (fun _ => z3n _))) | (apply callW.za; (first | exact (hA) | exact (z3n _))) | ((first|apply zg0|apply zg1|apply zg2|apply zg3|apply zg4|apply zg5|apply zg6|apply zg7)<;>intro ht));all_goals try simp (disch:=first|omega|(simp only [lens,z7,z6,List.length_reverse,z8,List.length_map,zh,zi];first|done|omega)) only [go_sem,reduceEqDiff,Nat.reduceBEq,reduceAdd,reduceMul,reduceSub,reduceLeDiff,reduceToNat,reducePow]))
      exact DownV.pure (τ := []) (news := O3) hw (z14 _ rfl)
theorem StageRaw_law (avs : List AV) (h : z62 [.row [.int .i64, .sl 32 z4p], .row [.int .i64, z4p], z50] avs) : ACallsTo TC 3 avs [] (.bool true) [] := by
  simp only [z62] at h
  obtain ⟨_, _, rfl, h1, _, _, rfl, h2, _, _, rfl, h3, rfl⟩ := h
  obtain ⟨rn, hs, x, rfl, n1, n2, hx, hl⟩ := zn6 h1
  obtain ⟨hn, root, rfl, m1, m2⟩ := head_h h2
  obtain ⟨a, rfl, ha⟩ := zi3 h3
  exact zhz rn hn root hs x a hx ha hl ⟨n1, n2⟩ ⟨m1, m2⟩
end Am
end Go.Proofs.YtncenefkbpelbaaDoor
end
section
/- Stage: the law StagePlay: its contract. -/
namespace Go.Proofs.YtncenefkbpelbaaDoor
namespace Am
theorem zj4 {a : ActS} {log : List (List UInt8)} {h : Nat} {s : List UInt8} (hs : s ∈ chC a log h) : s ∈ log := List.mem_of_mem_take (List.mem_of_mem_drop hs)
theorem zj5 {a : ActS} {log : List (List UInt8)} {h : Nat} (ha : z3o a = false) (hlog : log.length <= 60) (hls : ∀ s ∈ log, s.length <= 200) : (chL a log h).length <= 60 /\ ∀ s ∈ chL a log h, s.length <= 250 := by
  obtain ⟨g1, g2, g3⟩ := zb2 ha
  have hC : (chC a log h).length <= 60 := by unfold chC; rw [List.length_drop, List.length_take]; omega
  have hCs : ∀ s ∈ chC a log h, s.length <= 200 := fun s hs => hls s (zj4 hs)
  unfold chL
  split
  · exact ⟨by omega, g3⟩
  · split
    · rename_i h1
      refine ⟨by rw [List.length_set]; exact hC, fun s hs => ?_⟩
      rcases List.mem_or_eq_of_mem_set hs with h2 | h2
      · have := hCs s h2; omega
      · have h3 := hCs _ (z5w (Nat.mod_lt a.c.toNat h1.2))
        rw [h2, List.length_append, List.length_singleton]; omega
    · exact ⟨hC, fun s hs => by have := hCs s hs; omega⟩
theorem zj6 {a : ActS} {log : List (List UInt8)} {h : Nat} (ha : z3o a = false) (hlog : log.length <= 60) : (chP a log h).length <= 100 := by
  obtain ⟨g1, g2, g3⟩ := zb2 ha
  unfold chP
  split
  · omega
  · have := zbn (lvs log) (chN a log h)
    rw [zi] at this; omega
theorem zev {L : List (List UInt8)} (h : z5n L = false) : L.length <= 60 /\ ∀ s ∈ L, s.length <= 200 := by
  unfold z5n at h
  simp only [Bool.or_eq_false_iff, decide_eq_false_iff_not, List.any_eq_false, decide_eq_true_eq] at h
  exact ⟨by omega, fun s hs => by have := h.1 s hs; omega⟩
theorem zk6 {l : List ActS} {n : Int} (h : z4o l n = false) : (l.length : Int) <= n /\ ∀ a ∈ l, z3o a = false := by
  unfold z4o at h
  simp only [Bool.or_eq_false_iff, decide_eq_false_iff_not, List.any_eq_false] at h
  exact ⟨by omega, fun a ha => by simpa using h.1 a ha⟩
attribute [local irreducible] ACallsTo ACallsP
set_option maxHeartbeats 16000000 in
theorem zhs (hw : Wf ([] : Store).length []) (τ : Store) (rs rq : Nat) (root : Hash) (log : List (List UInt8)) (y z : AV) (l : List ActS) (hy : SlV 1 (strs log) y) (hz : SlV 4 (l.map actR) z) (hok : ∀ a ∈ l, ActOk a) (hlong : z5n log = false) (hgreat : z4o l 20 = false) (h0 : log.length ≠ 0)
    (v0 : StV) (hv0 : v0.Ok log.length) (O1 : Store) (P0 : StPair τ O1 rs rq log.length root v0 v0) (Z : Env) (q0 : Z 0 = y) (q2 : Z 2 = z) (q11 : Z 11 = .ptr rs 0 0) (q13 : Z 13 = .ptr rq 0 0) :
    zW TC 107 0 zbq (endQ 0 [.t 6] (.bool true) []) Z O1 := by
  obtain ⟨hl60, hl200⟩ := zev hlong
  obtain ⟨hl20, hga⟩ := zk6 hgreat
  have r1 := hz.len
  rw [List.length_map] at r1
  unfold z12 at r1
  repeat' (first|refine zW.zs ?_|refine zW.zb ?_|refine zW.zc ?_|refine zW.zt rfl ?_|refine zW.zf rfl ?_|(refine zW.zd rfl (fun ht => ?_) (fun ht => ?_)<;>try (exfalso;omega))|((first|refine zW.zr ?_|refine zW.zk ?_|refine zW.ze ?_|refine zW.zq ?_|((first|apply zg0|apply zg1|apply zg2|apply zg3|apply zg4|apply zg5|apply zg6|apply zg7)<;>intro ht));all_goals try simp (disch:=first|omega|(simp only [lens,z7,z6,List.length_reverse,z8,List.length_map,zh,zi,List.length_take];first|done|omega)) only [go_sem,reduceEqDiff,Nat.reduceBEq,reduceAdd,reduceMul,reduceSub,reduceLeDiff,reduceToNat,reducePow, q0, q2, q11, q13, r1]))
  refine zW.loop (fun m Z O' => ∃ (i : Nat) (v : StV), m + i = l.length /\ StPair τ O' rs rq log.length root v v /\ v.Ok log.length /\ Z 0 = y /\ Z 2 = z /\ Z 11 = .ptr rs 0 0 /\ Z 13 = .ptr rq 0 0 /\ Z 15 = .int .i64 i) l.length ?_ ?_
  · exact ⟨0, v0, by omega, P0, hv0, by simp (disch:=first|omega|(simp only [lens,z7,z6,List.length_reverse,z8,List.length_map,zh,zi,List.length_take];first|done|omega)) only [go_sem,reduceEqDiff,Nat.reduceBEq,reduceAdd,reduceMul,reduceSub,reduceLeDiff,reduceToNat,reducePow, q0], by simp (disch:=first|omega|(simp only [lens,z7,z6,List.length_reverse,z8,List.length_map,zh,zi,List.length_take];first|done|omega)) only [go_sem,reduceEqDiff,Nat.reduceBEq,reduceAdd,reduceMul,reduceSub,reduceLeDiff,reduceToNat,reducePow, q2], by simp (disch:=first|omega|(simp only [lens,z7,z6,List.length_reverse,z8,List.length_map,zh,zi,List.length_take];first|done|omega)) only [go_sem,reduceEqDiff,Nat.reduceBEq,reduceAdd,reduceMul,reduceSub,reduceLeDiff,reduceToNat,reducePow, q11], by simp (disch:=first|omega|(simp only [lens,z7,z6,List.length_reverse,z8,List.length_map,zh,zi,List.length_take];first|done|omega)) only [go_sem,reduceEqDiff,Nat.reduceBEq,reduceAdd,reduceMul,reduceSub,reduceLeDiff,reduceToNat,reducePow, q13], by simp (disch:=first|omega|(simp only [lens,z7,z6,List.length_reverse,z8,List.length_map,zh,zi,List.length_take];first|done|omega)) only [go_sem,reduceEqDiff,Nat.reduceBEq,reduceAdd,reduceMul,reduceSub,reduceLeDiff,reduceToNat,reducePow]; rfl⟩
  · rintro m Z O' ⟨i, v, hm, hP, hv, q0, q2, q11, q13, q15⟩
    by_cases hi : i < l.length
    · obtain ⟨ex, rfl⟩ := hz.vsl (by rw [List.length_map]; omega)
      obtain ⟨a, hal⟩ : ∃ a, l[i]? = some a := ⟨_, List.getElem?_eq_getElem hi⟩
      have ham : a ∈ l := List.mem_of_getElem? hal
      have hgi : (l.map actR)[i]? = some (actR a) := by rw [List.getElem?_map, hal]; rfl
      have ha := hok a ham
      obtain ⟨X, Y, hX, hY, hOf⟩ := of_to O' a log y v.rn ha hy hl60 hl200 hv.le
      obtain ⟨c1, c2⟩ := zj5 (h := v.rn) (hga a ham) hl60 hl200
      have c3 := zj6 (h := v.rn) (hga a ham) hl60
      obtain ⟨sid, sid', h1, ⟨zq, vq, hgq, _, _⟩, _, _⟩ := id hP.is
      have dq := slen hgq
      have hXs : ∀ s ∈ chL a log v.rn, s.length < 1000000 := fun s hs => by have := c2 s hs; omega
      have lA : (actR a).length = 4 := rfl
      generalize chL a log v.rn = CL at *
      generalize chP a log v.rn = CP at *
      generalize hAR : actR a = AR at *
      repeat' (first|refine zW.zs ?_|refine zW.zb ?_|refine zW.zc ?_|refine zW.zt rfl ?_|refine zW.zf rfl ?_|(refine zW.zd rfl (fun ht => ?_) (fun ht => ?_)<;>try (exfalso;omega))|((first|refine zW.zr ?_|refine zW.zk ?_|refine zW.ze ?_|refine zW.zq ?_|(apply callW.mk_pu; (first | exact (fun _ => hOf _))) | (apply callW.za; (first | exact (hOf _))) | ((first|apply zg0|apply zg1|apply zg2|apply zg3|apply zg4|apply zg5|apply zg6|apply zg7)<;>intro ht));all_goals try simp (disch:=first|omega|(simp only [lens,z7,z6,List.length_reverse,z8,List.length_map,zh,zi,List.length_take];first|done|omega)) only [go_sem,reduceEqDiff,Nat.reduceBEq,reduceAdd,reduceMul,reduceSub,reduceLeDiff,reduceToNat,reducePow, q0, q2, q11, q13, q15, r1, hgi, hgq, lA]))
      refine callW.mkP (caps := []) (hP.addS hX hY h0 (by omega) hv hXs (by omega) (by omega)) hP.hasS ?_
      rintro r O2 ⟨rfl, P1⟩
      simp (disch:=first|omega|(simp only [lens,z7,z6,List.length_reverse,z8,List.length_map,zh,zi,List.length_take];first|done|omega)) only [go_sem,reduceEqDiff,Nat.reduceBEq,reduceAdd,reduceMul,reduceSub,reduceLeDiff,reduceToNat,reducePow, q0, q2, q11, q13, q15]
      refine callW.mkP (caps := []) (P1.addQ hX hY h0 (by omega) hv hXs (by omega) (by omega)) P1.hasQ ?_
      rintro r O3 ⟨rfl, P2⟩
      have hA := P2.alike h0 (by omega) (hv.add (by omega))
      have hv2 := hv.add (root := root) (X := CL) (P := CP) (by omega)
      generalize v.add log.length root CL CP = v2 at *
      simp (disch:=first|omega|(simp only [lens,z7,z6,List.length_reverse,z8,List.length_map,zh,zi,List.length_take];first|done|omega)) only [go_sem,reduceEqDiff,Nat.reduceBEq,reduceAdd,reduceMul,reduceSub,reduceLeDiff,reduceToNat,reducePow, q0, q2, q11, q13, q15]
      repeat' (first|refine zW.zs ?_|refine zW.zb ?_|refine zW.zc ?_|refine zW.zt rfl ?_|refine zW.zf rfl ?_|(refine zW.zd rfl (fun ht => ?_) (fun ht => ?_)<;>try (exfalso;omega))|((first|refine zW.zr ?_|refine zW.zk ?_|refine zW.ze ?_|refine zW.zq ?_|(apply callW.mk_pu; (first | exact (fun _ => hA))) | (apply callW.za; (first | exact (hA))) | ((first|apply zg0|apply zg1|apply zg2|apply zg3|apply zg4|apply zg5|apply zg6|apply zg7)<;>intro ht));all_goals try simp (disch:=first|omega|(simp only [lens,z7,z6,List.length_reverse,z8,List.length_map,zh,zi,List.length_take];first|done|omega)) only [go_sem,reduceEqDiff,Nat.reduceBEq,reduceAdd,reduceMul,reduceSub,reduceLeDiff,reduceToNat,reducePow, q0, q2, q11, q13, q15]))
      exact ⟨m - 1, by omega, i + 1, v2, by omega, P2, hv2, by simp⟩
    · obtain rfl : i = l.length := by omega
      repeat' (first|refine zW.zs ?_|refine zW.zb ?_|refine zW.zc ?_|refine zW.zt rfl ?_|refine zW.zf rfl ?_|(refine zW.zd rfl (fun ht => ?_) (fun ht => ?_)<;>try (exfalso;omega))|((first|refine zW.zr ?_|refine zW.zk ?_|refine zW.ze ?_|refine zW.zq ?_|(apply callW.mk_pu; (first | exact (fun _ => z3n _))) | (apply callW.za; (first | exact (z3n _))) | ((first|apply zg0|apply zg1|apply zg2|apply zg3|apply zg4|apply zg5|apply zg6|apply zg7)<;>intro ht));all_goals try simp (disch:=first|omega|(simp only [lens,z7,z6,List.length_reverse,z8,List.length_map,zh,zi,List.length_take];first|done|omega)) only [go_sem,reduceEqDiff,Nat.reduceBEq,reduceAdd,reduceMul,reduceSub,reduceLeDiff,reduceToNat,reducePow, q0, q2, q11, q13, q15, r1]))
      exact DownV.pure (τ := []) (news := O') hw (z14 _ rfl)
attribute [local irreducible] zbq
theorem zlj (b n : Nat) (hb : b <= n) (hn : n <= 60) (k : Nat) (hk : k = pc 13 b) : newB b n k = decide (b < n) := by
  have hv : z1u b k = true := decide_eq_true ⟨by omega, by omega, by rw [Int.toNat_natCast, pc13 (by omega)]; exact hk⟩
  unfold newB
  rw [hv]
  by_cases h : b < n
  · rw [decide_eq_true h]; exact decide_eq_true ⟨rfl, by omega, by omega⟩
  · rw [decide_eq_false h]; exact decide_eq_false (fun h2 => h (by omega))
set_option maxHeartbeats 16000000 in
theorem zhy (log : List (List UInt8)) (y z : AV) (base : Int) (l : List ActS) (hy : SlV 1 (strs log) y) (hz : SlV 4 (l.map actR) z) (hok : ∀ a ∈ l, ActOk a) (hb : 0 <= base /\ base <= 255) (hll : log.length <= maxLen) (hzl : l.length <= maxLen) :
    ACallsTo TC 4 [y, .int .u8 base, z] [] (.bool true) [] := by
  have r1 := hy.len
  rw [z8] at r1
  unfold z12 at r1
  have hLg := fun O => zhq O log y hy (by unfold maxLen at hll; omega)
  have hG := fun O => zd7 O l 20 z hz hok (by unfold maxLen at hzl; omega)
  refine ACallsTo.of_body q1cok (by simp) fun hw _ => ?_
  cases hlong : z5n log with
  | true =>
    rw [hlong] at hLg
    repeat' (first|refine zW.zs ?_|refine zW.zb ?_|refine zW.zc ?_|refine zW.zt rfl ?_|refine zW.zf rfl ?_|(refine zW.zd rfl (fun ht => ?_) (fun ht => ?_)<;>try (exfalso;omega))|((first|refine zW.zr ?_|refine zW.zk ?_|refine zW.ze ?_|refine zW.zq ?_|(apply callW.mk_pu; (first | exact (fun _ => hLg _) | exact (fun _ => z3n _))) | (apply callW.za; (first | exact (hLg _) | exact (z3n _))) | ((first|apply zg0|apply zg1|apply zg2|apply zg3|apply zg4|apply zg5|apply zg6|apply zg7)<;>intro ht));all_goals try simp (disch:=first|omega|(simp only [lens,z7,z6,List.length_reverse,z8,List.length_map,zh,zi,List.length_take];first|done|omega)) only [go_sem,reduceEqDiff,Nat.reduceBEq,reduceAdd,reduceMul,reduceSub,reduceLeDiff,reduceToNat,reducePow]))
    exact DownV.pure (τ := []) hw (z14 _ rfl)
  | false =>
    rw [hlong] at hLg
    cases hgreat : z4o l 20 with
    | true =>
      rw [hgreat] at hG
      repeat' (first|refine zW.zs ?_|refine zW.zb ?_|refine zW.zc ?_|refine zW.zt rfl ?_|refine zW.zf rfl ?_|(refine zW.zd rfl (fun ht => ?_) (fun ht => ?_)<;>try (exfalso;omega))|((first|refine zW.zr ?_|refine zW.zk ?_|refine zW.ze ?_|refine zW.zq ?_|(apply callW.mk_pu; (first | exact (fun _ => hLg _) | exact (fun _ => hG _) | exact (fun _ => z3n _))) | (apply callW.za; (first | exact (hLg _) | exact (hG _) | exact (z3n _))) | ((first|apply zg0|apply zg1|apply zg2|apply zg3|apply zg4|apply zg5|apply zg6|apply zg7)<;>intro ht));all_goals try simp (disch:=first|omega|(simp only [lens,z7,z6,List.length_reverse,z8,List.length_map,zh,zi,List.length_take];first|done|omega)) only [go_sem,reduceEqDiff,Nat.reduceBEq,reduceAdd,reduceMul,reduceSub,reduceLeDiff,reduceToNat,reducePow]))
      exact DownV.pure (τ := []) hw (z14 _ rfl)
    | false =>
      rw [hgreat] at hG
      obtain ⟨hl60, hl200⟩ := zev hlong
      obtain ⟨b, hbb⟩ : ∃ b : Nat, base % ((log.length : Int) + 1) = b := ⟨(base % ((log.length : Int) + 1)).toNat, by have := Int.emod_nonneg base (show (log.length : Int) + 1 ≠ 0 by omega); omega⟩
      have hbl : b <= log.length := by have := Int.emod_lt_of_pos base (show (0 : Int) < (log.length : Int) + 1 by omega); omega
      have hls : ∀ s ∈ log, s.length < 1000000 := fun s hs => by have := hl200 s hs; omega
      have hlvF := fun O => z9h O log y hy hls (by omega)
      have hlvB := fun O x hx => z9h O (log.take b) x hx (fun s hs => hls s (List.mem_of_mem_take hs)) (by rw [List.length_take]; omega)
      have hRt := fun O => znh O (lvs log) (zz 32 (hr (lvs log))) (.of (z27 _ _)) (by rw [zi]; omega)
      have hOf := fun O => Of_to O (lvs (log.take b)) (zz 32 (hr (lvs (log.take b)))) (z27 _ _) (by rw [zi, List.length_take]; omega)
      obtain ⟨z1, e1, hz1⟩ := ze6 (O := []) (n := 0) (hs := []) (l := lvs (log.take b)) (x := .nilsl) (.of (.inl ⟨rfl, rfl⟩)) (by rw [z9m]; rfl) (by rw [zi, List.length_take]; omega)
      rw [show (0 : Int) = ((0 : Nat) : Int) from rfl] at hOf
      rw [e1] at hOf
      have hbn : ((0 + (lvs (log.take b)).length : Nat) : Int) = b := by rw [zi, List.length_take]; omega
      rw [hbn] at hOf
      have hz1l : ((extR 0 ([] : List Hash).reverse (lvs (log.take b))).reverse).length = pc 13 b := by
        have := zlr (lvs (log.take b)) (by rw [zi, List.length_take]; omega)
        rw [List.length_reverse]
        rw [zi, List.length_take, Nat.min_eq_left hbl] at this
        exact this
      generalize (extR 0 ([] : List Hash).reverse (lvs (log.take b))).reverse = hs1 at *
      have hnb := zlj b log.length hbl hl60 hs1.length hz1l
      have zc := z48 hz1
      unfold cellsOf at zc
      generalize hRR : z3m (lvs log) = R at *
      have hpc := z5s 13 b
      by_cases hlt : b < log.length
      · rw [decide_eq_true hlt] at hnb
        have hN := fun O => zcl O b log.length R hs1 z1 (.of hz1) hnb (by omega)
        have hM := fun O => zfm O b log.length R hs1 z1 (.of hz1) hnb (by omega)
        obtain ⟨ex, rfl⟩ := hy.vsl (by rw [z8]; omega)
        have hlvB' := fun O t => hlvB O (.vsl 1 (strs (log.take b)) t) (.inr ⟨t, rfl⟩)
        repeat' (first|refine zW.zs ?_|refine zW.zb ?_|refine zW.zc ?_|refine zW.zt rfl ?_|refine zW.zf rfl ?_|(refine zW.zd rfl (fun ht => ?_) (fun ht => ?_)<;>try (exfalso;omega))|((first|refine zW.zr ?_|refine zW.zk ?_|refine zW.ze ?_|refine zW.zq ?_|(apply callW.mk_pu; (first | exact (fun _ => hLg _) | exact (fun _ => hG _) | exact (fun _ => hlvF _) | exact (fun _ => hlvB' _ _) | exact (fun _ => hRt _) | exact (fun _ => hOf _) | exact (fun _ => hN _) | exact (fun _ => hM _))) | (apply callW.za; (first | exact (hLg _) | exact (hG _) | exact (hlvF _) | exact (hlvB' _ _) | exact (hRt _) | exact (hOf _) | exact (hN _) | exact (hM _))) | ((first|apply zg0|apply zg1|apply zg2|apply zg3|apply zg4|apply zg5|apply zg6|apply zg7)<;>intro ht));all_goals try simp (disch:=first|omega|(simp only [lens,z7,z6,List.length_reverse,z8,List.length_map,zh,zi,List.length_take];first|done|omega)) only [go_sem,reduceEqDiff,Nat.reduceBEq,reduceAdd,reduceMul,reduceSub,reduceLeDiff,reduceToNat,reducePow, r1, hbb, Int.toNat_natCast, z6l, zc]))
        have P0 : StPair [some [[.int .i64 b, z1]], some [.int .i64 log.length :: hc R], some [[.int .i64 b, z1]], some [.int .i64 log.length :: hc R]]
          [some [[.int .i64 b, z1]], some [.int .i64 log.length :: hc R], some [[.int .i64 b, z1]], some [.int .i64 log.length :: hc R], some [stC log.length R b (zz 32 (hr hs1)) .nilsl], some [[.int .i64 b, z1]], some [.int .i64 log.length :: hc R], some [stC log.length R b z1 .nilsl]] 4 7 log.length R ⟨b, hs1, []⟩ ⟨b, hs1, []⟩ := by
          refine ⟨⟨none, none, ⟨_, _, rfl, z27 _ _, .inl ⟨rfl, rfl, rfl⟩⟩, ⟨_, _, rfl, hz1, .inl ⟨rfl, rfl, rfl⟩⟩, by simp, by simp⟩, by simp, by simp, by omega, by simp, fun q hq => ?_⟩
          match q, hq with
          | 0, _ => rfl
          | 1, _ => rfl
          | 2, _ => rfl
          | 3, _ => rfl
          | q + 4, h => simp at h; omega
        refine zhs hw _ 4 7 R log _ z l (.inr ⟨ex, rfl⟩) hz hok hlong hgreat (by omega) ⟨b, hs1, []⟩ ⟨by show b <= log.length; omega, hz1l, Nat.zero_le _⟩ _ P0 _ ?_ ?_ ?_ ?_ <;> simp (disch:=first|omega|(simp only [lens,z7,z6,List.length_reverse,z8,List.length_map,zh,zi,List.length_take];first|done|omega)) only [go_sem,reduceEqDiff,Nat.reduceBEq,reduceAdd,reduceMul,reduceSub,reduceLeDiff,reduceToNat,reducePow]
      · rw [decide_eq_false hlt] at hnb
        have hN := fun O => zck O b log.length R hs1 z1 (.of hz1) hnb
        have hM := fun O => zfl O b log.length R hs1 z1 (.of hz1) hnb
        rcases hy with ⟨rfl, hn0⟩ | ⟨ex, rfl⟩
        · have hlog : log = [] := by rw [<- List.length_eq_zero_iff, <- z8, hn0]; rfl
          subst hlog
          obtain rfl : b = 0 := by simpa using hbl
          have hm : base % ((0 : Int) + 1) = 0 := by omega
          have hlvN := fun O => hlvB O .nilsl (.inl ⟨rfl, rfl⟩)
          repeat' (first|refine zW.zs ?_|refine zW.zb ?_|refine zW.zc ?_|refine zW.zt rfl ?_|refine zW.zf rfl ?_|(refine zW.zd rfl (fun ht => ?_) (fun ht => ?_)<;>try (exfalso;omega))|((first|refine zW.zr ?_|refine zW.zk ?_|refine zW.ze ?_|refine zW.zq ?_|(apply callW.mk_pu; (first | exact (fun _ => hLg _) | exact (fun _ => hG _) | exact (fun _ => hlvF _) | exact (fun _ => hlvN _) | exact (fun _ => hRt _) | exact (fun _ => hOf _) | exact (fun _ => hN _) | exact (fun _ => hM _) | exact (fun _ => z3n _))) | (apply callW.za; (first | exact (hLg _) | exact (hG _) | exact (hlvF _) | exact (hlvN _) | exact (hRt _) | exact (hOf _) | exact (hN _) | exact (hM _) | exact (z3n _))) | ((first|apply zg0|apply zg1|apply zg2|apply zg3|apply zg4|apply zg5|apply zg6|apply zg7)<;>intro ht));all_goals try simp (disch:=first|omega|(simp only [lens,z7,z6,List.length_reverse,z8,List.length_map,zh,zi,List.length_take];first|done|omega)) only [go_sem,reduceEqDiff,Nat.reduceBEq,reduceAdd,reduceMul,reduceSub,reduceLeDiff,reduceToNat,reducePow, hm, Int.natCast_zero, Int.toNat_zero, zc]))
          exact DownV.pure (τ := []) hw (z14 _ rfl)
        · have ht : log.take b = log := List.take_of_length_le (by omega)
          rw [ht] at hOf
          have hlvF' := fun O t => z9h O log (.vsl 1 (strs log) t) (.inr ⟨t, rfl⟩) hls (by omega)
          have hlvB' := fun O t => hlvB O (.vsl 1 (strs (log.take b)) t) (.inr ⟨t, rfl⟩)
          repeat' (first|refine zW.zs ?_|refine zW.zb ?_|refine zW.zc ?_|refine zW.zt rfl ?_|refine zW.zf rfl ?_|(refine zW.zd rfl (fun ht => ?_) (fun ht => ?_)<;>try (exfalso;omega))|((first|refine zW.zr ?_|refine zW.zk ?_|refine zW.ze ?_|refine zW.zq ?_|(apply callW.mk_pu; (first | exact (fun _ => hLg _) | exact (fun _ => hG _) | exact (fun _ => hlvF _) | exact (fun _ => hlvF' _ _) | exact (fun _ => hRt _) | exact (fun _ => hOf _) | exact (fun _ => hN _) | exact (fun _ => hM _) | exact (fun _ => z3n _))) | (apply callW.za; (first | exact (hLg _) | exact (hG _) | exact (hlvF _) | exact (hlvF' _ _) | exact (hRt _) | exact (hOf _) | exact (hN _) | exact (hM _) | exact (z3n _))) | ((first|apply zg0|apply zg1|apply zg2|apply zg3|apply zg4|apply zg5|apply zg6|apply zg7)<;>intro ht));all_goals try simp (disch:=first|omega|(simp only [lens,z7,z6,List.length_reverse,z8,List.length_map,zh,zi,List.length_take];first|done|omega)) only [go_sem,reduceEqDiff,Nat.reduceBEq,reduceAdd,reduceMul,reduceSub,reduceLeDiff,reduceToNat,reducePow, r1, hbb, Int.toNat_natCast, z6l, zc]))
          exact DownV.pure (τ := []) hw (z14 _ rfl)
theorem zi4 {x : AV} (h : ShC (.sl 4 z50) [x]) : ∃ l : List ActS, SlV 4 (l.map actR) x /\ l.length <= maxLen /\ ∀ a ∈ l, ActOk a := by
  simp only [ShC] at h
  rcases h with h | ⟨es, h, hl, _, h2⟩
  · cases h
    exact ⟨[], .inl ⟨rfl, rfl⟩, Nat.zero_le _, by simp⟩
  · cases h
    have : ∀ es : List (List AV), (∀ x ∈ es, ShC z50 x) -> ∃ l : List ActS, es = l.map actR /\ ∀ a ∈ l, ActOk a := by
      intro es
      induction es with
      | nil => intro _; exact ⟨[], rfl, by simp⟩
      | cons e es ih =>
        intro h
        obtain ⟨a, rfl, ha⟩ := zde (h e (by simp))
        obtain ⟨l, rfl, hl⟩ := ih fun x hx => h x (by simp [hx])
        exact ⟨a :: l, rfl, fun b hb => by rcases List.mem_cons.1 hb with rfl | h1; exact ha; exact hl b h1⟩
    obtain ⟨l, rfl, hok⟩ := this es h2
    exact ⟨l, .inr ⟨false, rfl⟩, by rwa [List.length_map] at hl, hok⟩
theorem StagePlay_law (avs : List AV) (h : z62 [.sl 1 .str, .int .u8, .sl 4 z50] avs) : ACallsTo TC 4 avs [] (.bool true) [] := by
  simp only [z62] at h
  obtain ⟨_, _, rfl, h1, _, _, rfl, h2, _, _, rfl, h3, rfl⟩ := h
  obtain ⟨L, x, e, hx, hl, hs⟩ := zgw (by simpa only [Sh] using h1)
  cases e
  simp only [Sh, ShC] at h2
  obtain ⟨n, e, n1, n2⟩ := h2
  cases e
  simp only [IntKind.min, IntKind.max, IntKind.signed, IntKind.bits] at n1 n2
  simp at n1 n2
  obtain ⟨l, hz, hzl, hok⟩ := zi4 (by simpa only [Sh] using h3)
  exact zhy L _ _ n l hx hz hok ⟨n1, n2⟩ hl hzl
end Am
end Go.Proofs.YtncenefkbpelbaaDoor
end
section
/- What a law with the laid tables of sha begins with. -/
namespace Go.Proofs.YtncenefkbpelbaaDoor.LawDoor
open Go.ChangeShapes Go.WideShapes Go.ChangeAt Go.RowKit
theorem own : ownKnob Tryd.prog.godebug = none := by kernel_rfl
theorem zer : laidOutB Tryd.prog = true := by kernel_rfl
def z5l : List (String × DataW Unit) := [("speculum/sha.first", Rows.laid_speculum_sha_first), ("speculum/sha.rounds", Rows.laid_speculum_sha_rounds)]
set_option maxRecDepth 100000
/-- The door's own heap meets the condition. -/
theorem zdy (os : Os) (args : Array Value) : laidMetH Tryd.prog z5l ((World.doorLaid Tryd.prog 400 os).forCall (fun _ _ => 0) ⟨#[], args, []⟩).memory :=
  laidMetH_of_parts3 (fuel := 8) (laidMet_of_run' 8 (by kernel_rfl) (by kernel_rfl)) (by kernel_rfl) (by kernel_rfl)
/-- What the condition gives the walks: the tables, as_ the machine knows them. -/
theorem zfo {W : World} (h : laidMetH Tryd.prog z5l W) : Am.Rel Am.TC [] [] W := by
  rw [MakeChecks.laidMetH_plain _ _ _ (by kernel_rfl)] at h
  obtain ⟨ps, ⟨g0, t0, cs0, f0, p0, q0, hg0, ht0, hv0, hd0, ⟨g1, t1, cs1, f1, p1, q1, hg1, ht1, hv1, hd1, _, _⟩, _⟩, _, _⟩ := h
  have v0 := Am.vp_of_var (P := Tryd.prog) (n := "speculum/sha.first") (g := 0) (t := 168) (e := 166) (m := 8) (k := .u32) Am.shaFirst (by kernel_rfl) (by kernel_rfl) (by kernel_rfl) (by kernel_rfl) (by kernel_rfl) (by kernel_rfl) hg0 ht0 hv0 hd0
  have v1 := Am.vp_of_var (P := Tryd.prog) (n := "speculum/sha.rounds") (g := 1) (t := 167) (e := 166) (m := 64) (k := .u32) Am.shaRounds (by kernel_rfl) (by kernel_rfl) (by kernel_rfl) (by kernel_rfl) (by kernel_rfl) (by kernel_rfl) hg1 ht1 hv1 hd1
  refine ⟨rfl, fun r o h => by simp at h, fun r h => by simp at h, fun r r' pl pl' h => by simp at h, fun g cs h => ?_⟩
  simp only [Am.TC] at h
  split at h
  · rename_i hg; subst hg; cases h; exact v0
  · split at h
    · rename_i hg; subst hg; cases h; exact v1
    · cases h
end Go.Proofs.YtncenefkbpelbaaDoor.LawDoor
end
