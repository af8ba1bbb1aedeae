import Derived.Test.YtncenefkbpelbaaDoorK4807d6a10
import Derived.Test.YtncenefkbpelbaaDoorK31c3f020b
set_option linter.unusedSimpArgs false
set_option linter.unusedVariables false
open Nat (reduceEqDiff reduceAdd reduceMul reduceSub reduceLeDiff)
open Int (reduceToNat reducePow)
section
/- Ranges: contracts: Extend, Append, Of. -/
namespace Go.Proofs.YtncenefkbpelbaaDoor
namespace Am
/-- Nil if it was nil. -/
def knil (es : List (List AV)) : AV -> AV
  | .nilsl => .nilsl
  | _ => .vsl 32 es false
theorem zb5 {es : List (List AV)} {x : AV} (h : x ≠ .nilsl) : knil es x = .vsl 32 es false := by
  cases x <;> first | rfl | exact absurd rfl h
theorem zeq {O : Store} {l : List Hash} {x : AV} (h : RdSl O 32 (hr l) x) : SlV 32 (hr l) (knil (hr l) x) := by
  rcases h with (⟨rfl, h⟩ | ⟨ex, rfl⟩) | ⟨r, off, lim, o, rfl, _⟩
  · exact .inl ⟨rfl, h⟩
  · exact .inr ⟨false, rfl⟩
  · exact .inr ⟨false, rfl⟩
theorem znq {k : Nat} (l : List Hash) (x : AV) : RL k (knil (hr l) x) := by
  by_cases h : x = .nilsl
  · subst h; simp [knil, RL]
  · rw [zb5 h]; simp only [RL]; exact z3f _
theorem zhp (O : Store) (l : List Hash) (x : AV) (hx : RdSl O 32 (hr l) x) (hl : l.length < 1000000) :
    ACallsTo TC 105 [x] O (knil (hr l) x) O := by
  refine ACallsP.toDown (zd5 O l x hx hl) fun hw v O' h => ?_
  obtain ⟨h, hn⟩ := h
  obtain ⟨y, rfl⟩ := h.ext
  refine DownV.all hw ?_
  by_cases h0 : x = .nilsl
  · rw [hn.1 h0, h0]; simp [knil, DR]
  · have hv : v ≠ .nilsl := fun e => h0 (hn.2 e)
    rw [zb5 h0]
    rcases h with h | ⟨h1, rfl, _⟩
    · have h2 := h.frz (z3f l)
      unfold zz at h2
      split at h2
      · simp only [DR] at h2; exact absurd h2 hv
      · exact h2
    · rw [h1]
      simp only [DR]
      exact .inl ⟨_, _, rfl, by simp, by simp [DRss]⟩
theorem Ext.pure {O O' : Store} {v : AV} (hw : Wf O.length O) (h : Ext O O') (hv : RL O.length v) : DownV O.length v O' v O := by
  obtain ⟨n, rfl⟩ := h
  exact DownV.pure hw hv
/-- The hashes of a range that was gone on with: nil if it was nil, and nothing came. -/
def zv (x : AV) (first : Bool) (l : List Hash) : AV := if first then knil (hr l) x else .vsl 32 (hr l) false
theorem zhf {O : Store} {x : AV} {first : Bool} {l : List Hash} (h : first = true -> RdSl O 32 (hr l) x) : SlV 32 (hr l) (zv x first l) := by
  unfold zv
  cases first with
  | true => exact zeq (h rfl)
  | false => exact .inr ⟨false, rfl⟩
theorem rl_zv {k : Nat} (x : AV) (first : Bool) (l : List Hash) : RL k (zv x first l) := by
  unfold zv
  cases first with
  | true => exact znq _ _
  | false => simp only [Bool.false_eq_true, if_false, RL]; exact z3f _
theorem zhe (x : AV) (first : Bool) (l : List Hash) : cellsOf (zv x first l) = some [zv x first l] := by
  unfold zv
  cases first with
  | true =>
    by_cases h : x = .nilsl
    · subst h; rfl
    · simp only [if_true]; rw [zb5 h]; rfl
  | false => rfl
def rg (n : Int) (z : AV) (e : Int) : AV := .tup [.agg [.int .i64 n, z], .int .i64 e]
theorem z6f {k : Nat} {n e : Int} {z : AV} (h : RL k z) : RL k (rg n z e) := by simp only [rg, RL, RLs]; exact ⟨⟨trivial, h, trivial⟩, trivial, trivial⟩
/-- What Extend answers. -/
def extA (n : Int) (hs l : List Hash) (x : AV) : AV :=
  if z1u n hs.length = false then rg 0 .nilsl 2
  else if 4096 - n < l.length then rg 0 .nilsl 60
  else rg (n + l.length) (zv x l.isEmpty (extR n.toNat hs.reverse l).reverse) 0
theorem pc13 {n : Nat} (h : n <= 4096) : pc 64 n = pc 13 n := zfc 13 n (by omega) 51
theorem zn2 (O : Store) (n : Nat) (x : AV) (hs : List Hash) (h : Hash) (hx : RdSl O 32 (hr hs) x) (hn : n + 1 <= 4096) (hl : hs.length = pc 13 n) :
    ACallsTo TC 106 [.agg [.int .i64 n, x], .int .i64 1, .agg (hc h)] O (.agg [.int .i64 ((n + 1 : Nat) : Int), .vsl 32 (hr (z3k n hs.reverse h).reverse) false]) O := by
  have := zn3 O n 0 x hs h hx ⟨n, by simp⟩ hn hl
  simpa using this
attribute [local irreducible] ACallsTo ACallsP
set_option maxHeartbeats 8000000 in
theorem zd6 (O : Store) (n : Int) (hs l : List Hash) (x y : AV) (hx : RdSl O 32 (hr hs) x) (hy : SlV 32 (hr l) y) (hn : -9223372036854775808 <= n /\ n <= 9223372036854775807) (hhl : hs.length < 1000000) (hl : l.length < 1000000) :
    ACallsTo TC 62 [.agg [.int .i64 n, x], y] O (extA n hs l x) O := by
  have r1 := hy.len
  rw [z6] at r1
  unfold z12 at r1
  have hV := fun y => z9o (O ++ y) n hs x hx.app
  unfold extA
  by_cases hv : z1u n hs.length = true
  · rw [if_neg (by simp [hv])]
    rw [hv] at hV
    have hv' := of_decide_eq_true hv
    obtain ⟨n, rfl⟩ : ∃ k : Nat, n = k := ⟨n.toNat, by omega⟩
    rw [Int.toNat_natCast] at hv' ⊢
    have hhs : hs.length = pc 13 n := by rw [hv'.2.2, pc13 (by omega)]
    by_cases hf : 4096 - (n : Int) < l.length
    · rw [if_pos hf]
      refine ACallsTo.of_body qyok (by simp) fun hw _ => ?_
      repeat' (first|refine zW.zs ?_|refine zW.zb ?_|refine zW.zc ?_|refine zW.zt rfl ?_|refine zW.zf rfl ?_|(refine zW.zd rfl (fun ht => ?_) (fun ht => ?_)<;>try (exfalso;omega))|((first|refine zW.zr ?_|refine zW.zk ?_|refine zW.ze ?_|refine zW.zq ?_|(apply callW.mk_pu; (first | exact (fun _ => hV _))) | (apply callW.za; (first | exact (hV _))) | ((first|apply zg0|apply zg1|apply zg2|apply zg3|apply zg4|apply zg5|apply zg6|apply zg7)<;>intro ht));all_goals try simp (disch:=first|omega|(simp only [lens];first|done|omega)) only [go_sem,reduceEqDiff,Nat.reduceBEq,reduceAdd,reduceMul,reduceSub,reduceLeDiff,reduceToNat,reducePow, r1]))
      exact DownV.pure hw (z6f (by simp [RL]))
    · rw [if_neg hf]
      refine ACallsTo.of_body qyok (by simp) fun hw _ => ?_
      have hCl := fun y => zhp (O ++ y) hs x hx.app (by omega)
      have hk := zeq hx
      have e0 : knil (hr hs) x = zv x true (extR n hs.reverse (l.take 0)).reverse := by simp [zv, extR]
      rw [e0] at hCl
      have z0 := zhe x true (extR n hs.reverse (l.take 0)).reverse
      generalize hzz : zv x true (extR n hs.reverse (l.take 0)).reverse = z at *
      unfold cellsOf at z0
      repeat' (first|refine zW.zs ?_|refine zW.zb ?_|refine zW.zc ?_|refine zW.zt rfl ?_|refine zW.zf rfl ?_|(refine zW.zd rfl (fun ht => ?_) (fun ht => ?_)<;>try (exfalso;omega))|((first|refine zW.zr ?_|refine zW.zk ?_|refine zW.ze ?_|refine zW.zq ?_|(apply callW.mk_pu; (first | exact (fun _ => hV _) | exact (fun _ => hCl _))) | (apply callW.za; (first | exact (hV _) | exact (hCl _))) | ((first|apply zg0|apply zg1|apply zg2|apply zg3|apply zg4|apply zg5|apply zg6|apply zg7)<;>intro ht));all_goals try simp (disch:=first|omega|(simp only [lens];first|done|omega)) only [go_sem,reduceEqDiff,Nat.reduceBEq,reduceAdd,reduceMul,reduceSub,reduceLeDiff,reduceToNat,reducePow, r1, z0]))
      refine zW.loop (fun m Z O' => ∃ i : Nat, m + i = l.length /\ Ext O O' /\ O'[O.length]? = some (some [[.int .i64 ((n + i : Nat) : Int), zv x (decide (i = 0)) (extR n hs.reverse (l.take i)).reverse]]) /\ O'[O.length + 1]? = some (some [[.int .i64 0, .nilsl]]) ∧
        Z 2 = .ptr O.length 0 0 /\ Z 4 = .ptr (O.length + 1) 0 0 /\ Z 5 = .int .i64 0 /\ Z 25 = y /\ Z 26 = .int .i64 l.length /\ Z 27 = .int .i64 i) l.length ?_ ?_
      · refine ⟨0, by omega, ?_, ?_, ?_, by simp (disch:=first|omega|(simp only [lens];first|done|omega)) only [go_sem,reduceEqDiff,Nat.reduceBEq,reduceAdd,reduceMul,reduceSub,reduceLeDiff,reduceToNat,reducePow], by simp (disch:=first|omega|(simp only [lens];first|done|omega)) only [go_sem,reduceEqDiff,Nat.reduceBEq,reduceAdd,reduceMul,reduceSub,reduceLeDiff,reduceToNat,reducePow], by simp (disch:=first|omega|(simp only [lens];first|done|omega)) only [go_sem,reduceEqDiff,Nat.reduceBEq,reduceAdd,reduceMul,reduceSub,reduceLeDiff,reduceToNat,reducePow], by simp (disch:=first|omega|(simp only [lens];first|done|omega)) only [go_sem,reduceEqDiff,Nat.reduceBEq,reduceAdd,reduceMul,reduceSub,reduceLeDiff,reduceToNat,reducePow], by simp (disch:=first|omega|(simp only [lens];first|done|omega)) only [go_sem,reduceEqDiff,Nat.reduceBEq,reduceAdd,reduceMul,reduceSub,reduceLeDiff,reduceToNat,reducePow, r1], by simp (disch:=first|omega|(simp only [lens];first|done|omega)) only [go_sem,reduceEqDiff,Nat.reduceBEq,reduceAdd,reduceMul,reduceSub,reduceLeDiff,reduceToNat,reducePow]; rfl⟩
        · first | exact (Ext.refl O).app | exact ⟨_, rfl⟩
        · rw [<- hzz]; simp
        · simp
      · rintro m Z O' ⟨i, hm, he, c0, c1, q2, q4, q5, q25, q26, q27⟩
        have d0 := slen c0
        have d1 := slen c1
        by_cases hi : i < l.length
        · obtain ⟨ex, rfl⟩ := hy.vsl (by rw [z6]; omega)
          have hz : SlV 32 (hr (extR n hs.reverse (l.take i)).reverse) (zv x (decide (i = 0)) (extR n hs.reverse (l.take i)).reverse) := zhf fun h => by
            have : i = 0 := of_decide_eq_true h
            subst this
            simpa [extR] using hx
          have hlen : (extR n hs.reverse (l.take i)).reverse.length = pc 13 (n + i) := by
            rw [List.length_reverse, z66 13 n hs.reverse (l.take i) (by rw [List.length_take]; omega) (by rw [List.length_reverse]; exact hhs), List.length_take, Nat.min_eq_left (by omega)]
          have hP := fun O => zn2 O (n + i) _ _ (hd l i) (.of hz) (by omega) hlen
          have hnext : z3k (n + i) (extR n hs.reverse (l.take i)) (hd l i) = extR n hs.reverse (l.take (i + 1)) := by
            rw [z6m hi, zaw, List.length_take, Nat.min_eq_left (by omega)]; rfl
          simp only [List.reverse_reverse, hnext] at hP
          clear hz hlen hnext
          generalize zv x (decide (i = 0)) (extR n hs.reverse (l.take i)).reverse = z at *
          repeat' (first|refine zW.zs ?_|refine zW.zb ?_|refine zW.zc ?_|refine zW.zt rfl ?_|refine zW.zf rfl ?_|(refine zW.zd rfl (fun ht => ?_) (fun ht => ?_)<;>try (exfalso;omega))|((first|refine zW.zr ?_|refine zW.zk ?_|refine zW.ze ?_|refine zW.zq ?_|(apply callW.mk_pu; (first | exact (fun _ => hP _))) | (apply callW.za; (first | exact (hP _))) | ((first|apply zg0|apply zg1|apply zg2|apply zg3|apply zg4|apply zg5|apply zg6|apply zg7)<;>intro ht));all_goals try simp (disch:=first|omega|(simp only [lens];first|done|omega)) only [go_sem,reduceEqDiff,Nat.reduceBEq,reduceAdd,reduceMul,reduceSub,reduceLeDiff,reduceToNat,reducePow, q2, q4, q5, q25, q26, q27, c0, c1]))
          refine ⟨l.length - (i + 1), by omega, i + 1, by omega, ?_, ?_, ?_⟩
          · first | exact (he.app.set (by omega)) | exact (he.set (by omega)).app
          · simp [zv]; omega
          · simp
        · have hil : i = l.length := by omega
          subst hil
          rw [List.take_of_length_le (Nat.le_refl _)] at c0
          have e1 : decide (l.length = 0) = l.isEmpty := by cases l <;> simp
          rw [e1] at c0
          have hz := rl_zv (k := O.length) x l.isEmpty (extR n hs.reverse l).reverse
          have hcast : (n : Int) + l.length = ((n + l.length : Nat) : Int) := by omega
          rw [hcast]
          generalize zv x l.isEmpty (extR n hs.reverse l).reverse = z at *
          repeat' (first|refine zW.zs ?_|refine zW.zb ?_|refine zW.zc ?_|refine zW.zt rfl ?_|refine zW.zf rfl ?_|(refine zW.zd rfl (fun ht => ?_) (fun ht => ?_)<;>try (exfalso;omega))|((first|refine zW.zr ?_|refine zW.zk ?_|refine zW.ze ?_|refine zW.zq ?_|((first|apply zg0|apply zg1|apply zg2|apply zg3|apply zg4|apply zg5|apply zg6|apply zg7)<;>intro ht));all_goals try simp (disch:=first|omega|(simp only [lens];first|done|omega)) only [go_sem,reduceEqDiff,Nat.reduceBEq,reduceAdd,reduceMul,reduceSub,reduceLeDiff,reduceToNat,reducePow, q2, q4, q5, q25, q26, q27, c0, c1]))
          exact Ext.pure hw (he.set (by omega)) (z6f hz)
  · have hv0 : z1u n hs.length = false := by simpa using hv
    rw [if_pos hv0]
    rw [hv0] at hV
    refine ACallsTo.of_body qyok (by simp) fun hw _ => ?_
    repeat' (first|refine zW.zs ?_|refine zW.zb ?_|refine zW.zc ?_|refine zW.zt rfl ?_|refine zW.zf rfl ?_|(refine zW.zd rfl (fun ht => ?_) (fun ht => ?_)<;>try (exfalso;omega))|((first|refine zW.zr ?_|refine zW.zk ?_|refine zW.ze ?_|refine zW.zq ?_|(apply callW.mk_pu; (first | exact (fun _ => hV _))) | (apply callW.za; (first | exact (hV _))) | ((first|apply zg0|apply zg1|apply zg2|apply zg3|apply zg4|apply zg5|apply zg6|apply zg7)<;>intro ht));all_goals try simp (disch:=first|omega|(simp only [lens];first|done|omega)) only [go_sem,reduceEqDiff,Nat.reduceBEq,reduceAdd,reduceMul,reduceSub,reduceLeDiff,reduceToNat,reducePow, r1]))
    exact DownV.pure hw (z6f (by simp [RL]))
end Am
end Go.Proofs.YtncenefkbpelbaaDoor
end
section
/- Rows: numbers, trees. (The laws are printed by wip/rows.py.) -/
namespace Go.Proofs.YtncenefkbpelbaaDoor
namespace Am
def zbf : Nat -> List AV := fun n => [.int .i64 n]
def nums (l : List (Nat)) : List (List AV) := l.map zbf
@[go_sem] theorem z13 (l : List (Nat)) : (nums l).length = l.length := by simp [nums]
@[go_sem] theorem nums_take (l : List (Nat)) (n : Nat) : (nums l).take n = nums (l.take n) := by simp [nums, List.map_take]
@[go_sem] theorem nums_drop (l : List (Nat)) (n : Nat) : (nums l).drop n = nums (l.drop n) := by simp [nums, List.map_drop]
@[go_sem] theorem nums_set (l : List (Nat)) (i : Nat) (x : Nat) : (nums l).set i (zbf x) = nums (l.set i x) := by simp [nums, List.map_set]
def numsD (l : List (Nat)) (i : Nat) : Nat := l.getD i 0
@[go_sem] theorem nums_get {l : List (Nat)} {i : Nat} (h : i < l.length) : (nums l)[i]? = some (zbf (numsD l i)) := by
  simp [nums, numsD, List.getElem?_map, List.getElem?_eq_getElem h]
def trsR : Nat × Hash -> List AV := fun t => .int .i64 t.1 :: hc t.2
def trs (l : List (Nat × Hash)) : List (List AV) := l.map trsR
@[go_sem] theorem zw (l : List (Nat × Hash)) : (trs l).length = l.length := by simp [trs]
@[go_sem] theorem trs_take (l : List (Nat × Hash)) (n : Nat) : (trs l).take n = trs (l.take n) := by simp [trs, List.map_take]
@[go_sem] theorem trs_drop (l : List (Nat × Hash)) (n : Nat) : (trs l).drop n = trs (l.drop n) := by simp [trs, List.map_drop]
@[go_sem] theorem trs_set (l : List (Nat × Hash)) (i : Nat) (x : Nat × Hash) : (trs l).set i (trsR x) = trs (l.set i x) := by simp [trs, List.map_set]
theorem zcx (a b : List (Nat × Hash)) : trs (a ++ b) = trs a ++ trs b := by simp [trs]
theorem zh6 : trs [] = [] := rfl
theorem trs_nil_iff {l : List (Nat × Hash)} : trs l = [] ↔ l = [] := by simp [trs]
def trsD (l : List (Nat × Hash)) (i : Nat) : Nat × Hash := l.getD i (0, z5f)
@[go_sem] theorem zp1 {l : List (Nat × Hash)} {i : Nat} (h : i < l.length) : (trs l)[i]? = some (trsR (trsD l i)) := by
  simp [trs, trsD, List.getElem?_map, List.getElem?_eq_getElem h]
theorem zp0 {l : List (Nat × Hash)} {i : Nat} (h : i < l.length) : trsD l i = l[i] := by simp [trsD, h]
theorem zh2 {l : List (Nat × Hash)} {i : Nat} (h : i < l.length) : l.take (i + 1) = l.take i ++ [trsD l i] := by
  rw [zp0 h]; exact (List.take_append_getElem h).symm
theorem zfr {k : Nat} : ∀ (l : List (Nat × Hash)), RLss k (trs l)
  | [] => by simp [trs, RLss]
  | x :: l => by
    have := zfr (k := k) l
    simp only [trs, List.map_cons, RLss] at this ⊢
    exact ⟨by simp only [trsR, RLs, RL]; exact ⟨trivial, z6d _⟩, this⟩
/-- All that is new is let go; what is read of a slice stays. -/
theorem RdSl.frz {sz : Nat} {τ news : Store} {v : AV} {es : List (List AV)} (h : RdSl (τ ++ news) sz es v) (hn : ∀ r off len lim e, v = .sl r off len lim e -> τ.length <= r) (hr : RLss τ.length es) : ∃ v2, SlV sz es v2 /\ DR (FrzD τ news) v2 v := by
  rcases h with (⟨rfl, rfl⟩ | ⟨ex, rfl⟩) | ⟨r, off, lim, o, rfl, hg, h1, h2⟩
  · exact ⟨.nilsl, .inl ⟨rfl, rfl⟩, by simp [DR]⟩
  · exact ⟨.vsl sz es ex, .inr ⟨ex, rfl⟩, FrzD.same (by simpa only [RL] using hr)⟩
  · exact ⟨.vsl sz es false, .inr ⟨false, rfl⟩, FrzD.sl (hn _ _ _ _ _ rfl) hg h1 h2 hr⟩
theorem row_at {o es : List (List AV)} {off i : Nat} (h : (o.drop off).take es.length = es) (hi : i < es.length) : o[off + i]? = es[i]? := by
  have e : es[i]? = ((o.drop off).take es.length)[i]? := by rw [h]
  rw [e, List.getElem?_take_of_lt hi, List.getElem?_drop]
theorem Ext.all {O O' : Store} {v v2 : AV} (hw : Wf O.length O) (he : Ext O O') (h : ∀ news, O' = O ++ news -> DR (FrzD O news) v2 v) : DownV O.length v O' v2 O := by
  obtain ⟨news, rfl⟩ := he
  exact DownV.all hw (h news rfl)
/-- Own elements in memory, from the k-th object on. -/
def OwnR (sz k : Nat) (O' : Store) (v : AV) (es : List (List AV)) : Prop := (es = [] /\ v = .nilsl) \/ ∃ r, k <= r /\ es ≠ [] /\ v = .sl r 0 es.length none sz /\ O'[r]? = some (some es)
theorem OwnR.nil {sz k : Nat} {O' : Store} : OwnR sz k O' .nilsl [] := .inl ⟨rfl, rfl⟩
theorem OwnR.cells {sz k : Nat} {O' : Store} {v : AV} {es : List (List AV)} (h : OwnR sz k O' v es) : cellsOf v = some [v] := by
  rcases h with ⟨_, rfl⟩ | ⟨r, _, _, rfl, _⟩ <;> rfl
theorem OwnR.rd {sz k : Nat} {O' : Store} {v : AV} {es : List (List AV)} (h : OwnR sz k O' v es) : RdSl O' sz es v := by
  rcases h with ⟨h, rfl⟩ | ⟨r, _, _, rfl, hg⟩
  · exact .inl (.inl ⟨rfl, h⟩)
  · exact .inr ⟨r, 0, none, es, rfl, hg, by omega, by simp⟩
theorem OwnR.len {sz k : Nat} {O' : Store} {v : AV} {es : List (List AV)} (h : OwnR sz k O' v es) : z12 v = some (.int .i64 es.length) := h.rd.len
theorem OwnR.set {sz k q : Nat} {O' : Store} {v : AV} {es : List (List AV)} {x : Option AObj} (h : OwnR sz k O' v es) (hq : q < k) : OwnR sz k (O'.set q x) v es := by
  rcases h with h | ⟨r, h1, h2, h3, h4⟩
  · exact .inl h
  · exact .inr ⟨r, h1, h2, h3, by rw [z1e (by omega)]; exact h4⟩
theorem OwnR.more {sz k : Nat} {O' y : Store} {v : AV} {es : List (List AV)} (h : OwnR sz k O' v es) : OwnR sz k (O' ++ y) v es := by
  rcases h with h | ⟨r, h1, h2, h3, h4⟩
  · exact .inl h
  · exact .inr ⟨r, h1, h2, h3, by rw [gapp (slen h4)]; exact h4⟩
theorem OwnR.app {sz k : Nat} {O' : Store} {v : AV} {es ys : List (List AV)} (h : OwnR sz k O' v es) (hk : k <= O'.length) (h0 : ys.length ≠ 0) (hl : es.length + ys.length <= 1073741824) :
    ∃ v' O2, aApp O' sz v ys = some (v', O2) /\ OwnR sz k O2 v' (es ++ ys) /\ (∀ q, q < k -> O2[q]? = O'[q]?) /\ (∀ O : Store, O.length <= k -> Ext O O' -> Ext O O2) /\ k <= O2.length := by
  have hne : es ++ ys ≠ [] := fun e => h0 (by rw [(List.append_eq_nil_iff.1 e).2]; rfl)
  rcases h with ⟨rfl, rfl⟩ | ⟨r, h1, h2, rfl, hg⟩
  · refine ⟨.sl O'.length 0 ys.length none sz, O' ++ [some ys], by rw [zaf, if_neg h0, if_pos (by simpa using hl)], .inr ⟨O'.length, hk, hne, by simp, by simp⟩, fun q hq => gapp (by omega), fun O _ he => he.app, by simp; omega⟩
  · have hr := slen hg
    refine ⟨.sl O'.length 0 (es.length + ys.length) none sz, O'.set r none ++ [some (es ++ ys)], ?_, .inr ⟨O'.length, hk, hne, by simp, by rw [z4e (by simp)]; simp⟩, fun q hq => by rw [gapp (by simp; omega), z1e (by omega)], fun O hs he => (he.set (by omega)).app, by simp; omega⟩
    rw [z8y, if_neg h0, hg]
    simp only
    rw [if_pos ⟨trivial, by omega, by omega⟩, if_neg (by omega), List.drop_zero, List.take_of_length_le (Nat.le_refl _)]
theorem OwnR.frz {sz k : Nat} {τ news : Store} {v : AV} {es : List (List AV)} (h : OwnR sz k (τ ++ news) v es) (hk : τ.length <= k) (hr : RLss τ.length es) : DR (FrzD τ news) (zz sz es) v := by
  unfold zz
  rcases h with ⟨rfl, rfl⟩ | ⟨r, h1, h2, rfl, hg⟩
  · simp [DR]
  · rw [if_neg h2]
    exact FrzD.sl (by omega) hg (by omega) (by simp) hr
theorem OwnR.fr {sz k : Nat} {τ O' news : Store} {v : AV} {es : List (List AV)} (h : OwnR sz k O' v es) (e : O' = τ ++ news) (hk : τ.length <= k) (hr : RLss τ.length es) : DR (FrzD τ news) (zz sz es) v := by
  subst e; exact h.frz hk hr
end Am
end Go.Proofs.YtncenefkbpelbaaDoor
end
section
/- Ranges: contracts: the reference's open, join, close. -/
namespace Go.Proofs.YtncenefkbpelbaaDoor
namespace Am
attribute [local irreducible] ACallsTo ACallsP
/-- A range's trees, the first one first. -/
def opn (n : Nat) (hs : List Hash) : List (Nat × Hash) := (trR 13 1 n hs.reverse).reverse
/-- The trees of the bits from the i-th on: what open has so far. -/
def opI (n i : Nat) (hs : List Hash) : List (Nat × Hash) := (trR (13 - i) (2 ^ i) (n / 2 ^ i) (hs.take (pc (13 - i) (n / 2 ^ i))).reverse).reverse
theorem z9i {n i : Nat} {hs : List Hash} (hn : n < 8192) (hl : hs.length = pc 13 n) (hi : i <= 13) : (opI n i hs).length = pc (13 - i) (n / 2 ^ i) /\ pc (13 - i) (n / 2 ^ i) <= hs.length := by
  have h1 : pc (13 - i) (n / 2 ^ i) <= hs.length := by
    rw [hl]
    have := zff i (13 - i) n
    rw [show i + (13 - i) = 13 by omega] at this
    omega
  refine ⟨?_, h1⟩
  have hd : n / 2 ^ i < 2 ^ (13 - i) := by
    rw [Nat.div_lt_iff_lt_mul (Nat.pow_pos (by decide)), <- Nat.pow_add, show 13 - i + i = 13 by omega]; exact hn
  have := (za3 (13 - i) (2 ^ i) (n / 2 ^ i) (hs.take (pc (13 - i) (n / 2 ^ i))).reverse hd (by rw [List.length_reverse, List.length_take]; omega)).2
  have h2 := congrArg List.length this
  rw [List.length_map, List.length_reverse, List.length_take] at h2
  rw [opI, List.length_reverse, h2]; omega
theorem zmh (n : Nat) (hs : List Hash) (hl : hs.length = pc 13 n) : opI n 0 hs = opn n hs := by
  unfold opI opn
  rw [show 13 - 0 = 13 from rfl, Nat.pow_zero, Nat.div_one, <- hl, List.take_of_length_le (Nat.le_refl _)]
theorem zmf {n i : Nat} {hs : List Hash} (hn : n < 8192) (hl : hs.length = pc 13 n) (hi : i < 13) :
    opI n i hs = if n / 2 ^ i % 2 = 1 then opI n (i + 1) hs ++ [(2 ^ i, hd hs (opI n (i + 1) hs).length)] else opI n (i + 1) hs := by
  obtain ⟨l1, l2⟩ := z9i (i := i + 1) hn hl (by omega)
  obtain ⟨_, l3⟩ := z9i (i := i) hn hl (by omega)
  have hdd : n / 2 ^ i / 2 = n / 2 ^ (i + 1) := by rw [Nat.div_div_eq_div_mul, <- Nat.pow_succ]
  have e1 : 13 - i = (13 - (i + 1)) + 1 := by omega
  have e2 : 2 * 2 ^ i = 2 ^ (i + 1) := by rw [Nat.pow_succ, Nat.mul_comm]
  rw [l1]
  unfold opI at *
  rw [e1] at l3 ⊢
  simp only [pc] at l3 ⊢
  rw [hdd] at l3 ⊢
  generalize 13 - (i + 1) = f at *
  by_cases h1 : n / 2 ^ i % 2 = 1
  · rw [if_pos h1, h1]
    rw [h1] at l3
    have hrev : (hs.take (1 + pc f (n / 2 ^ (i + 1)))).reverse = hd hs (pc f (n / 2 ^ (i + 1))) :: (hs.take (pc f (n / 2 ^ (i + 1)))).reverse := by
      rw [show 1 + pc f (n / 2 ^ (i + 1)) = pc f (n / 2 ^ (i + 1)) + 1 by omega, z6m (by omega)]; simp
    rw [hrev]
    simp only [trR, h1, if_true]
    rw [hdd, e2, List.reverse_cons]
  · rw [if_neg h1, show n / 2 ^ i % 2 = 0 by omega, Nat.zero_add]
    simp only [trR]
    rw [if_neg h1, hdd, e2]
theorem zmg (n : Nat) (hs : List Hash) : opI n 13 hs = [] := by simp [opI, trR]
theorem z5s : ∀ (f n : Nat), pc f n <= f
  | 0, _ => Nat.le_refl _
  | f + 1, n => by simp only [pc]; have := z5s f (n / 2); omega
theorem OwnN.base {sz : Nat} {τ y O' : Store} {v : AV} {es : List (List AV)} (h : OwnN sz (τ ++ y) O' v es) : OwnN sz τ O' v es := by
  obtain ⟨news, rfl, h⟩ := h
  refine ⟨y ++ news, by rw [List.append_assoc], ?_⟩
  rcases h with h | ⟨j, h0, rfl, hj⟩
  · exact .inl h
  · exact .inr ⟨y.length + j, h0, by rw [List.length_append]; congr 1; omega, by rw [List.getElem?_append_right (by omega), Nat.add_sub_cancel_left]; exact hj⟩
set_option maxHeartbeats 8000000 in
theorem zmk (O : Store) (n : Nat) (hs : List Hash) (x : AV) (hx : SlV 32 (hr hs) x) (hn : n <= 4096) (hl : hs.length = pc 13 n) :
    ACallsTo TC 110 [.agg [.int .i64 n, x]] O (zz 33 (trs (opn n hs))) O := by
  refine ACallsTo.of_body q13ok (by simp) fun hw _ => ?_
  rw [<- zmh n hs hl]
  repeat' (first|refine zW.zs ?_|refine zW.zb ?_|refine zW.zc ?_|refine zW.zt rfl ?_|refine zW.zf rfl ?_|(refine zW.zd rfl (fun ht => ?_) (fun ht => ?_)<;>try (exfalso;omega))|((first|refine zW.zr ?_|refine zW.zk ?_|refine zW.ze ?_|refine zW.zq ?_|((first|apply zg0|apply zg1|apply zg2|apply zg3|apply zg4|apply zg5|apply zg6|apply zg7)<;>intro ht));all_goals try simp (disch:=first|omega|(simp only [lens,z7,z6,zw,z13,List.length_reverse];first|done|omega)) only [go_sem,reduceEqDiff,Nat.reduceBEq,reduceAdd,reduceMul,reduceSub,reduceLeDiff,reduceToNat,reducePow]))
  refine zW.loop (fun i Z O' => ∃ k : Nat, i <= 13 /\ (k = if i = 0 then 0 else 2 ^ (i - 1)) /\ Z 1 = .ptr O.length 0 0 /\ Z 4 = .int .i64 k /\ OwnN 33 (O ++ [some [[.int .i64 n, x]]]) O' (Z 3) (trs (opI n i hs))) 13 ?_ ?_
  · refine ⟨4096, by omega, by simp, by simp (disch:=first|omega|(simp only [lens,z7,z6,zw,z13,List.length_reverse];first|done|omega)) only [go_sem,reduceEqDiff,Nat.reduceBEq,reduceAdd,reduceMul,reduceSub,reduceLeDiff,reduceToNat,reducePow], by simp (disch:=first|omega|(simp only [lens,z7,z6,zw,z13,List.length_reverse];first|done|omega)) only [go_sem,reduceEqDiff,Nat.reduceBEq,reduceAdd,reduceMul,reduceSub,reduceLeDiff,reduceToNat,reducePow]; rfl, ?_⟩
    rw [zmg]
    simp (disch:=first|omega|(simp only [lens,z7,z6,zw,z13,List.length_reverse];first|done|omega)) only [go_sem,reduceEqDiff,Nat.reduceBEq,reduceAdd,reduceMul,reduceSub,reduceLeDiff,reduceToNat,reducePow]
    exact ⟨[], by simp, .inl ⟨rfl, rfl⟩⟩
  · rintro i Z O' ⟨k, hi, hk, q1, q4, hO⟩
    generalize q3 : Z 3 = v at *
    have g : O'[O.length]? = some (some [[.int .i64 n, x]]) := by
      obtain ⟨y, rfl⟩ := hO.ext
      simp
    have g1 := slen g
    have r3 := hO.len
    rw [zw] at r3
    have hp13 := z5s 13 n
    unfold z12 at r3
    cases i with
    | zero =>
      simp only [if_true] at hk
      subst hk
      repeat' (first|refine zW.zs ?_|refine zW.zb ?_|refine zW.zc ?_|refine zW.zt rfl ?_|refine zW.zf rfl ?_|(refine zW.zd rfl (fun ht => ?_) (fun ht => ?_)<;>try (exfalso;omega))|((first|refine zW.zr ?_|refine zW.zk ?_|refine zW.ze ?_|refine zW.zq ?_|((first|apply zg0|apply zg1|apply zg2|apply zg3|apply zg4|apply zg5|apply zg6|apply zg7)<;>intro ht));all_goals try simp (disch:=first|omega|(simp only [lens,z7,z6,zw,z13,List.length_reverse];first|done|omega)) only [go_sem,reduceEqDiff,Nat.reduceBEq,reduceAdd,reduceMul,reduceSub,reduceLeDiff,reduceToNat,reducePow, q1, q3, q4, g]))
      exact hO.base.froze hw (zfr _)
    | succ i =>
      simp only [Nat.succ_ne_zero, if_false, Nat.add_sub_cancel] at hk
      have hst := zmf (i := i) (hs := hs) (n := n) (by omega) hl (by omega)
      obtain ⟨l1, l2⟩ := z9i (i := i) (hs := hs) (n := n) (by omega) hl (by omega)
      obtain ⟨l3, l4⟩ := z9i (i := i + 1) (hs := hs) (n := n) (by omega) hl (by omega)
      have hkp : 0 < k := by rw [hk]; exact Nat.pow_pos (by decide)
      have hk4 : k <= 4096 := by
        rw [hk]
        have := Nat.pow_le_pow_right (n := 2) (by decide) (show i <= 12 by omega)
        exact this
      have hkn : k / 2 = if i = 0 then 0 else 2 ^ (i - 1) := by
        rw [hk]
        by_cases h0 : i = 0
        · subst h0; rfl
        · rw [if_neg h0, show i = (i - 1) + 1 by omega, Nat.pow_succ]; simp
      have hdiv : (n : Int) / (k : Int) = ((n / k : Nat) : Int) := by simp
      have hk2 : (k : Int) / 2 = ((k / 2 : Nat) : Int) := by simp
      rw [<- hk] at hst
      have hk0 : ¬ (k : Int) = 0 := by omega
      have hq : n / k <= n := Nat.div_le_self _ _
      by_cases hbit : n / k % 2 = 1
      · rw [if_pos hbit] at hst
        have hlen : (opI n (i + 1) hs).length < hs.length := by
          have := congrArg List.length hst
          rw [List.length_append, List.length_singleton] at this
          omega
        obtain ⟨ex, rfl⟩ := hx.vsl (by rw [z6]; omega)
        obtain ⟨v', O2, he, hO2⟩ := hO.app (ys := [.int .i64 k :: hc (hd hs (opI n (i + 1) hs).length)]) (by simp) (by rw [zw]; simp; omega)
        have hcat : trs (opI n (i + 1) hs) ++ [.int .i64 k :: hc (hd hs (opI n (i + 1) hs).length)] = trs (opI n i hs) := by rw [hst, zcx]; rfl
        rw [hcat] at hO2
        have hb1 : ((n / k : Nat) : Int) % 2 = 1 := by omega
        generalize hll : (opI n (i + 1) hs).length = ll at *
        generalize hqq : n / k = q at *
        repeat' (first|refine zW.zs ?_|refine zW.zb ?_|refine zW.zc ?_|refine zW.zt rfl ?_|refine zW.zf rfl ?_|(refine zW.zd rfl (fun ht => ?_) (fun ht => ?_)<;>try (exfalso;omega))|((first|refine zW.zr ?_|refine zW.zk ?_|refine zW.ze ?_|refine zW.zq ?_|((first|apply zg0|apply zg1|apply zg2|apply zg3|apply zg4|apply zg5|apply zg6|apply zg7)<;>intro ht));all_goals try simp (disch:=first|omega|(simp only [lens,z7,z6,zw,z13,List.length_reverse];first|done|omega)) only [go_sem,reduceEqDiff,Nat.reduceBEq,reduceAdd,reduceMul,reduceSub,reduceLeDiff,reduceToNat,reducePow, q1, q3, q4, g, r3, hdiv, hk0, hb1, he, hk2]))
        exact ⟨i, by omega, k / 2, by omega, hkn, rfl, hO2⟩
      · rw [if_neg hbit] at hst
        have hb1 : ¬ ((n / k : Nat) : Int) % 2 = 1 := by omega
        rw [<- hst] at hO
        generalize hqq : n / k = q at *
        repeat' (first|refine zW.zs ?_|refine zW.zb ?_|refine zW.zc ?_|refine zW.zt rfl ?_|refine zW.zf rfl ?_|(refine zW.zd rfl (fun ht => ?_) (fun ht => ?_)<;>try (exfalso;omega))|((first|refine zW.zr ?_|refine zW.zk ?_|refine zW.ze ?_|refine zW.zq ?_|((first|apply zg0|apply zg1|apply zg2|apply zg3|apply zg4|apply zg5|apply zg6|apply zg7)<;>intro ht));all_goals try simp (disch:=first|omega|(simp only [lens,z7,z6,zw,z13,List.length_reverse];first|done|omega)) only [go_sem,reduceEqDiff,Nat.reduceBEq,reduceAdd,reduceMul,reduceSub,reduceLeDiff,reduceToNat,reducePow, q1, q3, q4, g, hdiv, hk0, hb1, hk2]))
        exact ⟨i, by omega, k / 2, by omega, hkn, rfl, hO⟩
set_option maxHeartbeats 8000000 in
theorem zl8 (O : Store) (r : Nat) (t : Nat × Hash) (rest : List (Nat × Hash)) (hg : O[r]? = some (some (trs (rest.reverse ++ [t])))) (hl : rest.length < 1000) (hb : ∀ u ∈ t :: rest, u.1 < 1000000) (ht : t.1 * 2 ^ rest.length < 1000000) :
    ACallsP TC 111 [.sl r 0 (rest.length + 1) none 33] O (fun v O' => ∃ r', v = .sl r' 0 (z1m t rest).length none 33 /\ O'[r']? = some (some (trs (z1m t rest).reverse)) /\ (r' = r \/ O.length <= r') /\ Ext O O') := by
  refine ACallsP.of_keep q14ok (by simp) ?_
  repeat' (first|refine zW.zs ?_|refine zW.zb ?_|refine zW.zc ?_|refine zW.zt rfl ?_|refine zW.zf rfl ?_|(refine zW.zd rfl (fun ht => ?_) (fun ht => ?_)<;>try (exfalso;omega))|((first|refine zW.zr ?_|refine zW.zk ?_|refine zW.ze ?_|refine zW.zq ?_|((first|apply zg0|apply zg1|apply zg2|apply zg3|apply zg4|apply zg5|apply zg6|apply zg7)<;>intro ht));all_goals try simp (disch:=first|omega|(simp only [lens,z7,z6,zw,z13,List.length_reverse];first|done|omega)) only [go_sem,reduceEqDiff,Nat.reduceBEq,reduceAdd,reduceMul,reduceSub,reduceLeDiff,reduceToNat,reducePow]))
  refine zW.loop (fun m Z O' => ∃ (t' : Nat × Hash) (rest' : List (Nat × Hash)) (r' : Nat), m = rest'.length /\ m <= rest.length /\ z1m t' rest' = z1m t rest /\ t'.1 * 2 ^ rest'.length < 1000000 /\ (∀ u ∈ rest', u.1 < 1000000) /\ O'[r']? = some (some (trs (rest'.reverse ++ [t']))) /\ (r' = r \/ O.length <= r') /\ Ext O O' ∧
    Z 0 = .sl r' 0 (rest'.length + 1) none 33 /\ Z 3 = .int .i64 ((rest'.length + 1 : Nat) : Int)) rest.length ?_ ?_
  · exact ⟨t, rest, r, rfl, Nat.le_refl _, rfl, ht, fun u hu => hb u (by simp [hu]), hg, .inl rfl, Ext.refl _, by simp (disch:=first|omega|(simp only [lens,z7,z6,zw,z13,List.length_reverse];first|done|omega)) only [go_sem,reduceEqDiff,Nat.reduceBEq,reduceAdd,reduceMul,reduceSub,reduceLeDiff,reduceToNat,reducePow], by simp (disch:=first|omega|(simp only [lens,z7,z6,zw,z13,List.length_reverse];first|done|omega)) only [go_sem,reduceEqDiff,Nat.reduceBEq,reduceAdd,reduceMul,reduceSub,reduceLeDiff,reduceToNat,reducePow]⟩
  · rintro m Z O' ⟨t', rest', r', rfl, hm, hj, ht', hb', cg, hr', he, q0, q3⟩
    have d0 := slen cg
    match rest', hm, hj, ht', hb', cg, q0, q3 with
    | [], hm, hj, ht', hb', cg, q0, q3 =>
      repeat' (first|refine zW.zs ?_|refine zW.zb ?_|refine zW.zc ?_|refine zW.zt rfl ?_|refine zW.zf rfl ?_|(refine zW.zd rfl (fun ht => ?_) (fun ht => ?_)<;>try (exfalso;omega))|((first|refine zW.zr ?_|refine zW.zk ?_|refine zW.ze ?_|refine zW.zq ?_|((first|apply zg0|apply zg1|apply zg2|apply zg3|apply zg4|apply zg5|apply zg6|apply zg7)<;>intro ht));all_goals try simp (disch:=first|omega|(simp only [lens,z7,z6,zw,z13,List.length_reverse];first|done|omega)) only [go_sem,reduceEqDiff,Nat.reduceBEq,reduceAdd,reduceMul,reduceSub,reduceLeDiff,reduceToNat,reducePow, q0, q3, cg]))
      refine ⟨r', ?_, ?_, hr', he⟩
      · rw [<- hj]; simp [z1m]
      · rw [<- hj]; simpa [z1m] using cg
    | u :: l, hm, hj, ht', hb', cg, q0, q3 =>
      have hu := hb' u (by simp)
      obtain ⟨T, hT⟩ : ∃ T, (u :: l).reverse ++ [t'] = T := ⟨_, rfl⟩
      have hTl : T.length = l.length + 2 := by rw [<- hT]; simp
      have g1 : trsD T (l.length + 1) = t' := by rw [<- hT]; simp [trsD]
      have g2 : trsD T l.length = u := by rw [<- hT]; simp [trsD]
      have gt : T.take l.length = l.reverse := by rw [<- hT]; simp
      rw [hT] at cg
      simp only [List.length_cons] at q0 q3 ht' hm
      have i1 : ((l.length + 1 + 1 : Nat) : Int) - 1 = ((l.length + 1 : Nat) : Int) := by omega
      have i2 : ((l.length + 1 + 1 : Nat) : Int) - 2 = (l.length : Int) := by omega
      have i3 : ((l.length + 1 + 1 : Nat) : Int) > 1 := by omega
      have ht1 : t'.1 < 1000000 := by
        have : 0 < 2 ^ (l.length + 1) := Nat.pow_pos (by decide)
        exact Nat.lt_of_le_of_lt (Nat.le_mul_of_pos_right _ this) ht'
      by_cases hc1 : t'.1 = u.1
      · have hc2 : (t'.1 : Int) = u.1 := by omega
        have hjj : z1m t' (u :: l) = z1m (2 * t'.1, z15 u.2 t'.2) l := by simp [z1m, hc1]
        rw [hjj] at hj
        have e2 : 2 ^ (l.length + 1) = 2 ^ l.length * 2 := Nat.pow_succ ..
        have hkl : ¬ (l.length : Int) < 0 := by omega
        have hnew : trs (l.reverse ++ [(2 * t'.1, z15 u.2 t'.2)]) = trs l.reverse ++ [.int .i64 (2 * (u.1 : Int)) :: hc (z15 u.2 t'.2)] := by rw [zcx]; simp [trs, trsR, hc1]
        have fin : ∀ (O2 : Store) (r2 : Nat), (r2 = r \/ O.length <= r2) -> Ext O O2 -> O2[r2]? = some (some (trs (l.reverse ++ [(2 * t'.1, z15 u.2 t'.2)]))) -> ∃ m', m' < l.length + 1 /\ ∃ (t'1 : Nat × Hash) (rest' : List (Nat × Hash)) (r' : Nat), m' = rest'.length /\ m' <= rest.length /\ z1m t'1 rest' = z1m t rest /\ t'1.1 * 2 ^ rest'.length < 1000000 /\ (∀ u ∈ rest', u.1 < 1000000) /\ O2[r']? = some (some (trs (rest'.reverse ++ [t'1]))) /\ (r' = r \/ O.length <= r') /\ Ext O O2 /\ AV.sl r2 0 (l.length + 1) none 33 = .sl r' 0 (rest'.length + 1) none 33 /\ AV.int .i64 ((l.length + 1 : Nat) : Int) = .int .i64 ((rest'.length + 1 : Nat) : Int) :=
          fun O2 r2 h1 h2 h3 => ⟨l.length, by omega, (2 * t'.1, z15 u.2 t'.2), l, r2, rfl, by omega, hj, by rw [e2] at ht'; rw [Nat.mul_comm 2, Nat.mul_assoc, Nat.mul_comm 2]; exact ht', fun v hv => hb' v (by simp [hv]), h3, h1, h2, rfl, rfl⟩
        have hwr : IntKind.i64.wrap (2 * (t'.1 : Int)) = 2 * (t'.1 : Int) := z7c ⟨by omega, by omega⟩
        clear hj hjj ht' hb'
        by_cases h0 : l.length = 0
        · repeat' (first|refine zW.zs ?_|refine zW.zb ?_|refine zW.zc ?_|refine zW.zt rfl ?_|refine zW.zf rfl ?_|(refine zW.zd rfl (fun ht => ?_) (fun ht => ?_)<;>try (exfalso;omega))|((first|refine zW.zr ?_|refine zW.zk ?_|refine zW.ze ?_|refine zW.zq ?_|(apply callW.mk_pu; (first | exact (fun _ => z5t _ _ _))) | (apply callW.za; (first | exact (z5t _ _ _))) | ((first|apply zg0|apply zg1|apply zg2|apply zg3|apply zg4|apply zg5|apply zg6|apply zg7)<;>intro ht));all_goals try simp (disch:=first|omega|(simp only [lens,z7,z6,zw,z13,List.length_reverse];first|done|omega)) only [go_sem,reduceEqDiff,Nat.reduceBEq,reduceAdd,reduceMul,reduceSub,reduceLeDiff,reduceToNat,reducePow, q0, q3, cg, hTl, g1, g2, gt, i1, i2, i3, hc2, trsR, hwr, List.length_reverse, Nat.sub_zero]))
          obtain rfl : l = [] := List.eq_nil_of_length_eq_zero h0
          exact fin _ O'.length (.inr he.le) he.app (by rw [hnew]; simp [trs])
        · repeat' (first|refine zW.zs ?_|refine zW.zb ?_|refine zW.zc ?_|refine zW.zt rfl ?_|refine zW.zf rfl ?_|(refine zW.zd rfl (fun ht => ?_) (fun ht => ?_)<;>try (exfalso;omega))|((first|refine zW.zr ?_|refine zW.zk ?_|refine zW.ze ?_|refine zW.zq ?_|(apply callW.mk_pu; (first | exact (fun _ => z5t _ _ _))) | (apply callW.za; (first | exact (z5t _ _ _))) | ((first|apply zg0|apply zg1|apply zg2|apply zg3|apply zg4|apply zg5|apply zg6|apply zg7)<;>intro ht));all_goals try simp (disch:=first|omega|(simp only [lens,z7,z6,zw,z13,List.length_reverse];first|done|omega)) only [go_sem,reduceEqDiff,Nat.reduceBEq,reduceAdd,reduceMul,reduceSub,reduceLeDiff,reduceToNat,reducePow, q0, q3, cg, hTl, g1, g2, gt, i1, i2, i3, hc2, trsR, hwr, List.length_reverse, Nat.sub_zero]))
          exact fin _ (O'.length + 1) (.inr (by have := he.le; omega)) he.app (by rw [hnew]; simp)
      · have hc2 : ¬ (t'.1 : Int) = u.1 := by omega
        have hjj : z1m t' (u :: l) = t' :: u :: l := by simp [z1m, hc1]
        rw [hjj] at hj
        repeat' (first | refine zW.zs ?_ | refine zW.zb ?_ | refine zW.zc ?_ | refine zW.zt rfl ?_ | refine zW.zf rfl ?_ | (refine zW.zd rfl (fun ht => ?_) (fun ht => ?_) <;> try (exfalso; omega)) | ((first | refine zW.regS ?_ | refine zW.zk ?_ | refine zW.ze ?_ | refine zW.zq ?_ | ((first|apply zg0|apply zg1|apply zg2|apply zg3|apply zg4|apply zg5|apply zg6|apply zg7)<;>intro ht));all_goals try simp (disch:=first|omega|(simp only [lens,z7,z6,zw,z13,List.length_reverse];first|done|omega)) only [go_sem,reduceEqDiff,Nat.reduceBEq,reduceAdd,reduceMul,reduceSub,reduceLeDiff,reduceToNat,reducePow, q0, q3, cg, hTl, g1, g2, i1, i2, i3, hc2, trsR]))
        refine ⟨r', ?_, ?_, hr', he⟩
        · rw [<- hj]; simp
        · rw [<- hj]; rw [<- hT] at cg; simpa using cg
/-- A number of trees' leaves. -/
def szs (T : List (Nat × Hash)) : Nat := (T.map (·.1)).sum
def hss (T : List (Nat × Hash)) : List Hash := T.map (·.2)
theorem zou {T : List (Nat × Hash)} {i : Nat} (h : i < T.length) : szs (T.take (i + 1)) = szs (T.take i) + (trsD T i).1 := by
  rw [zh2 h]; simp [szs]
theorem zkm {T : List (Nat × Hash)} {i : Nat} (h : i < T.length) : hss (T.take (i + 1)) = hss (T.take i) ++ [(trsD T i).2] := by
  rw [zh2 h]; simp [hss]
theorem zct : ∀ (T : List (Nat × Hash)) (i : Nat), szs (T.take i) <= szs T
  | [], i => by simp [szs]
  | t :: T, 0 => by simp [szs]
  | t :: T, i + 1 => by have := zct T i; simp [szs] at this ⊢; omega
set_option maxHeartbeats 8000000 in
theorem zja (O : Store) (x : AV) (T : List (Nat × Hash)) (hx : RdSl O 33 (trs T) x) (hl : T.length < 1000) (hs : szs T < 1000000) :
    ACallsTo TC 112 [x] O (.agg [.int .i64 (szs T), zz 32 (hr (hss T))]) O := by
  have r1 := hx.len
  rw [zw] at r1
  unfold z12 at r1
  refine ACallsTo.of_body q15ok (by simp) fun hw _ => ?_
  repeat' (first|refine zW.zs ?_|refine zW.zb ?_|refine zW.zc ?_|refine zW.zt rfl ?_|refine zW.zf rfl ?_|(refine zW.zd rfl (fun ht => ?_) (fun ht => ?_)<;>try (exfalso;omega))|((first|refine zW.zr ?_|refine zW.zk ?_|refine zW.ze ?_|refine zW.zq ?_|((first|apply zg0|apply zg1|apply zg2|apply zg3|apply zg4|apply zg5|apply zg6|apply zg7)<;>intro ht));all_goals try simp (disch:=first|omega|(simp only [lens,z7,z6,zw,z13,List.length_reverse];first|done|omega)) only [go_sem,reduceEqDiff,Nat.reduceBEq,reduceAdd,reduceMul,reduceSub,reduceLeDiff,reduceToNat,reducePow, r1]))
  refine zW.loop (fun m Z O' => ∃ (i : Nat) (v : AV), m + i = T.length /\ O'[O.length]? = some (some [[.int .i64 0, .nilsl]]) /\ O'[O.length + 1]? = some (some [[.int .i64 (szs (T.take i)), v]]) ∧
    OwnR 32 (O.length + 2) O' v (hr (hss (T.take i))) /\ Ext O O' /\ (∀ q, q < O.length -> O'[q]? = O[q]?) /\ Z 0 = x /\ Z 2 = .ptr O.length 0 0 /\ Z 3 = .ptr (O.length + 1) 0 0 /\ Z 4 = .int .i64 i) T.length ?_ ?_
  · exact ⟨0, .nilsl, by omega, by simp, by simp [szs], OwnR.nil, (Ext.refl O).app, fun q hq => gapp hq, by simp (disch:=first|omega|(simp only [lens,z7,z6,zw,z13,List.length_reverse];first|done|omega)) only [go_sem,reduceEqDiff,Nat.reduceBEq,reduceAdd,reduceMul,reduceSub,reduceLeDiff,reduceToNat,reducePow], by simp (disch:=first|omega|(simp only [lens,z7,z6,zw,z13,List.length_reverse];first|done|omega)) only [go_sem,reduceEqDiff,Nat.reduceBEq,reduceAdd,reduceMul,reduceSub,reduceLeDiff,reduceToNat,reducePow], by simp (disch:=first|omega|(simp only [lens,z7,z6,zw,z13,List.length_reverse];first|done|omega)) only [go_sem,reduceEqDiff,Nat.reduceBEq,reduceAdd,reduceMul,reduceSub,reduceLeDiff,reduceToNat,reducePow], by simp (disch:=first|omega|(simp only [lens,z7,z6,zw,z13,List.length_reverse];first|done|omega)) only [go_sem,reduceEqDiff,Nat.reduceBEq,reduceAdd,reduceMul,reduceSub,reduceLeDiff,reduceToNat,reducePow]; rfl⟩
  · rintro m Z O' ⟨i, v, hm, c0, c1, hO, he, hkp, q0, q2, q3, q4⟩
    have d0 := slen c0
    have d1 := slen c1
    have hsz := zct T i
    by_cases hi : i < T.length
    · have hsz2 := zct T (i + 1)
      have hst := zou hi
      obtain ⟨v', O2, ha, hO2, hk2, hE2, hl2⟩ := hO.app (ys := [hc (trsD T i).2]) (by omega) (by simp) (by rw [z6, hss, List.length_map, List.length_take]; simp; omega)
      have hcat : hr (hss (T.take i)) ++ [hc (trsD T i).2] = hr (hss (T.take (i + 1))) := by rw [zkm hi, hr_app]; rfl
      rw [hcat] at hO2
      have c1' := hk2 (O.length + 1) (by omega)
      rw [c1] at c1'
      have c0' := hk2 O.length (by omega)
      rw [c0] at c0'
      have z0 := hO2.cells
      unfold cellsOf at z0
      have hadd : ((szs (T.take i) : Nat) : Int) + ((trsD T i).1 : Nat) = ((szs (T.take (i + 1)) : Nat) : Int) := by omega
      generalize hs2 : szs (T.take (i + 1)) = s2 at *
      generalize szs (T.take i) = s1 at *
      rcases hx with (⟨rfl, hnil⟩ | ⟨ex, rfl⟩) | ⟨r, off, lim, o, rfl, hg, h1, h2⟩
      · exact absurd (trs_nil_iff.1 hnil) (by intro e; subst e; simp at hi)
      · repeat' (first|refine zW.zs ?_|refine zW.zb ?_|refine zW.zc ?_|refine zW.zt rfl ?_|refine zW.zf rfl ?_|(refine zW.zd rfl (fun ht => ?_) (fun ht => ?_)<;>try (exfalso;omega))|((first|refine zW.zr ?_|refine zW.zk ?_|refine zW.ze ?_|refine zW.zq ?_|((first|apply zg0|apply zg1|apply zg2|apply zg3|apply zg4|apply zg5|apply zg6|apply zg7)<;>intro ht));all_goals try simp (disch:=first|omega|(simp only [lens,z7,z6,zw,z13,List.length_reverse];first|done|omega)) only [go_sem,reduceEqDiff,Nat.reduceBEq,reduceAdd,reduceMul,reduceSub,reduceLeDiff,reduceToNat,reducePow, q0, q2, q3, q4, r1, c0, c1, ha, c1', c0', z0, trsR, hadd]))
        exact ⟨T.length - (i + 1), by omega, i + 1, v', by omega, by rw [hs2], hO2.set (by omega), (hE2 O (by omega) he).set (by omega), fun q hq => by rw [z1e (by omega), hk2 q (by omega)]; exact hkp q hq, by simp⟩
      · have hgr := hkp r (slen hg)
        rw [hg] at hgr
        have hgr2 := hk2 r (by have := slen hg; omega)
        rw [hgr] at hgr2
        have hrl := slen hg
        have hro := row_at h2 (i := i) (by rw [zw]; exact hi)
        rw [zp1 hi] at hro
        rw [zw] at h1
        have hne : ¬ r = O.length + 1 := by omega
        repeat' (first|refine zW.zs ?_|refine zW.zb ?_|refine zW.zc ?_|refine zW.zt rfl ?_|refine zW.zf rfl ?_|(refine zW.zd rfl (fun ht => ?_) (fun ht => ?_)<;>try (exfalso;omega))|((first|refine zW.zr ?_|refine zW.zk ?_|refine zW.ze ?_|refine zW.zq ?_|((first|apply zg0|apply zg1|apply zg2|apply zg3|apply zg4|apply zg5|apply zg6|apply zg7)<;>intro ht));all_goals try simp (disch:=first|omega|(simp only [lens,z7,z6,zw,z13,List.length_reverse];first|done|omega)) only [go_sem,reduceEqDiff,Nat.reduceBEq,reduceAdd,reduceMul,reduceSub,reduceLeDiff,reduceToNat,reducePow, q0, q2, q3, q4, r1, c0, c1, ha, c1', c0', z0, trsR, hadd, hgr, hgr2, hro, zw]))
        exact ⟨T.length - (i + 1), by omega, i + 1, v', by omega, by rw [hs2], hO2.set (by omega), (hE2 O (by omega) he).set (by omega), fun q hq => by rw [z1e (by omega), hk2 q (by omega)]; exact hkp q hq, by simp⟩
    · have hil : i = T.length := by omega
      subst hil
      rw [List.take_of_length_le (Nat.le_refl _)] at c1 hO
      have z0 := hO.cells
      unfold cellsOf at z0
      repeat' (first|refine zW.zs ?_|refine zW.zb ?_|refine zW.zc ?_|refine zW.zt rfl ?_|refine zW.zf rfl ?_|(refine zW.zd rfl (fun ht => ?_) (fun ht => ?_)<;>try (exfalso;omega))|((first|refine zW.zr ?_|refine zW.zk ?_|refine zW.ze ?_|refine zW.zq ?_|((first|apply zg0|apply zg1|apply zg2|apply zg3|apply zg4|apply zg5|apply zg6|apply zg7)<;>intro ht));all_goals try simp (disch:=first|omega|(simp only [lens,z7,z6,zw,z13,List.length_reverse];first|done|omega)) only [go_sem,reduceEqDiff,Nat.reduceBEq,reduceAdd,reduceMul,reduceSub,reduceLeDiff,reduceToNat,reducePow, q0, q2, q3, q4, r1, c0, c1, z0]))
      exact Ext.all hw (he.set (Nat.le_refl _)) fun news e => drA (drsc (FrzD.same (by simp [RL])) (drs1 ((hO.set (by omega)).fr e (by omega) (z3f _))))
end Am
end Go.Proofs.YtncenefkbpelbaaDoor
end
section
/- Ranges: contracts: the reference's Extend. -/
namespace Go.Proofs.YtncenefkbpelbaaDoor
namespace Am
attribute [local irreducible] ACallsTo ACallsP
theorem zc0 {k sz : Nat} {es : List (List AV)} (h : RLss k es) : RL k (zz sz es) := by
  unfold zz
  split
  · simp [RL]
  · simpa only [RL] using h
theorem zoc {sz : Nat} {es : List (List AV)} {O : Store} : RdSl O sz es (zz sz es) := .of (z27 sz es)
theorem RdSl.rel {O : Store} {sz : Nat} {es : List (List AV)} {x : AV} (h : RdSl O sz es x) : z4h O sz x = some es := by
  rcases h with (⟨rfl, rfl⟩ | ⟨ex, rfl⟩) | ⟨r, off, lim, o, rfl, hg, h1, h2⟩
  · rfl
  · simp [z4h]
  · simp [z4h, z9z, hg, h1, h2]
/-- One leaf more. -/
theorem zmm {n : Nat} {hs : List Hash} {h : Hash} (hn : n + 1 < 8192) (hl : hs.length = pc 13 n) : (z1m (1, h) (opn n hs).reverse).reverse = opn (n + 1) (z3k n hs.reverse h).reverse := by
  unfold opn
  rw [List.reverse_reverse, List.reverse_reverse, zen 13 1 n hs.reverse h (by decide) hn (by rw [List.length_reverse]; exact hl)]
theorem zmn {n : Nat} {hs : List Hash} (hn : n < 8192) (hl : hs.length = pc 13 n) : szs (opn n hs) = n /\ hss (opn n hs) = hs /\ (opn n hs).length = hs.length := by
  obtain ⟨h1, h2⟩ := za3 13 1 n hs.reverse hn (by rw [List.length_reverse]; exact hl)
  have h3 : hss (opn n hs) = hs := by
    unfold hss opn
    rw [List.map_reverse, h2, List.reverse_reverse]
  refine ⟨?_, h3, ?_⟩
  · unfold szs opn
    rw [List.map_reverse, List.sum_reverse, h1, Nat.one_mul]
  · have := congrArg List.length h3
    unfold hss at this
    rwa [List.length_map] at this
theorem zh0 : ∀ (l : List (Nat × Hash)) (u : Nat × Hash), u ∈ l -> u.1 <= szs l
  | [], u, h => by simp at h
  | w :: l, u, h => by
    simp only [szs, List.map_cons, List.sum_cons]
    rcases List.mem_cons.1 h with rfl | h
    · omega
    · have := zh0 l u h; simp only [szs] at this; omega
/-- What the reference's Extend answers. -/
def extB (n : Int) (hs l : List Hash) : AV :=
  if z1u n hs.length = false then rg 0 .nilsl 2
  else if 4096 < n + l.length then rg 0 .nilsl 60
  else rg (n + l.length) (zz 32 (hr (extR n.toNat hs.reverse l).reverse)) 0
set_option maxHeartbeats 8000000 in
theorem znc (O : Store) (n : Int) (hs l : List Hash) (x y : AV) (hx : SlV 32 (hr hs) x) (hy : SlV 32 (hr l) y) (hn : -9223372036854775808 <= n /\ n <= 9223372036854775807) (hl : l.length < 1000000) :
    ACallsTo TC 66 [.agg [.int .i64 n, x], y] O (extB n hs l) O := by
  have r1 := hy.len
  rw [z6] at r1
  unfold z12 at r1
  have hV := fun O => z9r O n hs x (.of hx)
  unfold extB
  by_cases hv : z1u n hs.length = true
  · rw [if_neg (by simp [hv])]
    rw [hv] at hV
    have hv' := of_decide_eq_true hv
    obtain ⟨n, rfl⟩ : ∃ k : Nat, n = k := ⟨n.toNat, by omega⟩
    rw [Int.toNat_natCast] at hv' ⊢
    have hhs : hs.length = pc 13 n := by rw [hv'.2.2, pc13 (by omega)]
    by_cases hf : 4096 < (n : Int) + l.length
    · rw [if_pos hf]
      refine ACallsTo.of_body qxok (by simp) fun hw _ => ?_
      repeat' (first|refine zW.zs ?_|refine zW.zb ?_|refine zW.zc ?_|refine zW.zt rfl ?_|refine zW.zf rfl ?_|(refine zW.zd rfl (fun ht => ?_) (fun ht => ?_)<;>try (exfalso;omega))|((first|refine zW.zr ?_|refine zW.zk ?_|refine zW.ze ?_|refine zW.zq ?_|(apply callW.mk_pu; (first | exact (fun _ => hV _))) | (apply callW.za; (first | exact (hV _))) | ((first|apply zg0|apply zg1|apply zg2|apply zg3|apply zg4|apply zg5|apply zg6|apply zg7)<;>intro ht));all_goals try simp (disch:=first|omega|(simp only [lens,z7,z6,zw,z13,List.length_reverse];first|done|omega)) only [go_sem,reduceEqDiff,Nat.reduceBEq,reduceAdd,reduceMul,reduceSub,reduceLeDiff,reduceToNat,reducePow, r1]))
      exact DownV.pure hw (z6f (by simp [RL]))
    · rw [if_neg hf]
      have hadd : (n : Int) + l.length = ((n + l.length : Nat) : Int) := by omega
      rw [hadd]
      have hO := fun O => zmk O n hs x hx (by omega) hhs
      have hlens : ∀ i, i <= l.length -> (extR n hs.reverse (l.take i)).reverse.length = pc 13 (n + i) := fun i hi => by
        rw [List.length_reverse, z66 13 n hs.reverse (l.take i) (by rw [List.length_take]; omega) (by rw [List.length_reverse]; exact hhs), List.length_take, Nat.min_eq_left (by omega)]
      refine ACallsTo.of_body qxok (by simp) fun hw _ => ?_
      repeat' (first|refine zW.zs ?_|refine zW.zb ?_|refine zW.zc ?_|refine zW.zt rfl ?_|refine zW.zf rfl ?_|(refine zW.zd rfl (fun ht => ?_) (fun ht => ?_)<;>try (exfalso;omega))|((first|refine zW.zr ?_|refine zW.zk ?_|refine zW.ze ?_|refine zW.zq ?_|(apply callW.mk_pu; (first | exact (fun _ => hV _) | exact (fun _ => hO _))) | (apply callW.za; (first | exact (hV _) | exact (hO _))) | ((first|apply zg0|apply zg1|apply zg2|apply zg3|apply zg4|apply zg5|apply zg6|apply zg7)<;>intro ht));all_goals try simp (disch:=first|omega|(simp only [lens,z7,z6,zw,z13,List.length_reverse];first|done|omega)) only [go_sem,reduceEqDiff,Nat.reduceBEq,reduceAdd,reduceMul,reduceSub,reduceLeDiff,reduceToNat,reducePow, r1]))
      refine zW.loop (fun m Z O' => ∃ (i : Nat) (v : AV), m + i = l.length /\ Ext O O' /\ O'[O.length + 1]? = some (some [[.int .i64 0, .nilsl]]) /\ RdSl O' 33 (trs (opn (n + i) (extR n hs.reverse (l.take i)).reverse)) v ∧
        Z 1 = y /\ Z 4 = .ptr (O.length + 1) 0 0 /\ Z 5 = .int .i64 0 /\ Z 6 = v /\ Z 7 = .int .i64 i) l.length ?_ ?_
      · refine ⟨0, zz 33 (trs (opn n hs)), by omega, ?_, ?_, ?_, by simp (disch:=first|omega|(simp only [lens,z7,z6,zw,z13,List.length_reverse];first|done|omega)) only [go_sem,reduceEqDiff,Nat.reduceBEq,reduceAdd,reduceMul,reduceSub,reduceLeDiff,reduceToNat,reducePow], by simp (disch:=first|omega|(simp only [lens,z7,z6,zw,z13,List.length_reverse];first|done|omega)) only [go_sem,reduceEqDiff,Nat.reduceBEq,reduceAdd,reduceMul,reduceSub,reduceLeDiff,reduceToNat,reducePow], by simp (disch:=first|omega|(simp only [lens,z7,z6,zw,z13,List.length_reverse];first|done|omega)) only [go_sem,reduceEqDiff,Nat.reduceBEq,reduceAdd,reduceMul,reduceSub,reduceLeDiff,reduceToNat,reducePow], by simp (disch:=first|omega|(simp only [lens,z7,z6,zw,z13,List.length_reverse];first|done|omega)) only [go_sem,reduceEqDiff,Nat.reduceBEq,reduceAdd,reduceMul,reduceSub,reduceLeDiff,reduceToNat,reducePow], by simp (disch:=first|omega|(simp only [lens,z7,z6,zw,z13,List.length_reverse];first|done|omega)) only [go_sem,reduceEqDiff,Nat.reduceBEq,reduceAdd,reduceMul,reduceSub,reduceLeDiff,reduceToNat,reducePow]; rfl⟩
        · exact (Ext.refl O).app
        · simp
        · simp only [List.take_zero, extR, List.reverse_reverse, Nat.add_zero]
          exact zoc
      · rintro m Z O' ⟨i, v, hm, he, c1, hR, q1, q4, q5, q6, q7⟩
        have d1 := slen c1
        have hle := he.le
        obtain ⟨s1, s2, s3⟩ := zmn (n := n + i) (hs := (extR n hs.reverse (l.take i)).reverse) (by omega) (hlens i (by omega))
        have hp13 := z5s 13 (n + i)
        rw [hlens i (by omega)] at s3
        by_cases hi : i < l.length
        · obtain ⟨ex, rfl⟩ := hy.vsl (by rw [z6]; omega)
          have hpush := zmm (n := n + i) (hs := (extR n hs.reverse (l.take i)).reverse) (h := hd l i) (by omega) (hlens i (by omega))
          have hnext : z3k (n + i) (extR n hs.reverse (l.take i)) (hd l i) = extR n hs.reverse (l.take (i + 1)) := by
            rw [z6m hi, zaw, List.length_take, Nat.min_eq_left (by omega)]; rfl
          rw [List.reverse_reverse, hnext] at hpush
          generalize opn (n + i) (extR n hs.reverse (l.take i)).reverse = T at *
          have hmem := zh0 T
          have hJ : ∀ O2 r, O2[r]? = some (some (trs T ++ [.int .i64 1 :: hc (hd l i)])) -> ACallsP TC 111 [.sl r 0 (T.length + 1) none 33] O2 (fun v O' => ∃ r', v = .sl r' 0 (z1m (1, hd l i) T.reverse).length none 33 /\ O'[r']? = some (some (trs (z1m (1, hd l i) T.reverse).reverse)) /\ (r' = r \/ O2.length <= r') /\ Ext O2 O') := fun O2 r hg => by
            have := zl8 O2 r (1, hd l i) T.reverse (by rw [hg, List.reverse_reverse, zcx]; rfl) (by rw [List.length_reverse]; omega) (fun u hu => by
              rcases List.mem_cons.1 hu with rfl | hu
              · show 1 < 1000000; decide
              · have := hmem u (by simpa using hu); omega) (by
              rw [List.length_reverse, Nat.one_mul]
              have := Nat.pow_le_pow_right (n := 2) (by decide) (show T.length <= 13 by omega)
              omega)
            rwa [List.length_reverse] at this
          have hJx : ∀ (O2 : Store) (r : Nat), ∃ v O', ∃ r', v = AV.sl r' 0 (z1m (1, hd l i) T.reverse).length none 33 /\ O'[r']? = some (some (trs (z1m (1, hd l i) T.reverse).reverse)) /\ (r' = r \/ O2.length <= r') /\ Ext O2 O' := fun O2 r =>
            ⟨_, O2 ++ [some (trs (z1m (1, hd l i) T.reverse).reverse)], O2.length, rfl, by simp, .inr (Nat.le_refl _), _, rfl⟩
          have rdO : ∀ {O2 : Store} {r' : Nat}, O2[r']? = some (some (trs (z1m (1, hd l i) T.reverse).reverse)) -> RdSl O2 33 (trs (z1m (1, hd l i) T.reverse).reverse) (.sl r' 0 (z1m (1, hd l i) T.reverse).length none 33) := fun h =>
            .inr ⟨_, 0, none, _, by rw [zw, List.length_reverse], h, by rw [zw]; omega, by simp⟩
          rcases hR with (⟨hv1, hnil⟩ | ⟨ex2, hv1⟩) | ⟨r0, off, lim, o, hv1, hg, h1, h2⟩
          · subst hv1
            obtain rfl := trs_nil_iff.1 hnil
            repeat' (first|refine zW.zs ?_|refine zW.zb ?_|refine zW.zc ?_|refine zW.zt rfl ?_|refine zW.zf rfl ?_|(refine zW.zd rfl (fun ht => ?_) (fun ht => ?_)<;>try (exfalso;omega))|((first|refine zW.zr ?_|refine zW.zk ?_|refine zW.ze ?_|refine zW.zq ?_|((first|apply zg0|apply zg1|apply zg2|apply zg3|apply zg4|apply zg5|apply zg6|apply zg7)<;>intro ht));all_goals try simp (disch:=first|omega|(simp only [lens,z7,z6,zw,z13,List.length_reverse];first|done|omega)) only [go_sem,reduceEqDiff,Nat.reduceBEq,reduceAdd,reduceMul,reduceSub,reduceLeDiff,reduceToNat,reducePow, q1, q4, q5, q6, q7, r1, c1]))
            refine callW.mkP (hJ _ (O'.length) (by simp [trs])) (hJx _ _) ?_
            rintro _ O3 ⟨r', rfl, hg3, hr3, he3⟩
            obtain ⟨y3, rfl⟩ := he3
            repeat' (first|refine zW.zs ?_|refine zW.zb ?_|refine zW.zc ?_|refine zW.zt rfl ?_|refine zW.zf rfl ?_|(refine zW.zd rfl (fun ht => ?_) (fun ht => ?_)<;>try (exfalso;omega))|((first|refine zW.zr ?_|refine zW.zk ?_|refine zW.ze ?_|refine zW.zq ?_|((first|apply zg0|apply zg1|apply zg2|apply zg3|apply zg4|apply zg5|apply zg6|apply zg7)<;>intro ht));all_goals try simp (disch:=first|omega|(simp only [lens,z7,z6,zw,z13,List.length_reverse];first|done|omega)) only [go_sem,reduceEqDiff,Nat.reduceBEq,reduceAdd,reduceMul,reduceSub,reduceLeDiff,reduceToNat,reducePow, q1, q4, q5, q6, q7, r1, c1]))
            exact ⟨l.length - (i + 1), by omega, i + 1, _, by omega, he.app, by rw [show n + (i + 1) = n + i + 1 by omega, <- hpush]; exact rdO (by simpa using hg3), rfl, by simp⟩
          · subst hv1
            by_cases h0 : T.length = 0
            · obtain rfl := List.eq_nil_of_length_eq_zero h0
              repeat' (first|refine zW.zs ?_|refine zW.zb ?_|refine zW.zc ?_|refine zW.zt rfl ?_|refine zW.zf rfl ?_|(refine zW.zd rfl (fun ht => ?_) (fun ht => ?_)<;>try (exfalso;omega))|((first|refine zW.zr ?_|refine zW.zk ?_|refine zW.ze ?_|refine zW.zq ?_|((first|apply zg0|apply zg1|apply zg2|apply zg3|apply zg4|apply zg5|apply zg6|apply zg7)<;>intro ht));all_goals try simp (disch:=first|omega|(simp only [lens,z7,z6,zw,z13,List.length_reverse];first|done|omega)) only [go_sem,reduceEqDiff,Nat.reduceBEq,reduceAdd,reduceMul,reduceSub,reduceLeDiff,reduceToNat,reducePow, q1, q4, q5, q6, q7, r1, c1, zh6]))
              refine callW.mkP (hJ _ (O'.length) (by simp [trs])) (hJx _ _) ?_
              rintro _ O3 ⟨r', rfl, hg3, hr3, he3⟩
              obtain ⟨y3, rfl⟩ := he3
              repeat' (first|refine zW.zs ?_|refine zW.zb ?_|refine zW.zc ?_|refine zW.zt rfl ?_|refine zW.zf rfl ?_|(refine zW.zd rfl (fun ht => ?_) (fun ht => ?_)<;>try (exfalso;omega))|((first|refine zW.zr ?_|refine zW.zk ?_|refine zW.ze ?_|refine zW.zq ?_|((first|apply zg0|apply zg1|apply zg2|apply zg3|apply zg4|apply zg5|apply zg6|apply zg7)<;>intro ht));all_goals try simp (disch:=first|omega|(simp only [lens,z7,z6,zw,z13,List.length_reverse];first|done|omega)) only [go_sem,reduceEqDiff,Nat.reduceBEq,reduceAdd,reduceMul,reduceSub,reduceLeDiff,reduceToNat,reducePow, q1, q4, q5, q6, q7, r1, c1]))
              exact ⟨l.length - (i + 1), by omega, i + 1, _, by omega, he.app, by rw [show n + (i + 1) = n + i + 1 by omega, <- hpush]; exact rdO (by simpa using hg3), rfl, by simp⟩
            · repeat' (first|refine zW.zs ?_|refine zW.zb ?_|refine zW.zc ?_|refine zW.zt rfl ?_|refine zW.zf rfl ?_|(refine zW.zd rfl (fun ht => ?_) (fun ht => ?_)<;>try (exfalso;omega))|((first|refine zW.zr ?_|refine zW.zk ?_|refine zW.ze ?_|refine zW.zq ?_|((first|apply zg0|apply zg1|apply zg2|apply zg3|apply zg4|apply zg5|apply zg6|apply zg7)<;>intro ht));all_goals try simp (disch:=first|omega|(simp only [lens,z7,z6,zw,z13,List.length_reverse];first|done|omega)) only [go_sem,reduceEqDiff,Nat.reduceBEq,reduceAdd,reduceMul,reduceSub,reduceLeDiff,reduceToNat,reducePow, q1, q4, q5, q6, q7, r1, c1]))
              refine callW.mkP (hJ _ (O'.length + 1) (by simp)) (hJx _ _) ?_
              rintro _ O3 ⟨r', rfl, hg3, hr3, he3⟩
              obtain ⟨y3, rfl⟩ := he3
              repeat' (first|refine zW.zs ?_|refine zW.zb ?_|refine zW.zc ?_|refine zW.zt rfl ?_|refine zW.zf rfl ?_|(refine zW.zd rfl (fun ht => ?_) (fun ht => ?_)<;>try (exfalso;omega))|((first|refine zW.zr ?_|refine zW.zk ?_|refine zW.ze ?_|refine zW.zq ?_|((first|apply zg0|apply zg1|apply zg2|apply zg3|apply zg4|apply zg5|apply zg6|apply zg7)<;>intro ht));all_goals try simp (disch:=first|omega|(simp only [lens,z7,z6,zw,z13,List.length_reverse];first|done|omega)) only [go_sem,reduceEqDiff,Nat.reduceBEq,reduceAdd,reduceMul,reduceSub,reduceLeDiff,reduceToNat,reducePow, q1, q4, q5, q6, q7, r1, c1]))
              exact ⟨l.length - (i + 1), by omega, i + 1, _, by omega, he.app, by rw [show n + (i + 1) = n + i + 1 by omega, <- hpush]; exact rdO (by simpa using hg3), rfl, by simp⟩
          · subst hv1
            have dg := slen hg
            by_cases h0 : T.length = 0
            · obtain rfl := List.eq_nil_of_length_eq_zero h0
              rw [zh6] at h1 h2
              repeat' (first|refine zW.zs ?_|refine zW.zb ?_|refine zW.zc ?_|refine zW.zt rfl ?_|refine zW.zf rfl ?_|(refine zW.zd rfl (fun ht => ?_) (fun ht => ?_)<;>try (exfalso;omega))|((first|refine zW.zr ?_|refine zW.zk ?_|refine zW.ze ?_|refine zW.zq ?_|((first|apply zg0|apply zg1|apply zg2|apply zg3|apply zg4|apply zg5|apply zg6|apply zg7)<;>intro ht));all_goals try simp (disch:=first|omega|(simp only [lens,z7,z6,zw,z13,List.length_reverse];first|done|omega)) only [go_sem,reduceEqDiff,Nat.reduceBEq,reduceAdd,reduceMul,reduceSub,reduceLeDiff,reduceToNat,reducePow, q1, q4, q5, q6, q7, r1, c1, hg, h1, h2]))
              refine callW.mkP (hJ _ (O'.length) (by simp [trs])) (hJx _ _) ?_
              rintro _ O3 ⟨r', rfl, hg3, hr3, he3⟩
              obtain ⟨y3, rfl⟩ := he3
              repeat' (first|refine zW.zs ?_|refine zW.zb ?_|refine zW.zc ?_|refine zW.zt rfl ?_|refine zW.zf rfl ?_|(refine zW.zd rfl (fun ht => ?_) (fun ht => ?_)<;>try (exfalso;omega))|((first|refine zW.zr ?_|refine zW.zk ?_|refine zW.ze ?_|refine zW.zq ?_|((first|apply zg0|apply zg1|apply zg2|apply zg3|apply zg4|apply zg5|apply zg6|apply zg7)<;>intro ht));all_goals try simp (disch:=first|omega|(simp only [lens,z7,z6,zw,z13,List.length_reverse];first|done|omega)) only [go_sem,reduceEqDiff,Nat.reduceBEq,reduceAdd,reduceMul,reduceSub,reduceLeDiff,reduceToNat,reducePow, q1, q4, q5, q6, q7, r1, c1]))
              exact ⟨l.length - (i + 1), by omega, i + 1, _, by omega, he.app, by rw [show n + (i + 1) = n + i + 1 by omega, <- hpush]; exact rdO (by simpa using hg3), rfl, by simp⟩
            · rw [zw] at h1 h2
              repeat' (first|refine zW.zs ?_|refine zW.zb ?_|refine zW.zc ?_|refine zW.zt rfl ?_|refine zW.zf rfl ?_|(refine zW.zd rfl (fun ht => ?_) (fun ht => ?_)<;>try (exfalso;omega))|((first|refine zW.zr ?_|refine zW.zk ?_|refine zW.ze ?_|refine zW.zq ?_|((first|apply zg0|apply zg1|apply zg2|apply zg3|apply zg4|apply zg5|apply zg6|apply zg7)<;>intro ht));all_goals try simp (disch:=first|omega|(simp only [lens,z7,z6,zw,z13,List.length_reverse];first|done|omega)) only [go_sem,reduceEqDiff,Nat.reduceBEq,reduceAdd,reduceMul,reduceSub,reduceLeDiff,reduceToNat,reducePow, q1, q4, q5, q6, q7, r1, c1, hg, h1, h2]))
              refine callW.mkP (hJ _ (O'.length + 1) (by simp)) (hJx _ _) ?_
              rintro _ O3 ⟨r', rfl, hg3, hr3, he3⟩
              obtain ⟨y3, rfl⟩ := he3
              repeat' (first|refine zW.zs ?_|refine zW.zb ?_|refine zW.zc ?_|refine zW.zt rfl ?_|refine zW.zf rfl ?_|(refine zW.zd rfl (fun ht => ?_) (fun ht => ?_)<;>try (exfalso;omega))|((first|refine zW.zr ?_|refine zW.zk ?_|refine zW.ze ?_|refine zW.zq ?_|((first|apply zg0|apply zg1|apply zg2|apply zg3|apply zg4|apply zg5|apply zg6|apply zg7)<;>intro ht));all_goals try simp (disch:=first|omega|(simp only [lens,z7,z6,zw,z13,List.length_reverse];first|done|omega)) only [go_sem,reduceEqDiff,Nat.reduceBEq,reduceAdd,reduceMul,reduceSub,reduceLeDiff,reduceToNat,reducePow, q1, q4, q5, q6, q7, r1, c1]))
              exact ⟨l.length - (i + 1), by omega, i + 1, _, by omega, he.app, by rw [show n + (i + 1) = n + i + 1 by omega, <- hpush]; exact rdO (by simpa using hg3), rfl, by simp⟩
        · have hil : i = l.length := by omega
          subst hil
          rw [List.take_of_length_le (Nat.le_refl _)] at hR s1 s2 s3
          have hC := fun y => zja (O' ++ y) v _ hR.app (by omega) (by omega)
          rw [s1, s2] at hC
          have hC0 := hC []
          rw [List.append_nil] at hC0
          repeat' (first|refine zW.zs ?_|refine zW.zb ?_|refine zW.zc ?_|refine zW.zt rfl ?_|refine zW.zf rfl ?_|(refine zW.zd rfl (fun ht => ?_) (fun ht => ?_)<;>try (exfalso;omega))|((first|refine zW.zr ?_|refine zW.zk ?_|refine zW.ze ?_|refine zW.zq ?_|(apply callW.mk_pu; (first | exact (fun _ => hC0))) | (apply callW.za; (first | exact (hC0))) | ((first|apply zg0|apply zg1|apply zg2|apply zg3|apply zg4|apply zg5|apply zg6|apply zg7)<;>intro ht));all_goals try simp (disch:=first|omega|(simp only [lens,z7,z6,zw,z13,List.length_reverse];first|done|omega)) only [go_sem,reduceEqDiff,Nat.reduceBEq,reduceAdd,reduceMul,reduceSub,reduceLeDiff,reduceToNat,reducePow, q1, q4, q5, q6, q7, r1, c1]))
          exact Ext.pure hw (he.set (by omega)) (z6f (zc0 (z3f _)))
  · have hv0 : z1u n hs.length = false := by simpa using hv
    rw [if_pos hv0]
    rw [hv0] at hV
    refine ACallsTo.of_body qxok (by simp) fun hw _ => ?_
    repeat' (first|refine zW.zs ?_|refine zW.zb ?_|refine zW.zc ?_|refine zW.zt rfl ?_|refine zW.zf rfl ?_|(refine zW.zd rfl (fun ht => ?_) (fun ht => ?_)<;>try (exfalso;omega))|((first|refine zW.zr ?_|refine zW.zk ?_|refine zW.ze ?_|refine zW.zq ?_|(apply callW.mk_pu; (first | exact (fun _ => hV _))) | (apply callW.za; (first | exact (hV _))) | ((first|apply zg0|apply zg1|apply zg2|apply zg3|apply zg4|apply zg5|apply zg6|apply zg7)<;>intro ht));all_goals try simp (disch:=first|omega|(simp only [lens,z7,z6,zw,z13,List.length_reverse];first|done|omega)) only [go_sem,reduceEqDiff,Nat.reduceBEq,reduceAdd,reduceMul,reduceSub,reduceLeDiff,reduceToNat,reducePow, r1]))
    exact DownV.pure hw (z6f (by simp [RL]))
end Am
end Go.Proofs.YtncenefkbpelbaaDoor
end
section
/- Ranges: contracts: Of, Append, Same, the parts, Part. -/
namespace Go.Proofs.YtncenefkbpelbaaDoor
namespace Am
attribute [local irreducible] ACallsTo ACallsP
theorem zgi {sz : Nat} {es : List (List AV)} : cellsOf (zz sz es) = some [zz sz es] := by
  unfold zz; split <;> rfl
theorem zjj (n : Int) (hs l : List Hash) (x : AV) : ∃ n' z e, extA n hs l x = .tup [.agg [.int .i64 n', z], .int .i64 e] /\ (∀ k, RL k z) /\ cellsOf z = some [z] := by
  unfold extA
  split
  · exact ⟨0, .nilsl, 2, rfl, fun k => by simp [RL], rfl⟩
  · split
    · exact ⟨0, .nilsl, 60, rfl, fun k => by simp [RL], rfl⟩
    · exact ⟨_, _, 0, rfl, fun k => rl_zv _ _ _, zhe _ _ _⟩
theorem Of_to (O : Store) (l : List Hash) (y : AV) (hy : SlV 32 (hr l) y) (hl : l.length < 1000000) : ACallsTo TC 23 [y] O (extA 0 [] l .nilsl) O := by
  have hE := fun O => zd6 O 0 [] l .nilsl y (.of (.inl ⟨rfl, rfl⟩)) hy (by omega) (by simp) hl
  obtain ⟨n', z, e, h, hz, hcz⟩ := zjj 0 [] l .nilsl
  rw [h] at hE ⊢
  unfold cellsOf at hcz
  refine ACallsTo.of_body qvok (by simp) fun hw _ => ?_
  repeat' (first|refine zW.zs ?_|refine zW.zb ?_|refine zW.zc ?_|refine zW.zt rfl ?_|refine zW.zf rfl ?_|(refine zW.zd rfl (fun ht => ?_) (fun ht => ?_)<;>try (exfalso;omega))|((first|refine zW.zr ?_|refine zW.zk ?_|refine zW.ze ?_|refine zW.zq ?_|(apply callW.mk_pu; (first | exact (fun _ => hE _))) | (apply callW.za; (first | exact (hE _))) | ((first|apply zg0|apply zg1|apply zg2|apply zg3|apply zg4|apply zg5|apply zg6|apply zg7)<;>intro ht));all_goals try simp (disch:=first|omega|(simp only [lens,z7,z6,zw,z13,List.length_reverse];first|done|omega)) only [go_sem,reduceEqDiff,Nat.reduceBEq,reduceAdd,reduceMul,reduceSub,reduceLeDiff,reduceToNat,reducePow, hcz]))
  exact DownV.pure hw (z6f (hz _))
set_option maxHeartbeats 4000000 in
theorem zng (O : Store) (n k : Int) (A B : List Hash) (x y : AV) (hx : SlV 32 (hr A) x) (hy : SlV 32 (hr B) y) (hl : A.length < 1000000) (hl2 : B.length < 1000000) :
    ACallsTo TC 69 [.agg [.int .i64 n, x], .agg [.int .i64 k, y]] O (.bool (decide (n = k /\ A = B))) O := by
  refine ACallsTo.of_body qwok (by simp) fun hw _ => ?_
  have r1 := hx.len
  have r2 := hy.len
  rw [z6] at r1 r2
  unfold z12 at r1 r2
  by_cases hnk : n = k
  · by_cases hL : A.length = B.length
    · subst hnk
      repeat' (first|refine zW.zs ?_|refine zW.zb ?_|refine zW.zc ?_|refine zW.zt rfl ?_|refine zW.zf rfl ?_|(refine zW.zd rfl (fun ht => ?_) (fun ht => ?_)<;>try (exfalso;omega))|((first|refine zW.zr ?_|refine zW.zk ?_|refine zW.ze ?_|refine zW.zq ?_|((first|apply zg0|apply zg1|apply zg2|apply zg3|apply zg4|apply zg5|apply zg6|apply zg7)<;>intro ht));all_goals try simp (disch:=first|omega|(simp only [lens,z7,z6,zw,z13,List.length_reverse];first|done|omega)) only [go_sem,reduceEqDiff,Nat.reduceBEq,reduceAdd,reduceMul,reduceSub,reduceLeDiff,reduceToNat,reducePow, r1, r2]))
      refine zW.loop (fun m Z O' => ∃ i : Nat, O' = O ++ [some [[.int .i64 n, x]], some [[.int .i64 n, y]]] /\ m + i = A.length /\ A.take i = B.take i /\ Z 2 = .ptr O.length 0 0 /\ Z 3 = .ptr (O.length + 1) 0 0 /\ Z 5 = .int .i64 i) A.length ?_ ?_
      · exact ⟨0, rfl, by omega, rfl, by simp (disch:=first|omega|(simp only [lens,z7,z6,zw,z13,List.length_reverse];first|done|omega)) only [go_sem,reduceEqDiff,Nat.reduceBEq,reduceAdd,reduceMul,reduceSub,reduceLeDiff,reduceToNat,reducePow], by simp (disch:=first|omega|(simp only [lens,z7,z6,zw,z13,List.length_reverse];first|done|omega)) only [go_sem,reduceEqDiff,Nat.reduceBEq,reduceAdd,reduceMul,reduceSub,reduceLeDiff,reduceToNat,reducePow], by simp (disch:=first|omega|(simp only [lens,z7,z6,zw,z13,List.length_reverse];first|done|omega)) only [go_sem,reduceEqDiff,Nat.reduceBEq,reduceAdd,reduceMul,reduceSub,reduceLeDiff,reduceToNat,reducePow]; rfl⟩
      · rintro m Z O' ⟨i, rfl, hm, hp, q2, q3, q5⟩
        by_cases hi : i < A.length
        · have hi2 : i < B.length := by omega
          obtain ⟨e1, rfl⟩ := hx.vsl (by rw [z6]; omega)
          obtain ⟨e2, rfl⟩ := hy.vsl (by rw [z6]; omega)
          have hn1 := z6m hi
          have hn2 := z6m hi2
          by_cases he : hd A i = hd B i
          · have hn : A.take (i + 1) = B.take (i + 1) := by rw [hn1, hn2, hp, he]
            have hde := decide_eq_true he
            clear hn1 hn2
            repeat' (first | refine zW.zs ?_ | refine zW.zb ?_ | refine zW.zc ?_ | refine zW.zt rfl ?_ | refine zW.zf rfl ?_ | (refine zW.zd rfl (fun ht => ?_) (fun ht => ?_) <;> try (exfalso; omega)) | ((first | refine zW.regS ?_ | refine zW.zk ?_ | refine zW.ze ?_ | refine zW.zq ?_ | ((first|apply zg0|apply zg1|apply zg2|apply zg3|apply zg4|apply zg5|apply zg6|apply zg7)<;>intro ht));all_goals try simp (disch:=first|omega|(simp only [lens,z7,z6,zw,z13,List.length_reverse];first|done|omega)) only [go_sem,reduceEqDiff,Nat.reduceBEq,reduceAdd,reduceMul,reduceSub,reduceLeDiff,reduceToNat,reducePow, q2, q3, q5, hde]))
            exact ⟨A.length - (i + 1), by omega, i + 1, by omega, hn, by simp⟩
          · have e : decide (A = B) = false := decide_eq_false fun e => he (by rw [e])
            have hde := decide_eq_false he
            rw [e]
            repeat' (first | refine zW.zs ?_ | refine zW.zb ?_ | refine zW.zc ?_ | refine zW.zt rfl ?_ | refine zW.zf rfl ?_ | (refine zW.zd rfl (fun ht => ?_) (fun ht => ?_) <;> try (exfalso; omega)) | ((first | refine zW.regS ?_ | refine zW.zk ?_ | refine zW.ze ?_ | refine zW.zq ?_ | ((first|apply zg0|apply zg1|apply zg2|apply zg3|apply zg4|apply zg5|apply zg6|apply zg7)<;>intro ht));all_goals try simp (disch:=first|omega|(simp only [lens,z7,z6,zw,z13,List.length_reverse];first|done|omega)) only [go_sem,reduceEqDiff,Nat.reduceBEq,reduceAdd,reduceMul,reduceSub,reduceLeDiff,reduceToNat,reducePow, q2, q3, q5, hde]))
            exact DownV.pure hw (z14 _ rfl)
        · have e : decide (A = B) = true := decide_eq_true (by
            rw [List.take_of_length_le (by omega), List.take_of_length_le (by omega)] at hp
            exact hp)
          rw [e]
          repeat' (first|refine zW.zs ?_|refine zW.zb ?_|refine zW.zc ?_|refine zW.zt rfl ?_|refine zW.zf rfl ?_|(refine zW.zd rfl (fun ht => ?_) (fun ht => ?_)<;>try (exfalso;omega))|((first|refine zW.zr ?_|refine zW.zk ?_|refine zW.ze ?_|refine zW.zq ?_|((first|apply zg0|apply zg1|apply zg2|apply zg3|apply zg4|apply zg5|apply zg6|apply zg7)<;>intro ht));all_goals try simp (disch:=first|omega|(simp only [lens,z7,z6,zw,z13,List.length_reverse];first|done|omega)) only [go_sem,reduceEqDiff,Nat.reduceBEq,reduceAdd,reduceMul,reduceSub,reduceLeDiff,reduceToNat,reducePow, q2, q3, q5, r1, r2]))
          exact DownV.pure hw (z14 _ rfl)
    · have e : decide (n = k /\ A = B) = false := decide_eq_false fun e => hL (by rw [e.2])
      have hL' : ¬ (A.length : Int) = B.length := by omega
      rw [e]
      repeat' (first|refine zW.zs ?_|refine zW.zb ?_|refine zW.zc ?_|refine zW.zt rfl ?_|refine zW.zf rfl ?_|(refine zW.zd rfl (fun ht => ?_) (fun ht => ?_)<;>try (exfalso;omega))|((first|refine zW.zr ?_|refine zW.zk ?_|refine zW.ze ?_|refine zW.zq ?_|((first|apply zg0|apply zg1|apply zg2|apply zg3|apply zg4|apply zg5|apply zg6|apply zg7)<;>intro ht));all_goals try simp (disch:=first|omega|(simp only [lens,z7,z6,zw,z13,List.length_reverse];first|done|omega)) only [go_sem,reduceEqDiff,Nat.reduceBEq,reduceAdd,reduceMul,reduceSub,reduceLeDiff,reduceToNat,reducePow, r1, r2, hL', hnk]))
      exact DownV.pure hw (z14 _ rfl)
  · rw [decide_eq_false (fun e => hnk e.1)]
    repeat' (first|refine zW.zs ?_|refine zW.zb ?_|refine zW.zc ?_|refine zW.zt rfl ?_|refine zW.zf rfl ?_|(refine zW.zd rfl (fun ht => ?_) (fun ht => ?_)<;>try (exfalso;omega))|((first|refine zW.zr ?_|refine zW.zk ?_|refine zW.ze ?_|refine zW.zq ?_|((first|apply zg0|apply zg1|apply zg2|apply zg3|apply zg4|apply zg5|apply zg6|apply zg7)<;>intro ht));all_goals try simp (disch:=first|omega|(simp only [lens,z7,z6,zw,z13,List.length_reverse];first|done|omega)) only [go_sem,reduceEqDiff,Nat.reduceBEq,reduceAdd,reduceMul,reduceSub,reduceLeDiff,reduceToNat,reducePow, r1, r2, hnk]))
    exact DownV.pure hw (z14 _ rfl)
theorem znf (O : Store) (n k : Int) (A B : List Hash) (x y : AV) (hx : RdSl O 32 (hr A) x) (hy : RdSl O 32 (hr B) y) (hl : A.length < 1000000) (hl2 : B.length < 1000000) :
    ACallsTo TC 69 [.agg [.int .i64 n, x], .agg [.int .i64 k, y]] O (.bool (decide (n = k /\ A = B))) O := by
  obtain ⟨x0, h0, hd⟩ := hx.lend (z3f A)
  obtain ⟨y0, h1, hd1⟩ := hy.lend (z3f B)
  have hi : ∀ i : Int, RL 0 (.int .i64 i) := fun i => by simp [RL]
  have := ACallsTo.lend glok (zng [] n k A B x0 y0 h0 h1 hl hl2) (drsc (drA (drsc (rl0 (hi n) O) (drs1 hd))) (drs1 (drA (drsc (rl0 (hi k) O) (drs1 hd1)))))
  rwa [show sh O.length (.bool (decide (n = k /\ A = B))) = .bool (decide (n = k /\ A = B)) from rfl, z6h, List.append_nil] at this
end Am
end Go.Proofs.YtncenefkbpelbaaDoor
end
section
/- Ranges: contracts: Part. -/
namespace Go.Proofs.YtncenefkbpelbaaDoor
namespace Am
attribute [local irreducible] ACallsTo ACallsP
end Am
end Go.Proofs.YtncenefkbpelbaaDoor
end
section
/- Ranges: contracts: the reference's Of, the program's Merge. -/
namespace Go.Proofs.YtncenefkbpelbaaDoor
namespace Am
attribute [local irreducible] ACallsTo ACallsP
theorem rl_z {k : Nat} {l : List Hash} {z : AV} (h : SlV 32 (hr l) z) : RL k z := by
  rcases h with ⟨rfl, _⟩ | ⟨ex, rfl⟩
  · simp [RL]
  · simp only [RL]; exact z3f _
theorem z48 {sz : Nat} {es : List (List AV)} {z : AV} (h : SlV sz es z) : cellsOf z = some [z] := by
  rcases h with ⟨rfl, _⟩ | ⟨ex, rfl⟩ <;> rfl
end Am
end Go.Proofs.YtncenefkbpelbaaDoor
end
section
/- Ranges: the chapter's example. -/
namespace Go.Proofs.YtncenefkbpelbaaDoor
namespace Am
theorem zfw (a b : Hash) : z3m [a, b] = z15 a b := by
  rw [zft (by simp)]; simp [split2, zfs]
attribute [local irreducible] ACallsTo ACallsP
end Am
end Go.Proofs.YtncenefkbpelbaaDoor
end
section
/- Ranges: the law RangesPart: its contract. -/
namespace Go.Proofs.YtncenefkbpelbaaDoor
namespace Am
attribute [local irreducible] ACallsTo ACallsP
theorem zei {cs : List AV} (h : ShC (.sl 32 z4p) cs) : ∃ (l : List Hash) (a : AV), cs = [a] /\ SlV 32 (hr l) a /\ l.length <= maxLen := by
  simp only [ShC] at h
  rcases h with rfl | ⟨es, rfl, hl, _, h2⟩
  · exact ⟨[], .nilsl, rfl, .inl ⟨rfl, rfl⟩, Nat.zero_le _⟩
  · obtain ⟨hs, rfl, hH⟩ := zee es h2
    obtain ⟨m, rfl⟩ := hb_of hH
    rw [z67] at *
    exact ⟨m, _, rfl, .inr ⟨false, rfl⟩, by rwa [z6] at hl⟩
theorem zn6 {a : AV} (h : Sh (.row [.int .i64, .sl 32 z4p]) a) : ∃ (n : Int) (l : List Hash) (x : AV), a = .agg [.int .i64 n, x] /\ -9223372036854775808 <= n /\ n <= 9223372036854775807 /\ SlV 32 (hr l) x /\ l.length <= maxLen := by
  simp only [Sh] at h
  obtain ⟨cs, rfl, h⟩ := h
  simp only [z43] at h
  obtain ⟨a, b, rfl, ha, c, d, rfl, hb, rfl⟩ := h
  simp only [ShC] at ha
  obtain ⟨n, rfl, h1, h2⟩ := ha
  obtain ⟨l, x, rfl, h3, h4⟩ := zei hb
  simp only [IntKind.min, IntKind.max, IntKind.signed, IntKind.bits] at h1 h2
  simp at h1 h2
  exact ⟨n, l, x, rfl, h1, h2, h3, h4⟩
end Am
end Go.Proofs.YtncenefkbpelbaaDoor
end
section
/- Ranges: the law RangesFull: its contract. -/
namespace Go.Proofs.YtncenefkbpelbaaDoor
namespace Am
attribute [local irreducible] ACallsTo ACallsP
end Am
end Go.Proofs.YtncenefkbpelbaaDoor
end
section
/- Ranges: the root of a range. -/
namespace Go.Proofs.YtncenefkbpelbaaDoor
namespace Am
attribute [local irreducible] ACallsTo ACallsP
theorem zhh (O : Store) (x : AV) (hx : cellsOf x = some [x]) :
    ACallsTo TC 107 [x] O (.fn 136 [.ptr O.length 0 0]) (O ++ [some [[x]]]) := by
  unfold cellsOf at hx
  refine ACallsTo.of_body_keep q18ok (by simp) ?_
  repeat' (first|refine zW.zs ?_|refine zW.zb ?_|refine zW.zc ?_|refine zW.zt rfl ?_|refine zW.zf rfl ?_|(refine zW.zd rfl (fun ht => ?_) (fun ht => ?_)<;>try (exfalso;omega))|((first|refine zW.zr ?_|refine zW.zk ?_|refine zW.ze ?_|refine zW.zq ?_|((first|apply zg0|apply zg1|apply zg2|apply zg3|apply zg4|apply zg5|apply zg6|apply zg7)<;>intro ht));all_goals try simp (disch:=first|omega|(simp only [lens,z7,z6,List.length_reverse];first|done|omega)) only [go_sem,reduceEqDiff,Nat.reduceBEq,reduceAdd,reduceMul,reduceSub,reduceLeDiff,reduceToNat,reducePow, hx, z5k]))
def z42 (n : Int) (hs : List Hash) : AV := if z1u n hs.length = false then .tup [.agg (hc z5f), .int .i64 2] else .tup [.agg (hc (z4u hs.reverse)), .int .i64 0]
theorem z6z {k : Nat} {h : Hash} {e : Int} : RL k (.tup [.agg (hc h), .int .i64 e]) := by simp only [RL, RLs]; exact ⟨z6d h, trivial, trivial⟩
theorem zfv {hs : List Hash} {m : Nat} (h : hs.length = m + 1) : z4u hs.reverse = ((hs.take m).reverse.take m).foldl (fun o h => z15 h o) (hd hs m) := by
  have e : hs = hs.take m ++ [hd hs m] := by rw [<- z6m (by omega), List.take_of_length_le (by omega)]
  have e2 : hs.reverse = hd hs m :: (hs.take m).reverse := by
    conv => lhs; rw [e]
    rw [List.reverse_append, List.reverse_singleton, List.singleton_append]
  have e3 : (hs.take m).reverse.take m = (hs.take m).reverse := List.take_of_length_le (by simp; omega)
  rw [e2, z4u, e3]
theorem ze9 {R : List Hash} {j : Nat} (x : Hash) (h : j < R.length) : (R.reverse.take (j + 1)).foldl (fun o h => z15 h o) x = z15 (hd R (R.length - 1 - j)) ((R.reverse.take j).foldl (fun o h => z15 h o) x) := by
  have hj : j < R.reverse.length := by rw [List.length_reverse]; exact h
  rw [List.take_add_one, List.getElem?_eq_getElem hj]
  simp only [Option.toList_some, List.foldl_append, List.foldl_cons, List.foldl_nil]
  rw [z9f (by omega), List.getElem_reverse]
theorem zfe : ∀ (f m : Nat), 0 < m -> m < 2 ^ f -> 0 < pc f m
  | 0, m, h, h1 => by simp at h1; omega
  | f + 1, m, h, h1 => by
    simp only [pc]
    by_cases h2 : m % 2 = 1
    · omega
    · have := zfe f (m / 2) (by omega) (by rw [Nat.pow_succ] at h1; omega)
      omega
set_option maxHeartbeats 16000000 in
theorem Root_v (O : Store) (n : Int) (hs : List Hash) (x : AV) (hx : SlV 32 (hr hs) x) (hl : hs.length < 1000000) (hn : -9223372036854775808 <= n /\ n <= 9223372036854775807) :
    ACallsTo TC 63 [.agg [.int .i64 n, x]] O (z42 n hs) O := by
  have xc := z48 hx
  unfold cellsOf at xc
  have r1 := hx.len
  rw [z6] at r1
  unfold z12 at r1
  have hV := fun O => z9o O n hs x (.of hx)
  have hT := fun O => zh3 O [] .nilsl (.of (.inl ⟨rfl, rfl⟩)) (by decide)
  refine ACallsTo.of_bodyD q10ok (by simp) fun hw _ => ?_
  unfold z42
  refine SWpD.seqS ?_
  repeat' (first|refine zW.zs ?_|refine zW.zb ?_|refine zW.zc ?_|refine zW.zt rfl ?_|refine zW.zf rfl ?_|(refine zW.zd rfl (fun ht => ?_) (fun ht => ?_)<;>try (exfalso;omega))|((first|refine zW.zr ?_|refine zW.zk ?_|refine zW.ze ?_|refine zW.zq ?_|((first|apply zg0|apply zg1|apply zg2|apply zg3|apply zg4|apply zg5|apply zg6|apply zg7)<;>intro ht));all_goals try simp (disch:=first|omega|(simp only [lens,z7,z6,List.length_reverse];first|done|omega)) only [go_sem,reduceEqDiff,Nat.reduceBEq,reduceAdd,reduceMul,reduceSub,reduceLeDiff,reduceToNat,reducePow, xc]))
  refine SWpD.seqS ?_
  cases hv : z1u n hs.length with
  | false =>
    rw [hv] at hV
    rw [if_pos rfl]
    repeat' (first|refine zW.zs ?_|refine zW.zb ?_|refine zW.zc ?_|refine zW.zt rfl ?_|refine zW.zf rfl ?_|(refine zW.zd rfl (fun ht => ?_) (fun ht => ?_)<;>try (exfalso;omega))|((first|refine zW.zr ?_|refine zW.zk ?_|refine zW.ze ?_|refine zW.zq ?_|(apply callW.mk_pu; (first | exact (fun _ => hV _))) | (apply callW.za; (first | exact (hV _))) | ((first|apply zg0|apply zg1|apply zg2|apply zg3|apply zg4|apply zg5|apply zg6|apply zg7)<;>intro ht));all_goals try simp (disch:=first|omega|(simp only [lens,z7,z6,List.length_reverse];first|done|omega)) only [go_sem,reduceEqDiff,Nat.reduceBEq,reduceAdd,reduceMul,reduceSub,reduceLeDiff,reduceToNat,reducePow, xc]))
    exact DownV.pure hw (z6z (h := z5f))
  | true =>
    rw [hv] at hV
    rw [if_neg (by simp)]
    by_cases hn0 : n = 0
    · subst hn0
      have h0 : hs = [] := by
        have := of_decide_eq_true hv
        exact List.eq_nil_of_length_eq_zero this.2.2
      subst h0
      repeat' (first|refine zW.zs ?_|refine zW.zb ?_|refine zW.zc ?_|refine zW.zt rfl ?_|refine zW.zf rfl ?_|(refine zW.zd rfl (fun ht => ?_) (fun ht => ?_)<;>try (exfalso;omega))|((first|refine zW.zr ?_|refine zW.zk ?_|refine zW.ze ?_|refine zW.zq ?_|(apply callW.mk_pu; (first | exact (fun _ => hV _) | exact (fun _ => hT _))) | (apply callW.za; (first | exact (hV _) | exact (hT _))) | ((first|apply zg0|apply zg1|apply zg2|apply zg3|apply zg4|apply zg5|apply zg6|apply zg7)<;>intro ht));all_goals try simp (disch:=first|omega|(simp only [lens,z7,z6,List.length_reverse];first|done|omega)) only [go_sem,reduceEqDiff,Nat.reduceBEq,reduceAdd,reduceMul,reduceSub,reduceLeDiff,reduceToNat,reducePow, xc]))
      exact DownV.pure hw z6z
    · obtain ⟨_, hn2, hpc⟩ := of_decide_eq_true hv
      have hlen : ∃ m, hs.length = m + 1 := by
        rcases Nat.eq_zero_or_pos hs.length with h | h
        · exfalso
          have := zfe 64 n.toNat (by omega) (by omega)
          omega
        · exact ⟨hs.length - 1, by omega⟩
      obtain ⟨m, hm⟩ := hlen
      obtain ⟨ex, rfl⟩ := hx.vsl (by rw [z6]; omega)
      have hm1 : ((hs.length : Nat) : Int) - 1 = (m : Int) := by omega
      have hmm : ((m : Nat) : Int).toNat = m := rfl
      have hB := fun O t => zhh O (.vsl 32 (hr (hs.take m)) t) rfl
      have hlt : (hs.take m).length = m := by rw [List.length_take]; omega
      have hR := zfv hm
      repeat' (first|refine zW.zs ?_|refine zW.zb ?_|refine zW.zc ?_|refine zW.zt rfl ?_|refine zW.zf rfl ?_|(refine zW.zd rfl (fun ht => ?_) (fun ht => ?_)<;>try (exfalso;omega))|((first|refine zW.zr ?_|refine zW.zk ?_|refine zW.ze ?_|refine zW.zq ?_|(apply callW.mk_pu; (first | exact (fun _ => hV _))) | (apply callW.za; (first | exact (hV _))) | ((first|apply zg0|apply zg1|apply zg2|apply zg3|apply zg4|apply zg5|apply zg6|apply zg7)<;>intro ht));all_goals try simp (disch:=first|omega|(simp only [lens,z7,z6,List.length_reverse];first|done|omega)) only [go_sem,reduceEqDiff,Nat.reduceBEq,reduceAdd,reduceMul,reduceSub,reduceLeDiff,reduceToNat,reducePow, xc, hn0]))
      refine SWpD.seqS ?_
      repeat' (first|refine zW.zs ?_|refine zW.zb ?_|refine zW.zc ?_|refine zW.zt rfl ?_|refine zW.zf rfl ?_|(refine zW.zd rfl (fun ht => ?_) (fun ht => ?_)<;>try (exfalso;omega))|((first|refine zW.zr ?_|refine zW.zk ?_|refine zW.ze ?_|refine zW.zq ?_|((first|apply zg0|apply zg1|apply zg2|apply zg3|apply zg4|apply zg5|apply zg6|apply zg7)<;>intro ht));all_goals try simp (disch:=first|omega|(simp only [lens,z7,z6,List.length_reverse];first|done|omega)) only [go_sem,reduceEqDiff,Nat.reduceBEq,reduceAdd,reduceMul,reduceSub,reduceLeDiff,reduceToNat,reducePow, xc, r1, hm1]))
      refine SWpD.seqS ?_
      repeat' (first|refine zW.zs ?_|refine zW.zb ?_|refine zW.zc ?_|refine zW.zt rfl ?_|refine zW.zf rfl ?_|(refine zW.zd rfl (fun ht => ?_) (fun ht => ?_)<;>try (exfalso;omega))|((first|refine zW.zr ?_|refine zW.zk ?_|refine zW.ze ?_|refine zW.zq ?_|((first|apply zg0|apply zg1|apply zg2|apply zg3|apply zg4|apply zg5|apply zg6|apply zg7)<;>intro ht));all_goals try simp (disch:=first|omega|(simp only [lens,z7,z6,List.length_reverse];first|done|omega)) only [go_sem,reduceEqDiff,Nat.reduceBEq,reduceAdd,reduceMul,reduceSub,reduceLeDiff,reduceToNat,reducePow, xc, r1, hm1, hmm]))
      refine SWpD.seqR ?_
      refine SWpD.seqS ?_
      repeat' (first|refine zW.zs ?_|refine zW.zb ?_|refine zW.zc ?_|refine zW.zt rfl ?_|refine zW.zf rfl ?_|(refine zW.zd rfl (fun ht => ?_) (fun ht => ?_)<;>try (exfalso;omega))|((first|refine zW.zr ?_|refine zW.zk ?_|refine zW.ze ?_|refine zW.zq ?_|(apply callW.mk_pu; (first | exact (fun _ => hB _ _))) | (apply callW.za; (first | exact (hB _ _))) | ((first|apply zg0|apply zg1|apply zg2|apply zg3|apply zg4|apply zg5|apply zg6|apply zg7)<;>intro ht));all_goals try simp (disch:=first|omega|(simp only [lens,z7,z6,List.length_reverse];first|done|omega)) only [go_sem,reduceEqDiff,Nat.reduceBEq,reduceAdd,reduceMul,reduceSub,reduceLeDiff,reduceToNat,reducePow, xc, r1, hm1, hmm]))
      refine SWpD.block ?_
      refine zn5 (rB := O.length + 3) (es := hr (hs.take m)) (by simp (disch:=first|omega|(simp only [lens,z7,z6,List.length_reverse];first|done|omega)) only [go_sem,reduceEqDiff,Nat.reduceBEq,reduceAdd,reduceMul,reduceSub,reduceLeDiff,reduceToNat,reducePow] <;> rfl) (by rw [z6]; omega) (by decide) (by decide) (fun e he => by
          simp only [hr, List.mem_map] at he
          obtain ⟨h, _, rfl⟩ := he
          exact z7 h)
        (fun j O' => O'[O.length + 1]? = some (some [hc z5f]) /\ O'[O.length + 2]? = some (some [hc (((hs.take m).reverse.take j).foldl (fun o h => z15 h o) (hd hs m))]) /\ (∃ ex, O'[O.length + 3]? = some (some [[.vsl 32 (hr (hs.take m)) ex]])) /\ ∃ news, O' = O ++ news) ?_ ?_ ?_ ?_
      · refine ⟨by simp (disch:=first|omega|(simp only [lens,z7,z6,List.length_reverse];first|done|omega)) only [go_sem,reduceEqDiff,Nat.reduceBEq,reduceAdd,reduceMul,reduceSub,reduceLeDiff,reduceToNat,reducePow] <;> rfl, by simp (disch:=first|omega|(simp only [lens,z7,z6,List.length_reverse];first|done|omega)) only [go_sem,reduceEqDiff,Nat.reduceBEq,reduceAdd,reduceMul,reduceSub,reduceLeDiff,reduceToNat,reducePow] <;> rfl, ⟨_, by simp (disch:=first|omega|(simp only [lens,z7,z6,List.length_reverse];first|done|omega)) only [go_sem,reduceEqDiff,Nat.reduceBEq,reduceAdd,reduceMul,reduceSub,reduceLeDiff,reduceToNat,reducePow] <;> rfl⟩, _, rfl⟩
      · rintro j O' ⟨_, _, ⟨ex, h⟩, _⟩
        exact ⟨_, h, .inr ⟨ex, rfl⟩⟩
      · rintro l j O' cs ⟨i1, i2, ⟨ex2, i3⟩, news, rfl⟩ hj hcs
        rw [z6, hlt] at hj
        have hcs2 : cs = hc (hd (hs.take m) (m - 1 - j)) := by
          rw [z6, hlt, hr_get (by omega)] at hcs
          exact (Option.some.inj hcs).symm
        subst hcs2
        have hN := fun O => zcv O (hd (hs.take m) (m - 1 - j)) (((hs.take m).reverse.take j).foldl (fun o h => z15 h o) (hd hs m))
        have hst := ze9 (R := hs.take m) (j := j) (hd hs m) (by omega)
        rw [hlt] at hst
        rw [<- hst] at hN
        generalize ((hs.take m).reverse.take j).foldl (fun o h => z15 h o) (hd hs m) = A at *
        generalize ((hs.take m).reverse.take (j + 1)).foldl (fun o h => z15 h o) (hd hs m) = B at *
        generalize hd (hs.take m) (m - 1 - j) = H at *
        rw [getElem?_app] at i1 i2 i3
        have l1 := slen i1
        have l2 := slen i2
        have l3 := slen i3
        refine SWpI.reg rfl ?_
        simp (disch:=first|omega|(simp only [lens,z7,z6,List.length_reverse];first|done|omega)) only [go_sem,reduceEqDiff,Nat.reduceBEq,reduceAdd,reduceMul,reduceSub,reduceLeDiff,reduceToNat,reducePow]
        refine SWpI.block ?_
        refine SWpI.reg rfl ?_
        simp (disch:=first|omega|(simp only [lens,z7,z6,List.length_reverse];first|done|omega)) only [go_sem,reduceEqDiff,Nat.reduceBEq,reduceAdd,reduceMul,reduceSub,reduceLeDiff,reduceToNat,reducePow, i1, i2, i3, l1, l2, l3]
        refine callW.za (hN _) trivial ?_
        simp (disch:=first|omega|(simp only [lens,z7,z6,List.length_reverse];first|done|omega)) only [go_sem,reduceEqDiff,Nat.reduceBEq,reduceAdd,reduceMul,reduceSub,reduceLeDiff,reduceToNat,reducePow, i1, i2, i3, l1, l2, l3]
        exact ⟨⟨_, rfl⟩, _, rfl⟩
      · rintro O' ⟨i1, i2, ⟨ex2, i3⟩, news, rfl⟩
        rw [z6, hlt] at i2
        rw [<- hR] at i2
        rw [getElem?_app] at i1 i2
        have l1 := slen i1
        have l2 := slen i2
        repeat' (first|refine zW.zs ?_|refine zW.zb ?_|refine zW.zc ?_|refine zW.zt rfl ?_|refine zW.zf rfl ?_|(refine zW.zd rfl (fun ht => ?_) (fun ht => ?_)<;>try (exfalso;omega))|((first|refine zW.zr ?_|refine zW.zk ?_|refine zW.ze ?_|refine zW.zq ?_|((first|apply zg0|apply zg1|apply zg2|apply zg3|apply zg4|apply zg5|apply zg6|apply zg7)<;>intro ht));all_goals try simp (disch:=first|omega|(simp only [lens,z7,z6,List.length_reverse];first|done|omega)) only [go_sem,reduceEqDiff,Nat.reduceBEq,reduceAdd,reduceMul,reduceSub,reduceLeDiff,reduceToNat,reducePow, i1, i2, l1, l2]))
        exact DownV.pure hw z6z
end Am
end Go.Proofs.YtncenefkbpelbaaDoor
end
section
/- Ranges: the law RangesSame: its contract. -/
namespace Go.Proofs.YtncenefkbpelbaaDoor
namespace Am
attribute [local irreducible] ACallsTo ACallsP
theorem Root_h (O : Store) (n : Int) (hs : List Hash) (x : AV) (hx : RdSl O 32 (hr hs) x) (hl : hs.length < 1000000) (hn : -9223372036854775808 <= n /\ n <= 9223372036854775807) :
    ACallsTo TC 63 [.agg [.int .i64 n, x]] O (z42 n hs) O := by
  obtain ⟨x0, h0, hd⟩ := hx.lend (z3f hs)
  have hi : ∀ i : Int, RL 0 (.int .i64 i) := fun i => by simp [RL]
  have := ACallsTo.lend glok (Root_v [] n hs x0 h0 hl hn) (drs1 (drA (drsc (rl0 (hi n) O) (drs1 hd))))
  have e : sh O.length (z42 n hs) = z42 n hs := by
    unfold z42
    split
    all_goals simp only [sh, shs, zge]
  rwa [e, z6h, List.append_nil] at this
theorem ze6 {O : Store} {n : Nat} {hs l : List Hash} {x : AV} (hx : RdSl O 32 (hr hs) x) (hl : hs.length = pc 13 n) (h : n + l.length <= 4096) :
    ∃ z, extA n hs l x = .tup [.agg [.int .i64 ((n + l.length : Nat) : Int), z], .int .i64 0] /\ SlV 32 (hr (extR n hs.reverse l).reverse) z := by
  have hv : z1u n hs.length = true := decide_eq_true ⟨by omega, by omega, by rw [Int.toNat_natCast, pc13 (by omega)]; exact hl⟩
  refine ⟨zv x l.isEmpty (extR n hs.reverse l).reverse, ?_, zhf (O := O) fun h => ?_⟩
  · unfold extA
    rw [hv, if_neg (by simp), if_neg (by omega), Int.toNat_natCast]; rfl
  · have : l = [] := by cases l <;> simp at h ⊢
    subst this
    simpa [extR] using hx
theorem zlr (l : List Hash) (h : l.length <= 4096) : (ofR l).length = pc 13 l.length := by
  have := z66 13 0 [] l (by omega) (by rw [z9m]; rfl)
  rwa [Nat.zero_add] at this
end Am
end Go.Proofs.YtncenefkbpelbaaDoor
end
section
/- Ranges: the reference's Root and Merge. -/
namespace Go.Proofs.YtncenefkbpelbaaDoor
namespace Am
theorem zkk {l : List Hash} {m i : Nat} (h : i < m) (hl : m <= l.length) : hd (l.take m) i = hd l i := by
  rw [z9f (l := l.take m) (by rw [List.length_take]; omega), z9f (l := l) (by omega), List.getElem_take]
attribute [local irreducible] ACallsTo ACallsP
set_option maxHeartbeats 16000000 in
theorem zne (O : Store) (n : Int) (hs : List Hash) (x : AV) (hx : SlV 32 (hr hs) x) (hl : hs.length < 1000000) :
    ACallsTo TC 67 [.agg [.int .i64 n, x]] O (z42 n hs) O := by
  have xc := z48 hx
  unfold cellsOf at xc
  have r1 := hx.len
  rw [z6] at r1
  unfold z12 at r1
  have hV := fun O => z9r O n hs x (.of hx)
  refine ACallsTo.of_body q11ok (by simp) fun hw _ => ?_
  unfold z42
  cases hv : z1u n hs.length with
  | false =>
    rw [hv] at hV
    rw [if_pos rfl]
    repeat' (first|refine zW.zs ?_|refine zW.zb ?_|refine zW.zc ?_|refine zW.zt rfl ?_|refine zW.zf rfl ?_|(refine zW.zd rfl (fun ht => ?_) (fun ht => ?_)<;>try (exfalso;omega))|((first|refine zW.zr ?_|refine zW.zk ?_|refine zW.ze ?_|refine zW.zq ?_|(apply callW.mk_pu; (first | exact (fun _ => hV _))) | (apply callW.za; (first | exact (hV _))) | ((first|apply zg0|apply zg1|apply zg2|apply zg3|apply zg4|apply zg5|apply zg6|apply zg7)<;>intro ht));all_goals try simp (disch:=first|omega|(simp only [lens,z7,z6,zw,z13,List.length_reverse];first|done|omega)) only [go_sem,reduceEqDiff,Nat.reduceBEq,reduceAdd,reduceMul,reduceSub,reduceLeDiff,reduceToNat,reducePow, xc, r1]))
    exact DownV.pure hw (z6z (h := z5f))
  | true =>
    rw [hv] at hV
    rw [if_neg (by simp)]
    rcases Nat.eq_zero_or_pos hs.length with h0 | hpos
    · obtain rfl := List.eq_nil_of_length_eq_zero h0
      have hT : ∀ O, ACallsTo TC 70 [.str []] O (.agg (hc (shaH []))) O := fun O => z5u O [] (by simp)
      repeat' (first|refine zW.zs ?_|refine zW.zb ?_|refine zW.zc ?_|refine zW.zt rfl ?_|refine zW.zf rfl ?_|(refine zW.zd rfl (fun ht => ?_) (fun ht => ?_)<;>try (exfalso;omega))|((first|refine zW.zr ?_|refine zW.zk ?_|refine zW.ze ?_|refine zW.zq ?_|(apply callW.mk_pu; (first | exact (fun _ => hV _) | exact (fun _ => hT _))) | (apply callW.za; (first | exact (hV _) | exact (hT _))) | ((first|apply zg0|apply zg1|apply zg2|apply zg3|apply zg4|apply zg5|apply zg6|apply zg7)<;>intro ht));all_goals try simp (disch:=first|omega|(simp only [lens,z7,z6,zw,z13,List.length_reverse];first|done|omega)) only [go_sem,reduceEqDiff,Nat.reduceBEq,reduceAdd,reduceMul,reduceSub,reduceLeDiff,reduceToNat,reducePow, xc, r1]))
      exact DownV.pure hw z6z
    · obtain ⟨M, hM⟩ : ∃ M, hs.length = M + 1 := ⟨hs.length - 1, by omega⟩
      obtain ⟨ex, rfl⟩ := hx.vsl (by rw [z6]; omega)
      have hR := zfv hM
      have hlt : (hs.take M).length = M := by rw [List.length_take]; omega
      have hm1 : ((hs.length : Nat) : Int) - 1 = (M : Int) := by omega
      have hm2 : ((hs.length : Nat) : Int) - 2 = (M : Int) - 1 := by omega
      have hmm : ((M : Nat) : Int).toNat = M := rfl
      have hz : ¬ ((hs.length : Nat) : Int) = 0 := by omega
      rw [hR]
      repeat' (first|refine zW.zs ?_|refine zW.zb ?_|refine zW.zc ?_|refine zW.zt rfl ?_|refine zW.zf rfl ?_|(refine zW.zd rfl (fun ht => ?_) (fun ht => ?_)<;>try (exfalso;omega))|((first|refine zW.zr ?_|refine zW.zk ?_|refine zW.ze ?_|refine zW.zq ?_|(apply callW.mk_pu; (first | exact (fun _ => hV _))) | (apply callW.za; (first | exact (hV _))) | ((first|apply zg0|apply zg1|apply zg2|apply zg3|apply zg4|apply zg5|apply zg6|apply zg7)<;>intro ht));all_goals try simp (disch:=first|omega|(simp only [lens,z7,z6,zw,z13,List.length_reverse];first|done|omega)) only [go_sem,reduceEqDiff,Nat.reduceBEq,reduceAdd,reduceMul,reduceSub,reduceLeDiff,reduceToNat,reducePow, xc, r1, hm1, hm2, hmm, hz]))
      refine zW.loop (fun m Z O' => ∃ j : Nat, m + j = M /\ Ext O O' /\ O'[O.length]? = some (some [[.int .i64 n, .vsl 32 (hr hs) ex]]) /\ O'[O.length + 1]? = some (some [hc z5f]) /\ O'[O.length + 2]? = some (some [hc (((hs.take M).reverse.take j).foldl (fun o h => z15 h o) (hd hs M))]) ∧
        Z 1 = .ptr O.length 0 0 /\ Z 2 = .ptr (O.length + 1) 0 0 /\ Z 5 = .ptr (O.length + 2) 0 0 /\ Z 6 = .int .i64 ((m : Int) - 1)) M ?_ ?_
      · exact ⟨0, by omega, (Ext.refl O).app, by simp, by simp; rfl, by simp, by simp (disch:=first|omega|(simp only [lens,z7,z6,zw,z13,List.length_reverse];first|done|omega)) only [go_sem,reduceEqDiff,Nat.reduceBEq,reduceAdd,reduceMul,reduceSub,reduceLeDiff,reduceToNat,reducePow], by simp (disch:=first|omega|(simp only [lens,z7,z6,zw,z13,List.length_reverse];first|done|omega)) only [go_sem,reduceEqDiff,Nat.reduceBEq,reduceAdd,reduceMul,reduceSub,reduceLeDiff,reduceToNat,reducePow], by simp (disch:=first|omega|(simp only [lens,z7,z6,zw,z13,List.length_reverse];first|done|omega)) only [go_sem,reduceEqDiff,Nat.reduceBEq,reduceAdd,reduceMul,reduceSub,reduceLeDiff,reduceToNat,reducePow], by simp (disch:=first|omega|(simp only [lens,z7,z6,zw,z13,List.length_reverse];first|done|omega)) only [go_sem,reduceEqDiff,Nat.reduceBEq,reduceAdd,reduceMul,reduceSub,reduceLeDiff,reduceToNat,reducePow]⟩
      · rintro m Z O' ⟨j, hm, he, c0, c1, c2, q1, q2, q5, q6⟩
        have d0 := slen c0
        have d1 := slen c1
        have d2 := slen c2
        have hle := he.le
        cases m with
        | zero =>
          obtain rfl : j = M := by omega
          have hq : ¬ ((0 : Nat) : Int) - 1 >= 0 := by omega
          repeat' (first|refine zW.zs ?_|refine zW.zb ?_|refine zW.zc ?_|refine zW.zt rfl ?_|refine zW.zf rfl ?_|(refine zW.zd rfl (fun ht => ?_) (fun ht => ?_)<;>try (exfalso;omega))|((first|refine zW.zr ?_|refine zW.zk ?_|refine zW.ze ?_|refine zW.zq ?_|((first|apply zg0|apply zg1|apply zg2|apply zg3|apply zg4|apply zg5|apply zg6|apply zg7)<;>intro ht));all_goals try simp (disch:=first|omega|(simp only [lens,z7,z6,zw,z13,List.length_reverse];first|done|omega)) only [go_sem,reduceEqDiff,Nat.reduceBEq,reduceAdd,reduceMul,reduceSub,reduceLeDiff,reduceToNat,reducePow, q1, q2, q5, q6, c0, c1, c2, hq]))
          exact Ext.pure hw (he.set (by omega)) z6z
        | succ m =>
          have hst := ze9 (R := hs.take M) (j := j) (hd hs M) (by omega)
          rw [hlt, show M - 1 - j = m by omega, zkk (by omega) (by omega)] at hst
          have hN := fun O => z5t O (hd hs m) (((hs.take M).reverse.take j).foldl (fun o h => z15 h o) (hd hs M))
          rw [<- hst] at hN
          have hq : ((m + 1 : Nat) : Int) - 1 = (m : Int) := by omega
          have hq2 : ((m : Nat) : Int).toNat = m := rfl
          repeat' (first|refine zW.zs ?_|refine zW.zb ?_|refine zW.zc ?_|refine zW.zt rfl ?_|refine zW.zf rfl ?_|(refine zW.zd rfl (fun ht => ?_) (fun ht => ?_)<;>try (exfalso;omega))|((first|refine zW.zr ?_|refine zW.zk ?_|refine zW.ze ?_|refine zW.zq ?_|(apply callW.mk_pu; (first | exact (fun _ => hN _))) | (apply callW.za; (first | exact (hN _))) | ((first|apply zg0|apply zg1|apply zg2|apply zg3|apply zg4|apply zg5|apply zg6|apply zg7)<;>intro ht));all_goals try simp (disch:=first|omega|(simp only [lens,z7,z6,zw,z13,List.length_reverse];first|done|omega)) only [go_sem,reduceEqDiff,Nat.reduceBEq,reduceAdd,reduceMul,reduceSub,reduceLeDiff,reduceToNat,reducePow, q1, q2, q5, q6, c0, c1, c2, hq, hq2]))
          exact ⟨m, by omega, j + 1, by omega, he.set (by omega), by simp⟩
theorem znd (O : Store) (n : Int) (hs : List Hash) (x : AV) (hx : RdSl O 32 (hr hs) x) (hl : hs.length < 1000000) :
    ACallsTo TC 67 [.agg [.int .i64 n, x]] O (z42 n hs) O := by
  obtain ⟨x0, h0, hd⟩ := hx.lend (z3f hs)
  have hi : ∀ i : Int, RL 0 (.int .i64 i) := fun i => by simp [RL]
  have := ACallsTo.lend glok (zne [] n hs x0 h0 hl) (drs1 (drA (drsc (rl0 (hi n) O) (drs1 hd))))
  have e : sh O.length (z42 n hs) = z42 n hs := by
    unfold z42
    split
    all_goals simp only [sh, shs, zge]
  rwa [e, z6h, List.append_nil] at this
end Am
end Go.Proofs.YtncenefkbpelbaaDoor
end
section
/- Ranges: the reference's Merge. -/
namespace Go.Proofs.YtncenefkbpelbaaDoor
namespace Am
attribute [local irreducible] ACallsTo ACallsP
end Am
end Go.Proofs.YtncenefkbpelbaaDoor
end
section
/- Ranges: the law RangesTell: its contract. -/
namespace Go.Proofs.YtncenefkbpelbaaDoor
namespace Am
attribute [local irreducible] ACallsTo ACallsP
end Am
end Go.Proofs.YtncenefkbpelbaaDoor
end
section
/- Proofs: plain laws: a proof that Proof gives is checked; one of another length is not. -/
namespace Go.Proofs.YtncenefkbpelbaaDoor
namespace Am
theorem zbm (j : Nat) : (2 ^ (j + 1) - 1) / 2 = 2 ^ j - 1 /\ (2 ^ (j + 1) - 1) % 2 = 1 := by
  have := Nat.pow_succ (n := 2) (m := j)
  have h2 : 0 < 2 ^ j := Nat.pow_pos (by decide)
  omega
theorem zb7 : ∀ (j i last : Nat), i < 2 ^ j -> 2 ^ j <= last -> last < 2 ^ (j + 1) -> lp i last = lp i (2 ^ j - 1) ++ [false]
  | 0, i, last, h1, h2, h3 => by
    simp at h1 h2 h3
    obtain rfl : i = 0 := by omega
    obtain rfl : last = 1 := by omega
    rw [z69 (by decide) (by decide) (by decide), show (1 : Nat) / 2 = 0 from rfl, show 2 ^ 0 - 1 = 0 from rfl, z5o]
    rfl
  | j + 1, i, last, h1, h2, h3 => by
    have e1 := Nat.pow_succ (n := 2) (m := j)
    have e2 := Nat.pow_succ (n := 2) (m := j + 1)
    have hp : 0 < 2 ^ j := Nat.pow_pos (by decide)
    obtain ⟨o1, o2⟩ := zbm j
    have ih := zb7 j (i / 2) (last / 2) (by omega) (by omega) (by omega)
    by_cases h : i % 2 = 1
    · rw [z4g h (by omega), z4g h (by omega), o1, ih]; rfl
    · rw [z69 h (by omega) (by omega), z69 h (by omega) (by omega), o1, ih]; rfl
theorem zex : ∀ (j i last : Nat), i <= last -> last < 2 ^ j -> lp (2 ^ j + i) (2 ^ j + last) = lp i last ++ [true]
  | 0, i, last, h1, h2 => by
    simp at h2
    subst h2
    obtain rfl : i = 0 := by omega
    rw [show 2 ^ 0 + 0 = 1 from rfl, z4g (by decide) (by decide), show (1 : Nat) / 2 = 0 from rfl, z5o]
    rfl
  | j + 1, i, last, h1, h2 => by
    have e1 := Nat.pow_succ (n := 2) (m := j)
    have hp : 0 < 2 ^ j := Nat.pow_pos (by decide)
    have ih := zex j (i / 2) (last / 2) (by omega) (by omega)
    have d1 : (2 ^ (j + 1) + i) / 2 = 2 ^ j + i / 2 := by omega
    have d2 : (2 ^ (j + 1) + last) / 2 = 2 ^ j + last / 2 := by omega
    by_cases h : i % 2 = 1
    · rw [z4g (i := 2 ^ (j + 1) + i) (by omega) (by omega), z4g h (by omega), d1, d2, ih]; rfl
    · by_cases he : i = last
      · subst he
        rw [z6w (i := 2 ^ (j + 1) + i) (by omega), z6w h, d1, ih]
      · rw [z69 (i := 2 ^ (j + 1) + i) (by omega) (by omega) (by omega), z69 h (by omega) he, d1, d2, ih]; rfl
def z45 (i last : Nat) : List Bool := lp (st i last).1 (st i last).2
theorem zcn : ∀ (f i last last' : Nat), i < f -> (st i last).1 = (st i last').1
  | 0, _, _, _, h => by omega
  | f + 1, i, last, last', h => by
    by_cases h1 : i % 2 = 1
    · rw [z5x h1, z5x h1]; exact zcn f (i / 2) _ _ (by omega)
    · rw [z4z h1, z4z h1]
theorem z9l : ∀ (j i last : Nat), i < 2 ^ j -> 2 ^ j <= last -> last < 2 ^ (j + 1) -> z45 i last = z45 i (2 ^ j - 1) ++ [false]
  | 0, i, last, h1, h2, h3 => by
    have h1' := h1
    simp at h1
    unfold z45
    rw [z4z (by omega), z4z (by omega)]
    exact zb7 0 i last h1' h2 h3
  | j + 1, i, last, h1, h2, h3 => by
    have e1 := Nat.pow_succ (n := 2) (m := j)
    have e2 := Nat.pow_succ (n := 2) (m := j + 1)
    have hp : 0 < 2 ^ j := Nat.pow_pos (by decide)
    obtain ⟨o1, o2⟩ := zbm j
    by_cases h : i % 2 = 1
    · have ih := z9l j (i / 2) (last / 2) (by omega) (by omega) (by omega)
      unfold z45 at ih ⊢
      rw [z5x h, z5x h, o1]; exact ih
    · unfold z45
      rw [z4z h, z4z h]
      exact zb7 (j + 1) i last h1 h2 h3
theorem zgt : ∀ (j i last : Nat), i < last -> last < 2 ^ j -> ∃ k, st (2 ^ j + i) (2 ^ j + last) = (2 ^ k + (st i last).1, 2 ^ k + (st i last).2) /\ (st i last).1 <= (st i last).2 /\ (st i last).2 < 2 ^ k
  | 0, i, last, h1, h2 => by simp at h2; omega
  | j + 1, i, last, h1, h2 => by
    have e1 := Nat.pow_succ (n := 2) (m := j)
    have hp : 0 < 2 ^ j := Nat.pow_pos (by decide)
    by_cases h : i % 2 = 1
    · have ih := zgt j (i / 2) (last / 2) (by omega) (by omega)
      rw [z5x h, z5x (i := 2 ^ (j + 1) + i) (by omega), show (2 ^ (j + 1) + i) / 2 = 2 ^ j + i / 2 by omega, show (2 ^ (j + 1) + last) / 2 = 2 ^ j + last / 2 by omega]
      exact ih
    · rw [z4z h, z4z (i := 2 ^ (j + 1) + i) (by omega)]
      exact ⟨j + 1, rfl, by omega, h2⟩
theorem zbl {j i last : Nat} (h1 : i < last) (h2 : last < 2 ^ j) : z45 (2 ^ j + i) (2 ^ j + last) = z45 i last ++ [true] /\ 0 < (st (2 ^ j + i) (2 ^ j + last)).1 := by
  obtain ⟨k, e, h3, h4⟩ := zgt j i last h1 h2
  unfold z45
  rw [e]
  have hp : 0 < 2 ^ k := Nat.pow_pos (by decide)
  exact ⟨zex k _ _ h3 h4, by omega⟩
theorem zco : ∀ (j : Nat), st (2 ^ j - 1) (2 ^ j - 1) = (0, 0)
  | 0 => by rw [z4z (by decide)]
  | j + 1 => by
    obtain ⟨o1, o2⟩ := zbm j
    rw [z5x o2, o1]; exact zco j
theorem zc8 (t : Bool) (h : List UInt8) : ∀ (p : List Bool) (ps : List (List UInt8)) (a b : List UInt8), run (p ++ [t]) (ps ++ [h]) a b = (run p ps a b).map fun x => if t then (z1d h x.1, z1d h x.2) else (x.1, z1d x.2 h)
  | [], [], a, b => by cases t <;> rfl
  | [], y :: ps, a, b => by
    have : ∀ a b, run [] (ps ++ [h]) a b = none := fun a b => by cases ps <;> rfl
    cases t <;> simp [run, this]
  | x :: p, [], a, b => by
    have : ∀ a b, run (p ++ [t]) [] a b = none := fun a b => by cases p <;> cases t <;> simp [run]
    cases x <;> simp [run, this]
  | x :: p, y :: ps, a, b => by
    have ih := zc8 t h p ps
    cases x <;> simp [run, ih]
/-- With the first one given, or the older root. -/
def runB (u : Bool) (p : List Bool) (ps : List (List UInt8)) (o : List UInt8) : Option (List UInt8 × List UInt8) :=
  if u then match ps with
    | [] => none
    | h :: ps => run p ps h h
  else run p ps o o
theorem zj7 (i last : Nat) (o : List UInt8) (ps : List (List UInt8)) : chkG i last o ps = runB (decide (0 < i)) (lp i last) ps o := by
  unfold chkG runB
  by_cases h : 0 < i <;> simp [h] <;> cases ps <;> rfl
theorem z9w (u t : Bool) (h : List UInt8) (p : List Bool) (ps : List (List UInt8)) (o : List UInt8) :
    runB u (p ++ [t]) (ps ++ [h]) o = (runB u p ps o).map fun x => if t then (z1d h x.1, z1d h x.2) else (x.1, z1d x.2 h) := by
  unfold runB
  cases u with
  | false => exact zc8 t h p ps o o
  | true =>
    cases ps with
    | nil =>
      have : run (p ++ [t]) [] h h = none := by cases p <;> cases t <;> simp [run]
      simp [this]
    | cons y ps => exact zc8 t h p ps y y
theorem zcg {n : Nat} (h : 2 <= n) : ∃ j, zn n = 2 ^ j /\ 2 ^ j < n /\ n <= 2 ^ (j + 1) := by
  obtain ⟨s1, s2, s3⟩ := z4x h
  refine ⟨Nat.log2 (n - 1), ?_, ?_, ?_⟩
  · unfold zn; rw [if_neg (by omega)]
  · have : zn n = 2 ^ Nat.log2 (n - 1) := by unfold zn; rw [if_neg (by omega)]
    omega
  · have : zn n = 2 ^ Nat.log2 (n - 1) := by unfold zn; rw [if_neg (by omega)]
    have e := Nat.pow_succ (n := 2) (m := Nat.log2 (n - 1))
    omega
/-- What Proof gives says the two roots. -/
theorem zb3 : ∀ (f : Nat) (l : List (List UInt8)) (m : Nat) (kn : Bool) (o : List UInt8), l.length < f -> 0 < m -> m <= l.length -> (m < l.length \/ ∃ j, l.length = 2 ^ j) -> (kn = true -> o = zy (l.take m)) ->
    runB (!kn || decide (0 < (st (m - 1) (l.length - 1)).1)) (z45 (m - 1) (l.length - 1)) (subS l m kn) o = some (zy (l.take m), zy l)
  | 0, _, _, _, _, h, _, _, _, _ => by omega
  | f + 1, l, m, kn, o, hf, h0, hm, hc, ho => by
    by_cases h1 : m = l.length
    · obtain ⟨j, hj⟩ := hc.resolve_left (by omega)
      subst h1
      have e : st (l.length - 1) (l.length - 1) = (0, 0) := by rw [hj]; exact zco j
      unfold z45
      rw [e, zgx, List.take_of_length_le (Nat.le_refl _)]
      simp only [z5o]
      rw [List.take_of_length_le (Nat.le_refl _)] at ho
      cases kn with
      | true => rw [ho rfl]; rfl
      | false => rfl
    · obtain ⟨j, hk, k1, k2⟩ := zcg (n := l.length) (by omega)
      have e2 := Nat.pow_succ (n := 2) (m := j)
      have hp : 0 < 2 ^ j := Nat.pow_pos (by decide)
      have hR : zy l = z1d (zy (l.take (2 ^ j))) (zy (l.drop (2 ^ j))) := by rw [z74 (by omega), hk]
      by_cases h2 : m <= 2 ^ j
      · have hs := zgy (l := l) (m := m) (kn := kn) h0 (by omega) (by rw [hk]; exact h2)
        rw [hk] at hs
        have hl : (l.take (2 ^ j)).length = 2 ^ j := by rw [List.length_take]; omega
        have et : (l.take (2 ^ j)).take m = l.take m := by rw [List.take_take, Nat.min_eq_left h2]
        have ih := zb3 f (l.take (2 ^ j)) m kn o (by omega) h0 (by omega) (.inr ⟨j, hl⟩) (by rw [et]; exact ho)
        rw [hl, et] at ih
        rw [hs, z9l j (m - 1) (l.length - 1) (by omega) (by omega) (by omega), z9w, zcn m (m - 1) (l.length - 1) (2 ^ j - 1) (by omega), ih, hR]
        rfl
      · have hs := zgz (l := l) (m := m) (kn := kn) (by omega) (by rw [hk]; exact h2)
        rw [hk] at hs
        have hl : (l.drop (2 ^ j)).length = l.length - 2 ^ j := by rw [List.length_drop]
        have ih := zb3 f (l.drop (2 ^ j)) (m - 2 ^ j) false o (by omega) (by omega) (by omega) (.inl (by omega)) (by intro h; cases h)
        rw [hl] at ih
        obtain ⟨p1, p2⟩ := zbl (j := j) (i := m - 2 ^ j - 1) (last := l.length - 2 ^ j - 1) (by omega) (by omega)
        rw [show 2 ^ j + (m - 2 ^ j - 1) = m - 1 by omega, show 2 ^ j + (l.length - 2 ^ j - 1) = l.length - 1 by omega] at p1 p2
        have hRm : zy (l.take m) = z1d (zy (l.take (2 ^ j))) (zy ((l.drop (2 ^ j)).take (m - 2 ^ j))) := by
          have hlm : (l.take m).length = m := by rw [List.length_take]; omega
          rw [z74 (by omega), hlm, zch (n := m) (j := j) (by omega) (by omega), List.take_take, Nat.min_eq_left (by omega), List.drop_take]
        rw [hs, p1, z9w, decide_eq_true p2, Bool.or_true]
        simp only [Bool.not_false, Bool.true_or] at ih
        rw [ih, hR, hRm]
        rfl
theorem zdu (i last : Nat) (o : List UInt8) (ps : List (List UInt8)) : chkS i last o ps = runB (decide (0 < (st i last).1)) (z45 i last) ps o := zj7 _ _ _ _
theorem zkl {l : List (List UInt8)} {m : Nat} (hm : m <= l.length) (hl : l.length <= 4096) : chkI m l.length (zy (l.take m)) (zy l) (z1x l m) = 0 := by
  unfold chkI
  rw [if_neg (by omega)]
  by_cases h0 : m = 0
  · subst h0
    rw [if_pos (show ((0 : Nat) : Int) = 0 from rfl), if_pos]
    refine ⟨by unfold z1x; rw [if_neg (by simp)], by simp, ?_⟩
    cases l with
    | nil => exact .inr rfl
    | cons a l => exact .inl (by simp only [List.length_cons]; omega)
  · rw [if_neg (by omega)]
    by_cases h1 : m = l.length
    · subst h1
      rw [if_pos rfl, if_pos]
      exact ⟨by unfold z1x; rw [if_neg (by omega)], by rw [List.take_of_length_le (Nat.le_refl _)]⟩
    · rw [if_neg (by omega)]
      have e : z1x l m = subS l m true := by unfold z1x; rw [if_pos (by omega)]; rfl
      have := zb3 (l.length + 1) l m true (zy (l.take m)) (by omega) (by omega) hm (.inl (by omega)) (fun _ => rfl)
      simp only [Bool.not_true, Bool.false_or] at this
      rw [e, Int.toNat_natCast, Int.toNat_natCast, zdu, this]
      simp [fitI]
end Am
end Go.Proofs.YtncenefkbpelbaaDoor
end
section
/- Proofs: the law ProofsBack: its contract. -/
namespace Go.Proofs.YtncenefkbpelbaaDoor
namespace Am
end Am
end Go.Proofs.YtncenefkbpelbaaDoor
end
section
/- Proofs: plain laws: what the reference says of a proof is what the program's loop says. -/
namespace Go.Proofs.YtncenefkbpelbaaDoor
namespace Am
def z5b : Nat -> Nat -> Nat -> Bool -> List UInt8 -> List (List UInt8) -> List UInt8 × List UInt8 × Bool
  | 0, _, _, _, o, _ => (o, o, false)
  | f + 1, m, n, kn, o, ps =>
    if m = n then (if kn then (o, o, ps.isEmpty) else match ps with
      | [x] => (x, x, true)
      | _ => (o, o, false))
    else match ps.getLast? with
      | none => (o, o, false)
      | some last =>
        if m <= zn n then (let r := z5b f m (zn n) kn o ps.dropLast; (r.1, z1d r.2.1 last, r.2.2))
        else (let r := z5b f (m - zn n) (n - zn n) false o ps.dropLast; (z1d last r.1, z1d last r.2.1, r.2.2))
def okO (r : List UInt8 × List UInt8 × Bool) : Option (List UInt8 × List UInt8) := if r.2.2 then some (r.1, r.2.1) else none
theorem zfx {u : Bool} {p : List Bool} {t : Bool} {o : List UInt8} : runB u (p ++ [t]) [] o = none := by
  cases u with
  | true => rfl
  | false =>
    show run (p ++ [t]) [] o o = none
    cases p <;> cases t <;> simp [run]
theorem zca : ∀ (f m n : Nat) (kn : Bool) (o : List UInt8) (ps : List (List UInt8)), n < f -> 0 < m -> m <= n -> (m < n \/ ∃ j, n = 2 ^ j) ->
    okO (z5b f m n kn o ps) = runB (!kn || decide (0 < (st (m - 1) (n - 1)).1)) (z45 (m - 1) (n - 1)) ps o
  | 0, _, _, _, _, _, h, _, _, _ => by omega
  | f + 1, m, n, kn, o, ps, hf, h0, hm, hc => by
    by_cases h1 : m = n
    · obtain ⟨j, hj⟩ := hc.resolve_left (by omega)
      subst h1
      have e : st (m - 1) (m - 1) = (0, 0) := by rw [hj]; exact zco j
      unfold z45
      simp only [z5b, if_true, e, z5o]
      cases kn with
      | true => cases ps <;> rfl
      | false =>
        match ps with
        | [] => rfl
        | [x] => rfl
        | x :: y :: l => rfl
    · obtain ⟨j, hk, k1, k2⟩ := zcg (n := n) (by omega)
      have e2 := Nat.pow_succ (n := 2) (m := j)
      have hp : 0 < 2 ^ j := Nat.pow_pos (by decide)
      simp only [z5b, if_neg h1, hk]
      rcases List.eq_nil_or_concat ps with rfl | ⟨rest, last, rfl⟩
      · by_cases h2 : m <= 2 ^ j
        · rw [z9l j (m - 1) (n - 1) (by omega) (by omega) (by omega), zfx]; rfl
        · obtain ⟨p1, p2⟩ := zbl (j := j) (i := m - 2 ^ j - 1) (last := n - 2 ^ j - 1) (by omega) (by omega)
          rw [show 2 ^ j + (m - 2 ^ j - 1) = m - 1 by omega, show 2 ^ j + (n - 2 ^ j - 1) = n - 1 by omega] at p1 p2
          rw [p1, zfx]; rfl
      · rw [List.concat_eq_append, List.getLast?_concat, List.dropLast_concat]
        simp only []
        by_cases h2 : m <= 2 ^ j
        · have ih := zca f m (2 ^ j) kn o rest (by omega) h0 h2 (.inr ⟨j, rfl⟩)
          simp only [if_pos h2]
          rw [z9l j (m - 1) (n - 1) (by omega) (by omega) (by omega), z9w, zcn m (m - 1) (n - 1) (2 ^ j - 1) (by omega), <- ih]
          unfold okO
          cases (z5b f m (2 ^ j) kn o rest).2.2 <;> rfl
        · have ih := zca f (m - 2 ^ j) (n - 2 ^ j) false o rest (by omega) (by omega) (by omega) (.inl (by omega))
          obtain ⟨p1, p2⟩ := zbl (j := j) (i := m - 2 ^ j - 1) (last := n - 2 ^ j - 1) (by omega) (by omega)
          rw [show 2 ^ j + (m - 2 ^ j - 1) = m - 1 by omega, show 2 ^ j + (n - 2 ^ j - 1) = n - 1 by omega] at p1 p2
          simp only [if_neg h2]
          simp only [Bool.not_false, Bool.true_or] at ih
          rw [p1, z9w, decide_eq_true p2, Bool.or_true, <- ih]
          unfold okO
          cases (z5b f (m - 2 ^ j) (n - 2 ^ j) false o rest).2.2 <;> rfl
end Am
end Go.Proofs.YtncenefkbpelbaaDoor
end
section
/- Proofs: contract: the reference's says. -/
namespace Go.Proofs.YtncenefkbpelbaaDoor
namespace Am
def z1k : Nat -> Nat -> Nat -> Bool -> Hash -> List Hash -> Hash × Hash × Bool
  | 0, _, _, _, o, _ => (o, o, false)
  | f + 1, m, n, kn, o, ps =>
    if m = n then (if kn then (o, o, ps.isEmpty) else match ps with
      | [x] => (x, x, true)
      | _ => (o, o, false))
    else match ps.getLast? with
      | none => (o, o, false)
      | some last =>
        if m <= zn n then (let r := z1k f m (zn n) kn o ps.dropLast; (r.1, z15 r.2.1 last, r.2.2))
        else (let r := z1k f (m - zn n) (n - zn n) false o ps.dropLast; (z15 last r.1, z15 last r.2.1, r.2.2))
theorem zke (l : List Hash) : (hb l).getLast? = l.getLast?.map (·.1) := List.getLast?_map ..
theorem zkd (l : List Hash) : (hb l).dropLast = hb l.dropLast := by simp [hb]
theorem zc9 : ∀ (f m n : Nat) (kn : Bool) (o : Hash) (ps : List Hash), z5b f m n kn o.1 (hb ps) = ((z1k f m n kn o ps).1.1, (z1k f m n kn o ps).2.1.1, (z1k f m n kn o ps).2.2)
  | 0, _, _, _, _, _ => rfl
  | f + 1, m, n, kn, o, ps => by
    simp only [z5b, z1k]
    by_cases h1 : m = n
    · simp only [if_pos h1]
      cases kn with
      | true => cases ps <;> rfl
      | false =>
        match ps with
        | [] => rfl
        | [x] => rfl
        | x :: y :: l => rfl
    · simp only [if_neg h1]
      rw [zke, zkd]
      cases hl : ps.getLast? with
      | none => rfl
      | some last =>
        simp only [Option.map_some]
        by_cases h2 : m <= zn n
        · simp only [if_pos h2]
          rw [zc9 f]; rfl
        · simp only [if_neg h2]
          rw [zc9 f]; rfl
def sayV (r : Hash × Hash × Bool) : AV := .tup [.agg (hc r.1), .agg (hc r.2.1), .bool r.2.2]
theorem z3y {τ news : Store} (hw : Wf τ.length τ) (a b : Hash) (t : Bool) : DownV τ.length (.tup [.agg (hc a), .agg (hc b), .bool t]) (τ ++ news) (.tup [.agg (hc a), .agg (hc b), .bool t]) τ :=
  DownV.pure hw (by simp only [RL, RLs]; exact ⟨z3j (z6d _), z3j (z6d _), trivial, trivial⟩)
set_option maxHeartbeats 8000000 in
theorem zo0 : ∀ (f : Nat) (O : Store) (m n : Nat) (kn : Bool) (o : Hash) (x : AV) (ps : List Hash), n < f -> 0 < m -> m <= n -> n <= 4096 -> SlV 32 (hr ps) x -> ps.length < 1000000 ->
    ACallsTo TC 113 [.int .i64 m, .int .i64 n, .bool kn, .agg (hc o), x] O (sayV (z1k f m n kn o ps)) O := by
  intro f
  induction f with
  | zero => intro O m n kn o x ps h; omega
  | succ f ih =>
    intro O m n kn o x ps hf h0 hm hn hx hl
    have r1 := hx.len
    rw [z6] at r1
    unfold z12 at r1
    unfold sayV
    by_cases h1 : m = n
    · subst h1
      cases kn with
      | true =>
        have e : z1k (f + 1) m m true o ps = (o, o, ps.isEmpty) := by simp [z1k]
        rw [e]
        refine ACallsTo.of_body quok (by simp) fun hw _ => ?_
        cases ps with
        | nil =>
          repeat' (first|refine zW.zs ?_|refine zW.zb ?_|refine zW.zc ?_|refine zW.zt rfl ?_|refine zW.zf rfl ?_|(refine zW.zd rfl (fun ht => ?_) (fun ht => ?_)<;>try (exfalso;omega))|((first|refine zW.zr ?_|refine zW.zk ?_|refine zW.ze ?_|refine zW.zq ?_|((first|apply zg0|apply zg1|apply zg2|apply zg3|apply zg4|apply zg5|apply zg6|apply zg7)<;>intro ht));all_goals try simp (disch:=first|omega|(simp only [lens];first|done|omega)) only [go_sem,reduceEqDiff,Nat.reduceBEq,reduceAdd,reduceMul,reduceSub,reduceLeDiff,reduceToNat,reducePow, r1]))
          exact z3y hw _ _ _
        | cons y l =>
          have hne : ¬ ((l.length : Int) + 1) = 0 := by omega
          repeat' (first|refine zW.zs ?_|refine zW.zb ?_|refine zW.zc ?_|refine zW.zt rfl ?_|refine zW.zf rfl ?_|(refine zW.zd rfl (fun ht => ?_) (fun ht => ?_)<;>try (exfalso;omega))|((first|refine zW.zr ?_|refine zW.zk ?_|refine zW.ze ?_|refine zW.zq ?_|((first|apply zg0|apply zg1|apply zg2|apply zg3|apply zg4|apply zg5|apply zg6|apply zg7)<;>intro ht));all_goals try simp (disch:=first|omega|(simp only [lens];first|done|omega)) only [go_sem,reduceEqDiff,Nat.reduceBEq,reduceAdd,reduceMul,reduceSub,reduceLeDiff,reduceToNat,reducePow, r1, hne, List.length_cons]))
          exact z3y hw _ _ _
      | false =>
        match ps, hx, hl, r1 with
        | [y], hx, hl, r1 =>
          obtain ⟨ex, rfl⟩ := hx.vsl (by rw [z6]; simp)
          have er : hr [y] = [hc y] := rfl
          rw [er]
          have e : z1k (f + 1) m m false o [y] = (y, y, true) := by simp [z1k]
          rw [e]
          refine ACallsTo.of_body quok (by simp) fun hw _ => ?_
          repeat' (first|refine zW.zs ?_|refine zW.zb ?_|refine zW.zc ?_|refine zW.zt rfl ?_|refine zW.zf rfl ?_|(refine zW.zd rfl (fun ht => ?_) (fun ht => ?_)<;>try (exfalso;omega))|((first|refine zW.zr ?_|refine zW.zk ?_|refine zW.ze ?_|refine zW.zq ?_|((first|apply zg0|apply zg1|apply zg2|apply zg3|apply zg4|apply zg5|apply zg6|apply zg7)<;>intro ht));all_goals try simp (disch:=first|omega|(simp only [lens];first|done|omega)) only [go_sem,reduceEqDiff,Nat.reduceBEq,reduceAdd,reduceMul,reduceSub,reduceLeDiff,reduceToNat,reducePow]))
          exact z3y hw _ _ _
        | [], hx, hl, r1 =>
          have e : z1k (f + 1) m m false o [] = (o, o, false) := by simp [z1k]
          rw [e]
          refine ACallsTo.of_body quok (by simp) fun hw _ => ?_
          repeat' (first|refine zW.zs ?_|refine zW.zb ?_|refine zW.zc ?_|refine zW.zt rfl ?_|refine zW.zf rfl ?_|(refine zW.zd rfl (fun ht => ?_) (fun ht => ?_)<;>try (exfalso;omega))|((first|refine zW.zr ?_|refine zW.zk ?_|refine zW.ze ?_|refine zW.zq ?_|((first|apply zg0|apply zg1|apply zg2|apply zg3|apply zg4|apply zg5|apply zg6|apply zg7)<;>intro ht));all_goals try simp (disch:=first|omega|(simp only [lens];first|done|omega)) only [go_sem,reduceEqDiff,Nat.reduceBEq,reduceAdd,reduceMul,reduceSub,reduceLeDiff,reduceToNat,reducePow, r1]))
          exact z3y hw _ _ _
        | y :: z :: l, hx, hl, r1 =>
          have e : z1k (f + 1) m m false o (y :: z :: l) = (o, o, false) := by simp [z1k]
          rw [e]
          have hne : ¬ ((l.length : Int) + 1 + 1) = 1 := by omega
          refine ACallsTo.of_body quok (by simp) fun hw _ => ?_
          repeat' (first|refine zW.zs ?_|refine zW.zb ?_|refine zW.zc ?_|refine zW.zt rfl ?_|refine zW.zf rfl ?_|(refine zW.zd rfl (fun ht => ?_) (fun ht => ?_)<;>try (exfalso;omega))|((first|refine zW.zr ?_|refine zW.zk ?_|refine zW.ze ?_|refine zW.zq ?_|((first|apply zg0|apply zg1|apply zg2|apply zg3|apply zg4|apply zg5|apply zg6|apply zg7)<;>intro ht));all_goals try simp (disch:=first|omega|(simp only [lens];first|done|omega)) only [go_sem,reduceEqDiff,Nat.reduceBEq,reduceAdd,reduceMul,reduceSub,reduceLeDiff,reduceToNat,reducePow, r1, hne, List.length_cons]))
          exact z3y hw _ _ _
    · have h1' : ¬ (m : Int) = n := by omega
      rcases List.eq_nil_or_concat ps with rfl | ⟨rest, last, e⟩
      · have e : z1k (f + 1) m n kn o [] = (o, o, false) := by simp [z1k, h1]
        rw [e]
        refine ACallsTo.of_body quok (by simp) fun hw _ => ?_
        cases kn with
        | true =>
          repeat' (first|refine zW.zs ?_|refine zW.zb ?_|refine zW.zc ?_|refine zW.zt rfl ?_|refine zW.zf rfl ?_|(refine zW.zd rfl (fun ht => ?_) (fun ht => ?_)<;>try (exfalso;omega))|((first|refine zW.zr ?_|refine zW.zk ?_|refine zW.ze ?_|refine zW.zq ?_|((first|apply zg0|apply zg1|apply zg2|apply zg3|apply zg4|apply zg5|apply zg6|apply zg7)<;>intro ht));all_goals try simp (disch:=first|omega|(simp only [lens];first|done|omega)) only [go_sem,reduceEqDiff,Nat.reduceBEq,reduceAdd,reduceMul,reduceSub,reduceLeDiff,reduceToNat,reducePow, r1, h1']))
          exact z3y hw _ _ _
        | false =>
          repeat' (first|refine zW.zs ?_|refine zW.zb ?_|refine zW.zc ?_|refine zW.zt rfl ?_|refine zW.zf rfl ?_|(refine zW.zd rfl (fun ht => ?_) (fun ht => ?_)<;>try (exfalso;omega))|((first|refine zW.zr ?_|refine zW.zk ?_|refine zW.ze ?_|refine zW.zq ?_|((first|apply zg0|apply zg1|apply zg2|apply zg3|apply zg4|apply zg5|apply zg6|apply zg7)<;>intro ht));all_goals try simp (disch:=first|omega|(simp only [lens];first|done|omega)) only [go_sem,reduceEqDiff,Nat.reduceBEq,reduceAdd,reduceMul,reduceSub,reduceLeDiff,reduceToNat,reducePow, r1, h1']))
          exact z3y hw _ _ _
      · rw [List.concat_eq_append] at e
        subst e
        obtain ⟨s1, s2, s3⟩ := z4x (n := n) (by omega)
        have hsp := fun O => zfn O n (by omega)
        obtain ⟨k, hkd⟩ : ∃ k, zn n = k := ⟨_, rfl⟩
        rw [hkd] at s1 s2 s3 hsp
        obtain ⟨ex, rfl⟩ := hx.vsl (by rw [z6]; simp)
        have e2 : z1k (f + 1) m n kn o (rest ++ [last]) = if m <= k then (let r := z1k f m k kn o rest; (r.1, z15 r.2.1 last, r.2.2)) else (let r := z1k f (m - k) (n - k) false o rest; (z15 last r.1, z15 last r.2.1, r.2.2)) := by
          simp [z1k, h1, hkd]
        rw [e2]
        obtain ⟨l, hll⟩ : ∃ l, rest ++ [last] = l := ⟨_, rfl⟩
        have hL : l.length = rest.length + 1 := by rw [<- hll]; simp
        have hg : hd l rest.length = last := by rw [<- hll]; simp [hd]
        have tk : l.take rest.length = rest := by rw [<- hll]; simp
        rw [hll] at hl ⊢
        have hidx : ((rest.length + 1 : Nat) : Int) - 1 = rest.length := by omega
        by_cases hle' : m <= k
        · have hle : (m : Int) <= k := by omega
          rw [if_pos hle']
          have i1 := fun O b => ih O m k kn o (.vsl 32 (hr rest) b) rest (by omega) h0 hle' (by omega) (.inr ⟨b, rfl⟩) (by omega)
          generalize z1k f m k kn o rest = r at *
          obtain ⟨ra, rb, rok⟩ := r
          simp only [sayV] at i1 ⊢
          have hN := fun O => z5t O rb last
          refine ACallsTo.of_body quok (by simp) fun hw _ => ?_
          cases kn with
          | true =>
            repeat' (first|refine zW.zs ?_|refine zW.zb ?_|refine zW.zc ?_|refine zW.zt rfl ?_|refine zW.zf rfl ?_|(refine zW.zd rfl (fun ht => ?_) (fun ht => ?_)<;>try (exfalso;omega))|((first|refine zW.zr ?_|refine zW.zk ?_|refine zW.ze ?_|refine zW.zq ?_|((first|apply zg0|apply zg1|apply zg2|apply zg3|apply zg4|apply zg5|apply zg6|apply zg7)<;>intro ht));all_goals try simp (disch:=first|omega|(simp only [lens];first|done|omega)) only [go_sem,reduceEqDiff,Nat.reduceBEq,reduceAdd,reduceMul,reduceSub,reduceLeDiff,reduceToNat,reducePow, hL, h1']))
            refine zW.reg2 ?_ ?_
            · simp (disch:=first|omega|(simp only [lens];first|done|omega)) only [go_sem,reduceEqDiff,Nat.reduceBEq,reduceAdd,reduceMul,reduceSub,reduceLeDiff,reduceToNat,reducePow, hL, hidx, hg, tk]
              repeat' (first|refine zW.zs ?_|refine zW.zb ?_|refine zW.zc ?_|refine zW.zt rfl ?_|refine zW.zf rfl ?_|(refine zW.zd rfl (fun ht => ?_) (fun ht => ?_)<;>try (exfalso;omega))|((first|refine zW.zr ?_|refine zW.zk ?_|refine zW.ze ?_|refine zW.zq ?_|(apply callW.mk_pu; (first | exact (fun _ => hsp _) | exact (fun _ => i1 _ _) | exact (fun _ => hN _))) | (apply callW.za; (first | exact (hsp _) | exact (i1 _ _) | exact (hN _))) | ((first|apply zg0|apply zg1|apply zg2|apply zg3|apply zg4|apply zg5|apply zg6|apply zg7)<;>intro ht));all_goals try simp (disch:=first|omega|(simp only [lens];first|done|omega)) only [go_sem,reduceEqDiff,Nat.reduceBEq,reduceAdd,reduceMul,reduceSub,reduceLeDiff,reduceToNat,reducePow, hL, hidx, hg, tk, hle]))
              exact z3y hw _ _ _
            · simp (disch:=first|omega|(simp only [lens];first|done|omega)) only [go_sem,reduceEqDiff,Nat.reduceBEq,reduceAdd,reduceMul,reduceSub,reduceLeDiff,reduceToNat,reducePow, hL, hidx, hg, tk]
              repeat' (first|refine zW.zs ?_|refine zW.zb ?_|refine zW.zc ?_|refine zW.zt rfl ?_|refine zW.zf rfl ?_|(refine zW.zd rfl (fun ht => ?_) (fun ht => ?_)<;>try (exfalso;omega))|((first|refine zW.zr ?_|refine zW.zk ?_|refine zW.ze ?_|refine zW.zq ?_|(apply callW.mk_pu; (first | exact (fun _ => hsp _) | exact (fun _ => i1 _ _) | exact (fun _ => hN _))) | (apply callW.za; (first | exact (hsp _) | exact (i1 _ _) | exact (hN _))) | ((first|apply zg0|apply zg1|apply zg2|apply zg3|apply zg4|apply zg5|apply zg6|apply zg7)<;>intro ht));all_goals try simp (disch:=first|omega|(simp only [lens];first|done|omega)) only [go_sem,reduceEqDiff,Nat.reduceBEq,reduceAdd,reduceMul,reduceSub,reduceLeDiff,reduceToNat,reducePow, hL, hidx, hg, tk, hle]))
              exact z3y hw _ _ _
          | false =>
            repeat' (first|refine zW.zs ?_|refine zW.zb ?_|refine zW.zc ?_|refine zW.zt rfl ?_|refine zW.zf rfl ?_|(refine zW.zd rfl (fun ht => ?_) (fun ht => ?_)<;>try (exfalso;omega))|((first|refine zW.zr ?_|refine zW.zk ?_|refine zW.ze ?_|refine zW.zq ?_|((first|apply zg0|apply zg1|apply zg2|apply zg3|apply zg4|apply zg5|apply zg6|apply zg7)<;>intro ht));all_goals try simp (disch:=first|omega|(simp only [lens];first|done|omega)) only [go_sem,reduceEqDiff,Nat.reduceBEq,reduceAdd,reduceMul,reduceSub,reduceLeDiff,reduceToNat,reducePow, hL, h1']))
            refine zW.reg2 ?_ ?_
            · simp (disch:=first|omega|(simp only [lens];first|done|omega)) only [go_sem,reduceEqDiff,Nat.reduceBEq,reduceAdd,reduceMul,reduceSub,reduceLeDiff,reduceToNat,reducePow, hL, hidx, hg, tk]
              repeat' (first|refine zW.zs ?_|refine zW.zb ?_|refine zW.zc ?_|refine zW.zt rfl ?_|refine zW.zf rfl ?_|(refine zW.zd rfl (fun ht => ?_) (fun ht => ?_)<;>try (exfalso;omega))|((first|refine zW.zr ?_|refine zW.zk ?_|refine zW.ze ?_|refine zW.zq ?_|(apply callW.mk_pu; (first | exact (fun _ => hsp _) | exact (fun _ => i1 _ _) | exact (fun _ => hN _))) | (apply callW.za; (first | exact (hsp _) | exact (i1 _ _) | exact (hN _))) | ((first|apply zg0|apply zg1|apply zg2|apply zg3|apply zg4|apply zg5|apply zg6|apply zg7)<;>intro ht));all_goals try simp (disch:=first|omega|(simp only [lens];first|done|omega)) only [go_sem,reduceEqDiff,Nat.reduceBEq,reduceAdd,reduceMul,reduceSub,reduceLeDiff,reduceToNat,reducePow, hL, hidx, hg, tk, hle]))
              exact z3y hw _ _ _
            · simp (disch:=first|omega|(simp only [lens];first|done|omega)) only [go_sem,reduceEqDiff,Nat.reduceBEq,reduceAdd,reduceMul,reduceSub,reduceLeDiff,reduceToNat,reducePow, hL, hidx, hg, tk]
              repeat' (first|refine zW.zs ?_|refine zW.zb ?_|refine zW.zc ?_|refine zW.zt rfl ?_|refine zW.zf rfl ?_|(refine zW.zd rfl (fun ht => ?_) (fun ht => ?_)<;>try (exfalso;omega))|((first|refine zW.zr ?_|refine zW.zk ?_|refine zW.ze ?_|refine zW.zq ?_|(apply callW.mk_pu; (first | exact (fun _ => hsp _) | exact (fun _ => i1 _ _) | exact (fun _ => hN _))) | (apply callW.za; (first | exact (hsp _) | exact (i1 _ _) | exact (hN _))) | ((first|apply zg0|apply zg1|apply zg2|apply zg3|apply zg4|apply zg5|apply zg6|apply zg7)<;>intro ht));all_goals try simp (disch:=first|omega|(simp only [lens];first|done|omega)) only [go_sem,reduceEqDiff,Nat.reduceBEq,reduceAdd,reduceMul,reduceSub,reduceLeDiff,reduceToNat,reducePow, hL, hidx, hg, tk, hle]))
              exact z3y hw _ _ _
        · have hle : ¬ (m : Int) <= k := by omega
          rw [if_neg hle']
          have i1 := fun O b => ih O (m - k) (n - k) false o (.vsl 32 (hr rest) b) rest (by omega) (by omega) (by omega) (by omega) (.inr ⟨b, rfl⟩) (by omega)
          have hmk : (m : Int) - k = ((m - k : Nat) : Int) := by omega
          have hnk : (n : Int) - k = ((n - k : Nat) : Int) := by omega
          generalize z1k f (m - k) (n - k) false o rest = r at *
          obtain ⟨ra, rb, rok⟩ := r
          simp only [sayV] at i1 ⊢
          have hN := fun O => z5t O last ra
          have hN2 := fun O => z5t O last rb
          refine ACallsTo.of_body quok (by simp) fun hw _ => ?_
          cases kn with
          | true =>
            repeat' (first|refine zW.zs ?_|refine zW.zb ?_|refine zW.zc ?_|refine zW.zt rfl ?_|refine zW.zf rfl ?_|(refine zW.zd rfl (fun ht => ?_) (fun ht => ?_)<;>try (exfalso;omega))|((first|refine zW.zr ?_|refine zW.zk ?_|refine zW.ze ?_|refine zW.zq ?_|((first|apply zg0|apply zg1|apply zg2|apply zg3|apply zg4|apply zg5|apply zg6|apply zg7)<;>intro ht));all_goals try simp (disch:=first|omega|(simp only [lens];first|done|omega)) only [go_sem,reduceEqDiff,Nat.reduceBEq,reduceAdd,reduceMul,reduceSub,reduceLeDiff,reduceToNat,reducePow, hL, h1']))
            refine zW.reg2 ?_ ?_
            · simp (disch:=first|omega|(simp only [lens];first|done|omega)) only [go_sem,reduceEqDiff,Nat.reduceBEq,reduceAdd,reduceMul,reduceSub,reduceLeDiff,reduceToNat,reducePow, hL, hidx, hg, tk]
              repeat' (first|refine zW.zs ?_|refine zW.zb ?_|refine zW.zc ?_|refine zW.zt rfl ?_|refine zW.zf rfl ?_|(refine zW.zd rfl (fun ht => ?_) (fun ht => ?_)<;>try (exfalso;omega))|((first|refine zW.zr ?_|refine zW.zk ?_|refine zW.ze ?_|refine zW.zq ?_|(apply callW.mk_pu; (first | exact (fun _ => hsp _) | exact (fun _ => i1 _ _) | exact (fun _ => hN _) | exact (fun _ => hN2 _))) | (apply callW.za; (first | exact (hsp _) | exact (i1 _ _) | exact (hN _) | exact (hN2 _))) | ((first|apply zg0|apply zg1|apply zg2|apply zg3|apply zg4|apply zg5|apply zg6|apply zg7)<;>intro ht));all_goals try simp (disch:=first|omega|(simp only [lens];first|done|omega)) only [go_sem,reduceEqDiff,Nat.reduceBEq,reduceAdd,reduceMul,reduceSub,reduceLeDiff,reduceToNat,reducePow, hL, hidx, hg, tk, hle, hmk, hnk]))
              exact z3y hw _ _ _
            · simp (disch:=first|omega|(simp only [lens];first|done|omega)) only [go_sem,reduceEqDiff,Nat.reduceBEq,reduceAdd,reduceMul,reduceSub,reduceLeDiff,reduceToNat,reducePow, hL, hidx, hg, tk]
              repeat' (first|refine zW.zs ?_|refine zW.zb ?_|refine zW.zc ?_|refine zW.zt rfl ?_|refine zW.zf rfl ?_|(refine zW.zd rfl (fun ht => ?_) (fun ht => ?_)<;>try (exfalso;omega))|((first|refine zW.zr ?_|refine zW.zk ?_|refine zW.ze ?_|refine zW.zq ?_|(apply callW.mk_pu; (first | exact (fun _ => hsp _) | exact (fun _ => i1 _ _) | exact (fun _ => hN _) | exact (fun _ => hN2 _))) | (apply callW.za; (first | exact (hsp _) | exact (i1 _ _) | exact (hN _) | exact (hN2 _))) | ((first|apply zg0|apply zg1|apply zg2|apply zg3|apply zg4|apply zg5|apply zg6|apply zg7)<;>intro ht));all_goals try simp (disch:=first|omega|(simp only [lens];first|done|omega)) only [go_sem,reduceEqDiff,Nat.reduceBEq,reduceAdd,reduceMul,reduceSub,reduceLeDiff,reduceToNat,reducePow, hL, hidx, hg, tk, hle, hmk, hnk]))
              exact z3y hw _ _ _
          | false =>
            repeat' (first|refine zW.zs ?_|refine zW.zb ?_|refine zW.zc ?_|refine zW.zt rfl ?_|refine zW.zf rfl ?_|(refine zW.zd rfl (fun ht => ?_) (fun ht => ?_)<;>try (exfalso;omega))|((first|refine zW.zr ?_|refine zW.zk ?_|refine zW.ze ?_|refine zW.zq ?_|((first|apply zg0|apply zg1|apply zg2|apply zg3|apply zg4|apply zg5|apply zg6|apply zg7)<;>intro ht));all_goals try simp (disch:=first|omega|(simp only [lens];first|done|omega)) only [go_sem,reduceEqDiff,Nat.reduceBEq,reduceAdd,reduceMul,reduceSub,reduceLeDiff,reduceToNat,reducePow, hL, h1']))
            refine zW.reg2 ?_ ?_
            · simp (disch:=first|omega|(simp only [lens];first|done|omega)) only [go_sem,reduceEqDiff,Nat.reduceBEq,reduceAdd,reduceMul,reduceSub,reduceLeDiff,reduceToNat,reducePow, hL, hidx, hg, tk]
              repeat' (first|refine zW.zs ?_|refine zW.zb ?_|refine zW.zc ?_|refine zW.zt rfl ?_|refine zW.zf rfl ?_|(refine zW.zd rfl (fun ht => ?_) (fun ht => ?_)<;>try (exfalso;omega))|((first|refine zW.zr ?_|refine zW.zk ?_|refine zW.ze ?_|refine zW.zq ?_|(apply callW.mk_pu; (first | exact (fun _ => hsp _) | exact (fun _ => i1 _ _) | exact (fun _ => hN _) | exact (fun _ => hN2 _))) | (apply callW.za; (first | exact (hsp _) | exact (i1 _ _) | exact (hN _) | exact (hN2 _))) | ((first|apply zg0|apply zg1|apply zg2|apply zg3|apply zg4|apply zg5|apply zg6|apply zg7)<;>intro ht));all_goals try simp (disch:=first|omega|(simp only [lens];first|done|omega)) only [go_sem,reduceEqDiff,Nat.reduceBEq,reduceAdd,reduceMul,reduceSub,reduceLeDiff,reduceToNat,reducePow, hL, hidx, hg, tk, hle, hmk, hnk]))
              exact z3y hw _ _ _
            · simp (disch:=first|omega|(simp only [lens];first|done|omega)) only [go_sem,reduceEqDiff,Nat.reduceBEq,reduceAdd,reduceMul,reduceSub,reduceLeDiff,reduceToNat,reducePow, hL, hidx, hg, tk]
              repeat' (first|refine zW.zs ?_|refine zW.zb ?_|refine zW.zc ?_|refine zW.zt rfl ?_|refine zW.zf rfl ?_|(refine zW.zd rfl (fun ht => ?_) (fun ht => ?_)<;>try (exfalso;omega))|((first|refine zW.zr ?_|refine zW.zk ?_|refine zW.ze ?_|refine zW.zq ?_|(apply callW.mk_pu; (first | exact (fun _ => hsp _) | exact (fun _ => i1 _ _) | exact (fun _ => hN _) | exact (fun _ => hN2 _))) | (apply callW.za; (first | exact (hsp _) | exact (i1 _ _) | exact (hN _) | exact (hN2 _))) | ((first|apply zg0|apply zg1|apply zg2|apply zg3|apply zg4|apply zg5|apply zg6|apply zg7)<;>intro ht));all_goals try simp (disch:=first|omega|(simp only [lens];first|done|omega)) only [go_sem,reduceEqDiff,Nat.reduceBEq,reduceAdd,reduceMul,reduceSub,reduceLeDiff,reduceToNat,reducePow, hL, hidx, hg, tk, hle, hmk, hnk]))
              exact z3y hw _ _ _
end Am
end Go.Proofs.YtncenefkbpelbaaDoor
end
section
/- Proofs: contract: the reference's Check. -/
namespace Go.Proofs.YtncenefkbpelbaaDoor
namespace Am
def chkH (m n : Int) (o nw : Hash) (ps : List Hash) : Int := chkI m n o.1 nw.1 (hb ps)
theorem zj8 {m n : Nat} {o nw : Hash} {ps : List Hash} (h0 : 0 < m) (h1 : m < n) (h2 : n <= 4096) :
    chkH m n o nw ps = if (z1k (n + 1) m n true o ps).2.2 = true /\ (z1k (n + 1) m n true o ps).1 = o /\ (z1k (n + 1) m n true o ps).2.1 = nw then 0 else 80 := by
  have e := zca (n + 1) m n true o.1 (hb ps) (by omega) h0 (by omega) (.inl h1)
  rw [zc9, Bool.not_true, Bool.false_or, <- zdu] at e
  unfold chkH chkI
  rw [if_neg (by omega), if_neg (by omega), if_neg (by omega), Int.toNat_natCast, Int.toNat_natCast, <- e]
  generalize z1k (n + 1) m n true o ps = r
  obtain ⟨a, b, t⟩ := r
  cases t with
  | false => simp [okO, fitI]
  | true => simp [okO, fitI, Subtype.ext_iff]
set_option maxHeartbeats 8000000 in
theorem znb (O : Store) (m n : Int) (o nw : Hash) (x : AV) (ps : List Hash) (hx : SlV 32 (hr ps) x) (hl : ps.length < 1000000) :
    ACallsTo TC 68 [.int .i64 m, .int .i64 n, .agg (hc o), .agg (hc nw), x] O (.int .i64 (chkH m n o nw ps)) O := by
  have r1 := hx.len
  rw [z6] at r1
  unfold z12 at r1
  have hps : hb ps = [] ↔ ps.length = 0 := by rw [<- List.length_eq_zero_iff, z58]
  by_cases hb1 : n < 0 \/ 4096 < n \/ m < 0 \/ n < m
  · have e : chkH m n o nw ps = 2 := by unfold chkH chkI; rw [if_pos hb1]
    rw [e]
    refine ACallsTo.of_body qqok (by simp) fun hw _ => ?_
    repeat' (first|refine zW.zs ?_|refine zW.zb ?_|refine zW.zc ?_|refine zW.zt rfl ?_|refine zW.zf rfl ?_|(refine zW.zd rfl (fun ht => ?_) (fun ht => ?_)<;>try (exfalso;omega))|((first|refine zW.zr ?_|refine zW.zk ?_|refine zW.ze ?_|refine zW.zq ?_|((first|apply zg0|apply zg1|apply zg2|apply zg3|apply zg4|apply zg5|apply zg6|apply zg7)<;>intro ht));all_goals try simp (disch:=first|omega|(simp only [lens];first|done|omega)) only [go_sem,reduceEqDiff,Nat.reduceBEq,reduceAdd,reduceMul,reduceSub,reduceLeDiff,reduceToNat,reducePow, r1]))
    all_goals exact DownV.pure hw (z14 _ rfl)
  · by_cases hm0 : m = 0
    · subst hm0
      have hS : ∀ O, ACallsTo TC 70 [.str []] O (.agg (hc (shaH []))) O := fun O => z5u O [] (by simp)
      have e : chkH 0 n o nw ps = if ps.length = 0 /\ o = shaH [] /\ (0 < n \/ o = nw) then 0 else 80 := by
        unfold chkH chkI
        rw [if_neg hb1, if_pos rfl, z9v]
        have h1 : (o.1 = shaS []) ↔ (o = shaH []) := by rw [Subtype.ext_iff]; rfl
        have h2 : (nw.1 = o.1) ↔ (o = nw) := by rw [<- Subtype.ext_iff]; exact eq_comm
        simp only [hps, h1, h2]
      rw [e]
      refine ACallsTo.of_body qqok (by simp) fun hw _ => ?_
      by_cases c1 : ps.length = 0
      · by_cases c2 : o = shaH []
        · have d2 := decide_eq_true c2
          by_cases c3 : 0 < n
          · rw [if_pos ⟨c1, c2, .inl c3⟩]
            repeat' (first|refine zW.zs ?_|refine zW.zb ?_|refine zW.zc ?_|refine zW.zt rfl ?_|refine zW.zf rfl ?_|(refine zW.zd rfl (fun ht => ?_) (fun ht => ?_)<;>try (exfalso;omega))|((first|refine zW.zr ?_|refine zW.zk ?_|refine zW.ze ?_|refine zW.zq ?_|(apply callW.mk_pu; (first | exact (fun _ => hS _))) | (apply callW.za; (first | exact (hS _))) | ((first|apply zg0|apply zg1|apply zg2|apply zg3|apply zg4|apply zg5|apply zg6|apply zg7)<;>intro ht));all_goals try simp (disch:=first|omega|(simp only [lens];first|done|omega)) only [go_sem,reduceEqDiff,Nat.reduceBEq,reduceAdd,reduceMul,reduceSub,reduceLeDiff,reduceToNat,reducePow, r1, c1, d2]))
            exact DownV.pure hw (z14 _ rfl)
          · by_cases c4 : o = nw
            · have d4 := decide_eq_true c4
              rw [if_pos ⟨c1, c2, .inr c4⟩]
              repeat' (first|refine zW.zs ?_|refine zW.zb ?_|refine zW.zc ?_|refine zW.zt rfl ?_|refine zW.zf rfl ?_|(refine zW.zd rfl (fun ht => ?_) (fun ht => ?_)<;>try (exfalso;omega))|((first|refine zW.zr ?_|refine zW.zk ?_|refine zW.ze ?_|refine zW.zq ?_|(apply callW.mk_pu; (first | exact (fun _ => hS _))) | (apply callW.za; (first | exact (hS _))) | ((first|apply zg0|apply zg1|apply zg2|apply zg3|apply zg4|apply zg5|apply zg6|apply zg7)<;>intro ht));all_goals try simp (disch:=first|omega|(simp only [lens];first|done|omega)) only [go_sem,reduceEqDiff,Nat.reduceBEq,reduceAdd,reduceMul,reduceSub,reduceLeDiff,reduceToNat,reducePow, r1, c1, d2, d4]))
              exact DownV.pure hw (z14 _ rfl)
            · have d4 := decide_eq_false c4
              rw [if_neg (fun h => h.2.2.elim c3 c4)]
              repeat' (first|refine zW.zs ?_|refine zW.zb ?_|refine zW.zc ?_|refine zW.zt rfl ?_|refine zW.zf rfl ?_|(refine zW.zd rfl (fun ht => ?_) (fun ht => ?_)<;>try (exfalso;omega))|((first|refine zW.zr ?_|refine zW.zk ?_|refine zW.ze ?_|refine zW.zq ?_|(apply callW.mk_pu; (first | exact (fun _ => hS _))) | (apply callW.za; (first | exact (hS _))) | ((first|apply zg0|apply zg1|apply zg2|apply zg3|apply zg4|apply zg5|apply zg6|apply zg7)<;>intro ht));all_goals try simp (disch:=first|omega|(simp only [lens];first|done|omega)) only [go_sem,reduceEqDiff,Nat.reduceBEq,reduceAdd,reduceMul,reduceSub,reduceLeDiff,reduceToNat,reducePow, r1, c1, d2, d4]))
              exact DownV.pure hw (z14 _ rfl)
        · have d2 := decide_eq_false c2
          rw [if_neg (fun h => c2 h.2.1)]
          repeat' (first|refine zW.zs ?_|refine zW.zb ?_|refine zW.zc ?_|refine zW.zt rfl ?_|refine zW.zf rfl ?_|(refine zW.zd rfl (fun ht => ?_) (fun ht => ?_)<;>try (exfalso;omega))|((first|refine zW.zr ?_|refine zW.zk ?_|refine zW.ze ?_|refine zW.zq ?_|(apply callW.mk_pu; (first | exact (fun _ => hS _))) | (apply callW.za; (first | exact (hS _))) | ((first|apply zg0|apply zg1|apply zg2|apply zg3|apply zg4|apply zg5|apply zg6|apply zg7)<;>intro ht));all_goals try simp (disch:=first|omega|(simp only [lens];first|done|omega)) only [go_sem,reduceEqDiff,Nat.reduceBEq,reduceAdd,reduceMul,reduceSub,reduceLeDiff,reduceToNat,reducePow, r1, c1, d2]))
          exact DownV.pure hw (z14 _ rfl)
      · have c1' : ¬ (ps.length : Int) = 0 := by omega
        rw [if_neg (fun h => c1 h.1)]
        repeat' (first|refine zW.zs ?_|refine zW.zb ?_|refine zW.zc ?_|refine zW.zt rfl ?_|refine zW.zf rfl ?_|(refine zW.zd rfl (fun ht => ?_) (fun ht => ?_)<;>try (exfalso;omega))|((first|refine zW.zr ?_|refine zW.zk ?_|refine zW.ze ?_|refine zW.zq ?_|(apply callW.mk_pu; (first | exact (fun _ => hS _))) | (apply callW.za; (first | exact (hS _))) | ((first|apply zg0|apply zg1|apply zg2|apply zg3|apply zg4|apply zg5|apply zg6|apply zg7)<;>intro ht));all_goals try simp (disch:=first|omega|(simp only [lens];first|done|omega)) only [go_sem,reduceEqDiff,Nat.reduceBEq,reduceAdd,reduceMul,reduceSub,reduceLeDiff,reduceToNat,reducePow, r1, c1']))
        exact DownV.pure hw (z14 _ rfl)
    · by_cases hmn : m = n
      · subst hmn
        have e : chkH m m o nw ps = if ps.length = 0 /\ o = nw then 0 else 80 := by
          unfold chkH chkI
          rw [if_neg hb1, if_neg hm0, if_pos rfl]
          simp only [hps, <- Subtype.ext_iff]
        rw [e]
        refine ACallsTo.of_body qqok (by simp) fun hw _ => ?_
        by_cases c1 : ps.length = 0
        · by_cases c2 : o = nw
          · have d2 := decide_eq_true c2
            rw [if_pos ⟨c1, c2⟩]
            repeat' (first|refine zW.zs ?_|refine zW.zb ?_|refine zW.zc ?_|refine zW.zt rfl ?_|refine zW.zf rfl ?_|(refine zW.zd rfl (fun ht => ?_) (fun ht => ?_)<;>try (exfalso;omega))|((first|refine zW.zr ?_|refine zW.zk ?_|refine zW.ze ?_|refine zW.zq ?_|((first|apply zg0|apply zg1|apply zg2|apply zg3|apply zg4|apply zg5|apply zg6|apply zg7)<;>intro ht));all_goals try simp (disch:=first|omega|(simp only [lens];first|done|omega)) only [go_sem,reduceEqDiff,Nat.reduceBEq,reduceAdd,reduceMul,reduceSub,reduceLeDiff,reduceToNat,reducePow, r1, c1, d2]))
            exact DownV.pure hw (z14 _ rfl)
          · have d2 := decide_eq_false c2
            rw [if_neg (fun h => c2 h.2)]
            repeat' (first|refine zW.zs ?_|refine zW.zb ?_|refine zW.zc ?_|refine zW.zt rfl ?_|refine zW.zf rfl ?_|(refine zW.zd rfl (fun ht => ?_) (fun ht => ?_)<;>try (exfalso;omega))|((first|refine zW.zr ?_|refine zW.zk ?_|refine zW.ze ?_|refine zW.zq ?_|((first|apply zg0|apply zg1|apply zg2|apply zg3|apply zg4|apply zg5|apply zg6|apply zg7)<;>intro ht));all_goals try simp (disch:=first|omega|(simp only [lens];first|done|omega)) only [go_sem,reduceEqDiff,Nat.reduceBEq,reduceAdd,reduceMul,reduceSub,reduceLeDiff,reduceToNat,reducePow, r1, c1, d2]))
            exact DownV.pure hw (z14 _ rfl)
        · have c1' : ¬ (ps.length : Int) = 0 := by omega
          rw [if_neg (fun h => c1 h.1)]
          repeat' (first|refine zW.zs ?_|refine zW.zb ?_|refine zW.zc ?_|refine zW.zt rfl ?_|refine zW.zf rfl ?_|(refine zW.zd rfl (fun ht => ?_) (fun ht => ?_)<;>try (exfalso;omega))|((first|refine zW.zr ?_|refine zW.zk ?_|refine zW.ze ?_|refine zW.zq ?_|((first|apply zg0|apply zg1|apply zg2|apply zg3|apply zg4|apply zg5|apply zg6|apply zg7)<;>intro ht));all_goals try simp (disch:=first|omega|(simp only [lens];first|done|omega)) only [go_sem,reduceEqDiff,Nat.reduceBEq,reduceAdd,reduceMul,reduceSub,reduceLeDiff,reduceToNat,reducePow, r1, c1']))
          exact DownV.pure hw (z14 _ rfl)
      · obtain ⟨m, rfl⟩ : ∃ k : Nat, m = k := ⟨m.toNat, by omega⟩
        obtain ⟨n, rfl⟩ : ∃ k : Nat, n = k := ⟨n.toNat, by omega⟩
        rw [zj8 (by omega) (by omega) (by omega)]
        have i1 := fun O => zo0 (n + 1) O m n true o x ps (by omega) (by omega) (by omega) (by omega) hx hl
        unfold sayV at i1
        generalize z1k (n + 1) m n true o ps = r at *
        obtain ⟨a, b, t⟩ := r
        simp only at i1 ⊢
        refine ACallsTo.of_body qqok (by simp) fun hw _ => ?_
        cases t with
        | false =>
          rw [if_neg (fun h => by cases h.1)]
          repeat' (first|refine zW.zs ?_|refine zW.zb ?_|refine zW.zc ?_|refine zW.zt rfl ?_|refine zW.zf rfl ?_|(refine zW.zd rfl (fun ht => ?_) (fun ht => ?_)<;>try (exfalso;omega))|((first|refine zW.zr ?_|refine zW.zk ?_|refine zW.ze ?_|refine zW.zq ?_|(apply callW.mk_pu; (first | exact (fun _ => i1 _))) | (apply callW.za; (first | exact (i1 _))) | ((first|apply zg0|apply zg1|apply zg2|apply zg3|apply zg4|apply zg5|apply zg6|apply zg7)<;>intro ht));all_goals try simp (disch:=first|omega|(simp only [lens];first|done|omega)) only [go_sem,reduceEqDiff,Nat.reduceBEq,reduceAdd,reduceMul,reduceSub,reduceLeDiff,reduceToNat,reducePow]))
          exact DownV.pure hw (z14 _ rfl)
        | true =>
          by_cases c1 : a = o
          · have d1 := decide_eq_true c1
            by_cases c2 : b = nw
            · have d2 := decide_eq_true c2
              rw [if_pos ⟨rfl, c1, c2⟩]
              repeat' (first|refine zW.zs ?_|refine zW.zb ?_|refine zW.zc ?_|refine zW.zt rfl ?_|refine zW.zf rfl ?_|(refine zW.zd rfl (fun ht => ?_) (fun ht => ?_)<;>try (exfalso;omega))|((first|refine zW.zr ?_|refine zW.zk ?_|refine zW.ze ?_|refine zW.zq ?_|(apply callW.mk_pu; (first | exact (fun _ => i1 _))) | (apply callW.za; (first | exact (i1 _))) | ((first|apply zg0|apply zg1|apply zg2|apply zg3|apply zg4|apply zg5|apply zg6|apply zg7)<;>intro ht));all_goals try simp (disch:=first|omega|(simp only [lens];first|done|omega)) only [go_sem,reduceEqDiff,Nat.reduceBEq,reduceAdd,reduceMul,reduceSub,reduceLeDiff,reduceToNat,reducePow, d1, d2]))
              exact DownV.pure hw (z14 _ rfl)
            · have d2 := decide_eq_false c2
              rw [if_neg (fun h => c2 h.2.2)]
              repeat' (first|refine zW.zs ?_|refine zW.zb ?_|refine zW.zc ?_|refine zW.zt rfl ?_|refine zW.zf rfl ?_|(refine zW.zd rfl (fun ht => ?_) (fun ht => ?_)<;>try (exfalso;omega))|((first|refine zW.zr ?_|refine zW.zk ?_|refine zW.ze ?_|refine zW.zq ?_|(apply callW.mk_pu; (first | exact (fun _ => i1 _))) | (apply callW.za; (first | exact (i1 _))) | ((first|apply zg0|apply zg1|apply zg2|apply zg3|apply zg4|apply zg5|apply zg6|apply zg7)<;>intro ht));all_goals try simp (disch:=first|omega|(simp only [lens];first|done|omega)) only [go_sem,reduceEqDiff,Nat.reduceBEq,reduceAdd,reduceMul,reduceSub,reduceLeDiff,reduceToNat,reducePow, d1, d2]))
              exact DownV.pure hw (z14 _ rfl)
          · have d1 := decide_eq_false c1
            rw [if_neg (fun h => c1 h.2.1)]
            repeat' (first|refine zW.zs ?_|refine zW.zb ?_|refine zW.zc ?_|refine zW.zt rfl ?_|refine zW.zf rfl ?_|(refine zW.zd rfl (fun ht => ?_) (fun ht => ?_)<;>try (exfalso;omega))|((first|refine zW.zr ?_|refine zW.zk ?_|refine zW.ze ?_|refine zW.zq ?_|(apply callW.mk_pu; (first | exact (fun _ => i1 _))) | (apply callW.za; (first | exact (i1 _))) | ((first|apply zg0|apply zg1|apply zg2|apply zg3|apply zg4|apply zg5|apply zg6|apply zg7)<;>intro ht));all_goals try simp (disch:=first|omega|(simp only [lens];first|done|omega)) only [go_sem,reduceEqDiff,Nat.reduceBEq,reduceAdd,reduceMul,reduceSub,reduceLeDiff,reduceToNat,reducePow, d1]))
            exact DownV.pure hw (z14 _ rfl)
end Am
end Go.Proofs.YtncenefkbpelbaaDoor
end
section
/- Proofs: the law ProofsCheck: its contract. -/
namespace Go.Proofs.YtncenefkbpelbaaDoor
namespace Am
theorem rlH {k : Nat} (h : Hash) : RL k (.agg (hc h)) := z3j (z6d h)
theorem zmx (O : Store) (m n : Int) (o nw : Hash) (x : AV) (ps : List Hash) (hx : RdSl O 32 (hr ps) x) (hl : ps.length < 1000000) :
    ACallsTo TC 64 [.int .i64 m, .int .i64 n, .agg (hc o), .agg (hc nw), x] O (.int .i64 (chkH m n o nw ps)) O :=
  zhk O m n o.1 nw.1 x (hb ps) (by rw [z67]; exact hx) (hb_H ps) o.2 nw.2 (by rw [z58]; exact hl)
theorem zmy (O : Store) (m n : Int) (o nw : Hash) (x : AV) (ps : List Hash) (hx : RdSl O 32 (hr ps) x) (hl : ps.length < 1000000) :
    ACallsTo TC 68 [.int .i64 m, .int .i64 n, .agg (hc o), .agg (hc nw), x] O (.int .i64 (chkH m n o nw ps)) O := by
  obtain ⟨x0, h0, hd⟩ := hx.lend (z3f ps)
  have hi : ∀ i : Int, RL 0 (.int .i64 i) := fun i => by simp [RL]
  have := ACallsTo.lend glok (znb [] m n o nw x0 ps h0 hl) (drsc (rl0 (hi m) O) (drsc (rl0 (hi n) O) (drsc (rl0 (rlH o) O) (drsc (rl0 (rlH nw) O) (drs1 hd)))))
  rwa [show sh O.length (.int .i64 (chkH m n o nw ps)) = .int .i64 (chkH m n o nw ps) from rfl, z6h, List.append_nil] at this
def z3w (l : List Hash) (m : Int) : List Hash := unb (z1x (hb l) m)
theorem z9n (l : List Hash) (m : Int) : hb (z3w l m) = z1x (hb l) m := zh8 (zn0 (hb_H l))
theorem zbn (l : List Hash) (m : Int) : (z3w l m).length <= l.length + 1 := by
  have := zn1 (m := m) (hb_H l)
  rwa [<- z9n, z58, z58] at this
theorem zac (O : Store) (l : List Hash) (x : AV) (m : Int) (hx : SlV 32 (hr l) x) (hl : l.length < 1000000) :
    ACallsTo TC 57 [x, .int .i64 m] O (.tup [zz 32 (hr (z3w l m)), .int .i64 (z47 (hb l) m)]) O := by
  refine ACallsP.toDown (zhu O (hb l) x m (by rw [z67]; exact hx) (hb_H l) (by rw [z58]; exact hl)) fun hw v O' h => ?_
  obtain ⟨v2, rfl, h⟩ := h
  rw [<- z9n, z67] at h
  obtain ⟨y, rfl⟩ := h.ext
  exact DownV.all hw (drT (drsc (h.frz (z3f _)) (drs1 (FrzD.same (by simp [RL])))))
attribute [local irreducible] ACallsTo ACallsP
end Am
end Go.Proofs.YtncenefkbpelbaaDoor
end
section
/- Abstract code. (Printed by wip/gen.) -/
set_option maxRecDepth 10000
namespace Go.Proofs.YtncenefkbpelbaaDoor
namespace Am



end Am
end Go.Proofs.YtncenefkbpelbaaDoor
end
section
/- Codec: plain laws: numbers as_ bytes, and back. -/
namespace Go.Proofs.YtncenefkbpelbaaDoor
namespace Am
def u8 (n : Nat) : UInt8 := UInt8.ofNat n
end Am
end Go.Proofs.YtncenefkbpelbaaDoor
end
section
/- Codec: contracts: numbers. -/
namespace Go.Proofs.YtncenefkbpelbaaDoor
namespace Am
attribute [local irreducible] ACallsTo ACallsP
end Am
end Go.Proofs.YtncenefkbpelbaaDoor
end
section
/- Codec: contracts: the number that stands ahead. -/
namespace Go.Proofs.YtncenefkbpelbaaDoor
namespace Am
attribute [local irreducible] ACallsTo ACallsP
end Am
end Go.Proofs.YtncenefkbpelbaaDoor
end
section
/- Codec: contracts: texts, what is cut off, hashes. -/
namespace Go.Proofs.YtncenefkbpelbaaDoor
namespace Am
attribute [local irreducible] ACallsTo ACallsP
end Am
end Go.Proofs.YtncenefkbpelbaaDoor
end
section
/- Codec: contracts: the hash that stands ahead. -/
namespace Go.Proofs.YtncenefkbpelbaaDoor
namespace Am
attribute [local irreducible] ACallsTo ACallsP
def toH (l : List UInt8) : Hash := if h : l.length = 32 then ⟨l, h⟩ else z5f
end Am
end Go.Proofs.YtncenefkbpelbaaDoor
end
section
/- Codec: contracts: the list that stands ahead. -/
namespace Go.Proofs.YtncenefkbpelbaaDoor
namespace Am
attribute [local irreducible] ACallsTo ACallsP
end Am
end Go.Proofs.YtncenefkbpelbaaDoor
end
section
/- Codec: contracts: the reference's list. -/
namespace Go.Proofs.YtncenefkbpelbaaDoor
namespace Am
attribute [local irreducible] ACallsTo ACallsP
end Am
end Go.Proofs.YtncenefkbpelbaaDoor
end
section
/- Abstract code. (Printed by wip/gen.) -/
set_option maxRecDepth 10000
namespace Go.Proofs.YtncenefkbpelbaaDoor
namespace Am



end Am
end Go.Proofs.YtncenefkbpelbaaDoor
end
section
/- Abstract code. (Printed by wip/gen.) -/
set_option maxRecDepth 10000
namespace Go.Proofs.YtncenefkbpelbaaDoor
namespace Am



@[go_sem] def q19r0 : List AIns := [
  ⟨some 4,none,.no,.mv (.v (.int .i64 0))⟩,
  ⟨some 5,none,.no,.mv (.v .any)⟩]
@[go_sem] def q19r1 : List AIns := [
  ⟨some 6,none,.no,.mv (.t 0)⟩,
  ⟨some 7,none,.no,.call (.v (.fn 141 [])) [(.t 6)]⟩]
@[go_sem] def q19r2 : List AIns := [
  ⟨some 8,none,.no,.mv (.t 0)⟩,
  ⟨some 9,none,.no,.mv (.t 0)⟩,
  ⟨some 10,none,.no,.nilc (.t 9)⟩,
  ⟨some 11,none,.no,.fa 1 (.t 10)⟩,
  ⟨some 12,none,.no,.load false 1 (.t 11)⟩,
  ⟨some 13,none,.no,.mv (.t 1)⟩,
  ⟨some 14,none,.no,.appB (.t 12) (.t 13)⟩,
  ⟨some 15,none,.no,.nilc (.t 8)⟩,
  ⟨some 16,none,.no,.fa 1 (.t 15)⟩,
  ⟨none,none,.no,.store 1 (.t 16) (.t 14)⟩]
@[go_sem] def q19r3 : List AIns := [
  ⟨some 17,none,.no,.mv (.t 1)⟩,
  ⟨some 18,none,.no,.lenStr (.t 17)⟩,
  ⟨some 4,none,.no,.mv (.t 18)⟩,
  ⟨some 5,none,.no,.mv (.v .any)⟩]
def q19c4 : ACode := .seq (.reg q19r3) .ret
def q19c5 : ACode := .seq (.reg q19r2) q19c4
def q19c6 : ACode := .seq (.reg q19r1) q19c5
def q19c7 : ACode := .seq (.reg q19r0) q19c6
theorem q19ok : cFn TC 125 = some (19, [.t 4, .t 5], q19c7) := by kernel_rfl

@[go_sem] def q1ar0 : List AIns := [
  ⟨some 4,none,.no,.mv (.v .any)⟩]
@[go_sem] def q1ar1 : List AIns := [
  ⟨some 5,none,.no,.mv (.t 0)⟩,
  ⟨some 6,none,.no,.call (.v (.fn 141 [])) [(.t 5)]⟩]
@[go_sem] def q1ar2 : List AIns := [
  ⟨some 7,none,.no,.mv (.t 0)⟩,
  ⟨some 8,none,.no,.mv (.t 0)⟩,
  ⟨some 9,none,.no,.nilc (.t 8)⟩,
  ⟨some 10,none,.no,.fa 1 (.t 9)⟩,
  ⟨some 11,none,.no,.load false 1 (.t 10)⟩,
  ⟨some 12,none,.no,.mv (.t 1)⟩,
  ⟨some 13,none,.no,.lit 1 [(.t 12)]⟩,
  ⟨some 14,none,.no,.appB (.t 11) (.t 13)⟩,
  ⟨some 15,none,.no,.nilc (.t 7)⟩,
  ⟨some 16,none,.no,.fa 1 (.t 15)⟩,
  ⟨none,none,.no,.store 1 (.t 16) (.t 14)⟩]
@[go_sem] def q1ar3 : List AIns := [
  ⟨some 4,none,.no,.mv (.v .any)⟩]
def q1ac4 : ACode := .seq (.reg q1ar3) .ret
def q1ac5 : ACode := .seq (.reg q1ar2) q1ac4
def q1ac6 : ACode := .seq (.reg q1ar1) q1ac5
def q1ac7 : ACode := .seq (.reg q1ar0) q1ac6
theorem q1aok : cFn TC 124 = some (17, [.t 4], q1ac7) := by kernel_rfl

end Am
end Go.Proofs.YtncenefkbpelbaaDoor
end
section
/- Abstract code. (Printed by wip/gen.) -/
set_option maxRecDepth 10000
namespace Go.Proofs.YtncenefkbpelbaaDoor
namespace Am



end Am
end Go.Proofs.YtncenefkbpelbaaDoor
end
section
/- strings.Builder: the contracts of WriteString and WriteByte; a builder of one's own. -/
namespace Go.Proofs.YtncenefkbpelbaaDoor
namespace Am
attribute [local irreducible] ACallsTo ACallsP
theorem zi1 (O : Store) (r : Nat) (t : List UInt8) (hr : O[r]? = some (some [[.bld r, .bnil]])) (h0 : t ≠ []) (hl : t.length <= 1073741824) :
    ACallsTo TC 125 [.ptr r 0 0, .str t] O (.tup [.int .i64 t.length, .any]) (O.set r (some [[.bld r, .bsl O.length t.length]]) ++ [some (zl t)]) := by
  have hz : t.length ≠ 0 := by simpa using h0
  have hs := slen hr
  have hc := zar O r _ hr
  refine ACallsTo.of_body_keep q19ok (by simp) ?_
  repeat' (first|refine zW.zs ?_|refine zW.zb ?_|refine zW.zc ?_|refine zW.zt rfl ?_|refine zW.zf rfl ?_|(refine zW.zd rfl (fun ht => ?_) (fun ht => ?_)<;>try (exfalso;omega))|((first|refine zW.zr ?_|refine zW.zk ?_|refine zW.ze ?_|refine zW.zq ?_|(apply callW.mk_pu; (first | exact (fun _ => hc))) | (apply callW.za; (first | exact (hc))) | ((first|apply zg0|apply zg1|apply zg2|apply zg3|apply zg4|apply zg5|apply zg6|apply zg7)<;>intro ht));all_goals try simp (disch:=first|omega|(simp only [lens,z44,z18,List.length_drop];first|done|omega)) only [go_sem,reduceEqDiff,Nat.reduceBEq,reduceAdd,reduceMul,reduceSub,reduceLeDiff,reduceToNat,reducePow, hr, hz, hs, z5k]))
theorem zi2 (O : Store) (r rb : Nat) (s t : List UInt8) (hr : O[r]? = some (some [[.bld r, .bsl rb s.length]])) (hb : O[rb]? = some (some (zl s))) (hne : rb ≠ r) (h0 : t ≠ []) (hl : s.length + t.length <= 1073741824) :
    ACallsTo TC 125 [.ptr r 0 0, .str t] O (.tup [.int .i64 t.length, .any]) ((O.set rb none).set r (some [[.bld r, .bsl O.length (s.length + t.length)]]) ++ [some (zl (s ++ t))]) := by
  have hz : t.length ≠ 0 := by simpa using h0
  have hs := slen hr
  have hc := zar O r _ hr
  refine ACallsTo.of_body_keep q19ok (by simp) ?_
  repeat' (first|refine zW.zs ?_|refine zW.zb ?_|refine zW.zc ?_|refine zW.zt rfl ?_|refine zW.zf rfl ?_|(refine zW.zd rfl (fun ht => ?_) (fun ht => ?_)<;>try (exfalso;omega))|((first|refine zW.zr ?_|refine zW.zk ?_|refine zW.ze ?_|refine zW.zq ?_|(apply callW.mk_pu; (first | exact (fun _ => hc))) | (apply callW.za; (first | exact (hc))) | ((first|apply zg0|apply zg1|apply zg2|apply zg3|apply zg4|apply zg5|apply zg6|apply zg7)<;>intro ht));all_goals try simp (disch:=first|omega|(simp only [lens,z44,z18,List.length_drop];first|done|omega)) only [go_sem,reduceEqDiff,Nat.reduceBEq,reduceAdd,reduceMul,reduceSub,reduceLeDiff,reduceToNat,reducePow, hr, hb, hz, hs, hne, z5k]))
theorem zi0 (O : Store) (r : Nat) (b : UInt8) (hr : O[r]? = some (some [[.bld r, .bnil]])) :
    ACallsTo TC 124 [.ptr r 0 0, .int .u8 b.toNat] O .any (O.set r (some [[.bld r, .bsl O.length 1]]) ++ [some (zl [b])]) := by
  have hs := slen hr
  have hc := zar O r _ hr
  have hb : zl [b] = [[.int .u8 b.toNat]] := rfl
  rw [hb]
  refine ACallsTo.of_body_keep q1aok (by simp) ?_
  repeat' (first|refine zW.zs ?_|refine zW.zb ?_|refine zW.zc ?_|refine zW.zt rfl ?_|refine zW.zf rfl ?_|(refine zW.zd rfl (fun ht => ?_) (fun ht => ?_)<;>try (exfalso;omega))|((first|refine zW.zr ?_|refine zW.zk ?_|refine zW.ze ?_|refine zW.zq ?_|(apply callW.mk_pu; (first | exact (fun _ => hc))) | (apply callW.za; (first | exact (hc))) | ((first|apply zg0|apply zg1|apply zg2|apply zg3|apply zg4|apply zg5|apply zg6|apply zg7)<;>intro ht));all_goals try simp (disch:=first|omega|(simp only [lens,z44,z18,List.length_drop];first|done|omega)) only [go_sem,reduceEqDiff,Nat.reduceBEq,reduceAdd,reduceMul,reduceSub,reduceLeDiff,reduceToNat,reducePow, hr, hs, z5k]))
/-- A builder of one's own, with its bytes. -/
def BldN (τ O' : Store) (r : Nat) (s : List UInt8) : Prop :=
  τ.length <= r /\ (∃ news, O' = τ ++ news) /\ ((s = [] /\ O'[r]? = some (some [[.bld r, .bnil]])) ∨
    (s ≠ [] /\ ∃ rb, τ.length <= rb /\ rb ≠ r /\ O'[r]? = some (some [[.bld r, .bsl rb s.length]]) /\ O'[rb]? = some (some (zl s))))
theorem BldN.new {τ news : Store} {r : Nat} (hr : τ.length <= r) (h : (τ ++ news)[r]? = some (some [[.bld r, .bnil]])) : BldN τ (τ ++ news) r [] := ⟨hr, ⟨news, rfl⟩, .inl ⟨rfl, h⟩⟩
theorem BldN.ext {τ O' : Store} {r : Nat} {s : List UInt8} (h : BldN τ O' r s) : ∃ news, O' = τ ++ news := h.2.1
theorem BldN.more {τ O' : Store} {r : Nat} {s : List UInt8} (h : BldN τ O' r s) (y : Store) : BldN τ (O' ++ y) r s := by
  obtain ⟨h1, ⟨news, rfl⟩, h2⟩ := h
  refine ⟨h1, ⟨news ++ y, by rw [List.append_assoc]⟩, ?_⟩
  rcases h2 with ⟨e, h2⟩ | ⟨e, rb, h3, h4, h5, h6⟩
  · exact .inl ⟨e, by rw [List.getElem?_append_left (slen h2)]; exact h2⟩
  · exact .inr ⟨e, rb, h3, h4, by rw [List.getElem?_append_left (slen h5)]; exact h5, by rw [List.getElem?_append_left (slen h6)]; exact h6⟩
theorem z89 {τ news : Store} {r : Nat} (x : Option AObj) (h : τ.length <= r) : (τ ++ news).set r x = τ ++ news.set (r - τ.length) x := by rw [List.set_append_right _ _ h]
theorem BldN.write {τ O' : Store} {r : Nat} {s t : List UInt8} (h : BldN τ O' r s) (h0 : t ≠ []) (hl : s.length + t.length <= 1073741824) :
    ∃ O2, ACallsTo TC 125 [.ptr r 0 0, .str t] O' (.tup [.int .i64 t.length, .any]) O2 /\ BldN τ O2 r (s ++ t) := by
  obtain ⟨h1, ⟨news, rfl⟩, ⟨rfl, h2⟩ | ⟨e, rb, h3, h4, h5, h6⟩⟩ := h
  · refine ⟨_, zi1 _ r t h2 h0 (by simpa using hl), h1, ⟨_, by rw [z89 _ h1, List.append_assoc]⟩, .inr ⟨by simpa using h0, (τ ++ news).length, by simp, ?_, ?_, ?_⟩⟩
    · have := slen h2; omega
    · rw [List.getElem?_append_left (by rw [List.length_set]; exact slen h2), List.getElem?_set_self (slen h2)]; rfl
    · rw [List.getElem?_append_right (by rw [List.length_set]; exact Nat.le_refl _), List.length_set, Nat.sub_self]; rfl
  · refine ⟨_, zi2 _ r rb s t h5 h6 h4 h0 hl, h1, ⟨_, by rw [z89 _ h3, z89 _ h1, List.append_assoc]⟩, .inr ⟨by simp [e], (τ ++ news).length, by simp, ?_, ?_, ?_⟩⟩
    · have := slen h5; omega
    · rw [List.getElem?_append_left (by rw [List.length_set, List.length_set]; exact slen h5), List.getElem?_set_self (by rw [List.length_set]; exact slen h5)]; simp
    · rw [List.getElem?_append_right (by rw [List.length_set, List.length_set]; exact Nat.le_refl _), List.length_set, List.length_set, Nat.sub_self]; rfl
theorem BldN.byte {τ O' : Store} {r : Nat} (b : UInt8) (h : BldN τ O' r []) : ∃ O2, ACallsTo TC 124 [.ptr r 0 0, .int .u8 b.toNat] O' .any O2 /\ BldN τ O2 r [b] := by
  obtain ⟨h1, ⟨news, rfl⟩, ⟨_, h2⟩ | ⟨e, _⟩⟩ := h
  · refine ⟨_, zi0 _ r b h2, h1, ⟨_, by rw [z89 _ h1, List.append_assoc]⟩, .inr ⟨by simp, (τ ++ news).length, by simp, ?_, ?_, ?_⟩⟩
    · have := slen h2; omega
    · rw [List.getElem?_append_left (by rw [List.length_set]; exact slen h2), List.getElem?_set_self (slen h2)]; rfl
    · rw [List.getElem?_append_right (by rw [List.length_set]; exact Nat.le_refl _), List.length_set, Nat.sub_self]; rfl
  · exact absurd rfl e
theorem BldN.string {τ O' : Store} {r : Nat} {s : List UInt8} (h : BldN τ O' r s) (h0 : s ≠ []) (hl : s.length <= 1073741824) :
    ∃ news, ACallsTo TC 126 [.ptr r 0 0] O' (.str s) (τ ++ news) := by
  obtain ⟨h1, ⟨news, rfl⟩, ⟨rfl, h2⟩ | ⟨e, rb, h3, h4, h5, h6⟩⟩ := h
  · exact absurd rfl h0
  · have := zif _ r rb s h0 hl h5 h6
    rw [z89 _ h3] at this
    exact ⟨_, this⟩
end Am
end Go.Proofs.YtncenefkbpelbaaDoor
end
section
/- Codec: contracts: the program's list. -/
namespace Go.Proofs.YtncenefkbpelbaaDoor
namespace Am
attribute [local irreducible] ACallsTo ACallsP
end Am
end Go.Proofs.YtncenefkbpelbaaDoor
end
section
/- Lamport: contracts: shown, Leaf. -/
namespace Go.Proofs.YtncenefkbpelbaaDoor
namespace Am
attribute [local irreducible] ACallsTo ACallsP
def shownH (s : List UInt8) : Hash := shaH (3 :: s)
theorem zbz {k : Nat} (h : Hash) : RL k (.agg (hc h)) := by simp only [RL]; exact z6d h
theorem zo5 (O : Store) (s : List UInt8) (h : s.length < 100000000000) : ACallsTo TC 87 [.str s] O (.agg (hc (shaH s))) O := z79 O s h
theorem znl (O : Store) (s : List UInt8) (h : s.length < 900000000) : ACallsTo TC 70 [.str s] O (.agg (hc (shaH s))) O := z5u O s h
end Am
end Go.Proofs.YtncenefkbpelbaaDoor
end
section
/- Lamport: contracts: the reference's Leaf. -/
namespace Go.Proofs.YtncenefkbpelbaaDoor
namespace Am
attribute [local irreducible] ACallsTo ACallsP
theorem OwnR.appB {k : Nat} {O' : Store} {v : AV} {es ys : List (List AV)} (h : OwnR 1 k O' v es) : z4m O' v ys = aApp O' 1 v ys := by
  rcases h with ⟨rfl, rfl⟩ | ⟨r, _, _, rfl, h⟩ <;> rfl
end Am
end Go.Proofs.YtncenefkbpelbaaDoor
end
section
/- Lamport: contracts: Recover. -/
namespace Go.Proofs.YtncenefkbpelbaaDoor
namespace Am
def recS (sig d : List UInt8) (i : Nat) (L : List Hash) : List Hash :=
  (L.set (2 * i + bitS d i) (shownH ((sig.take (32 * i + 32)).drop (32 * i)))).set (2 * i + 1 - bitS d i) (toH ((sig.drop (8192 + 32 * i)).take 32))
def recF (sig d : List UInt8) : Nat -> List Hash
  | 0 => List.replicate 512 z5f
  | i + 1 => recS sig d i (recF sig d i)
theorem zn8 (sig d : List UInt8) : ∀ i, (recF sig d i).length = 512
  | 0 => by rw [recF, List.length_replicate]
  | i + 1 => by rw [recF, recS, List.length_set, List.length_set, zn8 sig d i]
attribute [local irreducible] ACallsTo ACallsP
end Am
end Go.Proofs.YtncenefkbpelbaaDoor
end
section
/- Paths: Check: plain, and the program's contract. -/
namespace Go.Proofs.YtncenefkbpelbaaDoor
namespace Am
attribute [local irreducible] ACallsTo ACallsP
end Am
end Go.Proofs.YtncenefkbpelbaaDoor
end
section
/- Paths: the reference's Check; both say the same of eight. -/
namespace Go.Proofs.YtncenefkbpelbaaDoor
namespace Am
attribute [local irreducible] ACallsTo ACallsP
end Am
end Go.Proofs.YtncenefkbpelbaaDoor
end
section
/- Paths: the reference's Check; both say the same of eight. -/
namespace Go.Proofs.YtncenefkbpelbaaDoor
namespace Am
attribute [local irreducible] ACallsTo ACallsP
end Am
end Go.Proofs.YtncenefkbpelbaaDoor
end
section
/- Keytree: contracts: Verify. -/
namespace Go.Proofs.YtncenefkbpelbaaDoor
namespace Am
theorem RdSl.cells {O : Store} {sz : Nat} {es : List (List AV)} {x : AV} (h : RdSl O sz es x) : cellsOf x = some [x] := by
  rcases h with h | ⟨r, off, lim, o, rfl, _⟩
  · exact z48 h
  · rfl
attribute [local irreducible] ACallsTo ACallsP
end Am
end Go.Proofs.YtncenefkbpelbaaDoor
end
section
/- Abstract code. (Printed by wip/gen.) -/
set_option maxRecDepth 10000
namespace Go.Proofs.YtncenefkbpelbaaDoor
namespace Am



end Am
end Go.Proofs.YtncenefkbpelbaaDoor
end
section
/- Heads: contracts: what may be, numbers that are small, how heads stand. -/
namespace Go.Proofs.YtncenefkbpelbaaDoor
namespace Am
attribute [local irreducible] ACallsTo ACallsP
/-- A signed head's cells. -/
def sgC (n : Int) (r : Hash) (i : Int) (s : List UInt8) (x : AV) : List AV := .int .i64 n :: (hc r ++ [.int .i64 i, .str s, x])
@[go_sem] theorem zo4 (n : Int) (r : Hash) (i : Int) (s : List UInt8) (x : AV) : (sgC n r i s x).length = 36 := by simp [sgC, z7]
@[go_sem] theorem sgC_0 (n : Int) (r : Hash) (i : Int) (s : List UInt8) (x : AV) : (sgC n r i s x)[0]? = some (.int .i64 n) := rfl
theorem zcb (n : Int) (r : Hash) (i : Int) (s : List UInt8) (x : AV) (k : Nat) : (sgC n r i s x)[33 + k]? = [AV.int .i64 i, .str s, x][k]? := by
  rw [sgC, show 33 + k = (32 + k) + 1 by omega, List.getElem?_cons_succ, List.getElem?_append_right (by rw [z7]; omega), z7, Nat.add_sub_cancel_left]
@[go_sem] theorem sgC_33 (n : Int) (r : Hash) (i : Int) (s : List UInt8) (x : AV) : (sgC n r i s x)[33]? = some (.int .i64 i) := zcb n r i s x 0
@[go_sem] theorem sgC_34 (n : Int) (r : Hash) (i : Int) (s : List UInt8) (x : AV) : (sgC n r i s x)[34]? = some (.str s) := zcb n r i s x 1
@[go_sem] theorem sgC_35 (n : Int) (r : Hash) (i : Int) (s : List UInt8) (x : AV) : (sgC n r i s x)[35]? = some x := zcb n r i s x 2
@[go_sem] theorem sgC_all (n : Int) (r : Hash) (i : Int) (s : List UInt8) (x : AV) : (sgC n r i s x).take 36 = sgC n r i s x := List.take_of_length_le (by rw [zo4]; decide)
@[go_sem] theorem sgC_root (n : Int) (r : Hash) (i : Int) (s : List UInt8) (x : AV) : ((sgC n r i s x).drop 1).take 32 = hc r := by
  rw [sgC, List.drop_succ_cons, List.drop_zero, z7y]
@[go_sem] theorem sgC_head (n : Int) (r : Hash) (i : Int) (s : List UInt8) (x : AV) : (sgC n r i s x).take 33 = .int .i64 n :: hc r := by
  rw [sgC, List.take_succ_cons, z7y]
@[go_sem] theorem sgC_seal (n : Int) (r : Hash) (i : Int) (s : List UInt8) (x : AV) : ((sgC n r i s x).drop 33).take 3 = [.int .i64 i, .str s, x] := by
  rw [sgC, List.drop_succ_cons, z9e]; rfl
end Am
end Go.Proofs.YtncenefkbpelbaaDoor
end
section
/- Heads: contracts: the reference's bytes. -/
namespace Go.Proofs.YtncenefkbpelbaaDoor
namespace Am
attribute [local irreducible] ACallsTo ACallsP
end Am
end Go.Proofs.YtncenefkbpelbaaDoor
end
section
/- Heads: contracts: the head of bytes. -/
namespace Go.Proofs.YtncenefkbpelbaaDoor
namespace Am
attribute [local irreducible] ACallsTo ACallsP
structure Hd where
  n : Nat
  r : Hash
  i : Nat
  g : List UInt8
  l : List Hash
end Am
end Go.Proofs.YtncenefkbpelbaaDoor
end
section
/- Heads: plain: what is got of bytes is what the reference gets. -/
namespace Go.Proofs.YtncenefkbpelbaaDoor
namespace Am
end Am
end Go.Proofs.YtncenefkbpelbaaDoor
end
section
/- Heads: plain: a head is got of its bytes, and of nothing that is cut off or longer. -/
namespace Go.Proofs.YtncenefkbpelbaaDoor
namespace Am
end Am
end Go.Proofs.YtncenefkbpelbaaDoor
end
section
/- Heads: contracts: how heads stand; rough heads. -/
namespace Go.Proofs.YtncenefkbpelbaaDoor
namespace Am
attribute [local irreducible] ACallsTo ACallsP
/-- A rough head's cells. -/
def rgC (n : Int) (r : Hash) (i : Int) (s : List UInt8) (m : Int) (x : AV) : List AV := .int .i64 n :: (hc r ++ [.int .i64 i, .str s, .int .i8 m, x])
@[go_sem] theorem rgC_len (n : Int) (r : Hash) (i : Int) (s : List UInt8) (m : Int) (x : AV) : (rgC n r i s m x).length = 37 := by simp [rgC, z7]
theorem z9s (n : Int) (r : Hash) (i : Int) (s : List UInt8) (m : Int) (x : AV) (k : Nat) : (rgC n r i s m x)[33 + k]? = [AV.int .i64 i, .str s, .int .i8 m, x][k]? := by
  rw [rgC, show 33 + k = (32 + k) + 1 by omega, List.getElem?_cons_succ, List.getElem?_append_right (by rw [z7]; omega), z7, Nat.add_sub_cancel_left]
@[go_sem] theorem rgC_33 (n : Int) (r : Hash) (i : Int) (s : List UInt8) (m : Int) (x : AV) : (rgC n r i s m x)[33]? = some (.int .i64 i) := z9s n r i s m x 0
@[go_sem] theorem rgC_34 (n : Int) (r : Hash) (i : Int) (s : List UInt8) (m : Int) (x : AV) : (rgC n r i s m x)[34]? = some (.str s) := z9s n r i s m x 1
@[go_sem] theorem rgC_35 (n : Int) (r : Hash) (i : Int) (s : List UInt8) (m : Int) (x : AV) : (rgC n r i s m x)[35]? = some (.int .i8 m) := z9s n r i s m x 2
@[go_sem] theorem rgC_36 (n : Int) (r : Hash) (i : Int) (s : List UInt8) (m : Int) (x : AV) : (rgC n r i s m x)[36]? = some x := z9s n r i s m x 3
@[go_sem] theorem rgC_head (n : Int) (r : Hash) (i : Int) (s : List UInt8) (m : Int) (x : AV) : (rgC n r i s m x).take 33 = .int .i64 n :: hc r := by
  rw [rgC, List.take_succ_cons, z7y]
end Am
end Go.Proofs.YtncenefkbpelbaaDoor
end
section
/- Heads: contracts: are two signed heads the same? -/
namespace Go.Proofs.YtncenefkbpelbaaDoor
namespace Am
attribute [local irreducible] ACallsTo ACallsP
@[go_sem] theorem sgC_tail (n : Int) (r : Hash) (i : Int) (s : List UInt8) (x : AV) : (sgC n r i s x).drop 33 = [.int .i64 i, .str s, x] := by
  rw [sgC, List.drop_succ_cons, z9e]
end Am
end Go.Proofs.YtncenefkbpelbaaDoor
end
section
/- Heads: contracts: a rough head is a signed head. -/
namespace Go.Proofs.YtncenefkbpelbaaDoor
namespace Am
attribute [local irreducible] ACallsTo ACallsP
end Am
end Go.Proofs.YtncenefkbpelbaaDoor
end
section
/- Heads: contracts: what may not be has no bytes and is not checked. -/
namespace Go.Proofs.YtncenefkbpelbaaDoor
namespace Am
attribute [local irreducible] ACallsTo ACallsP
end Am
end Go.Proofs.YtncenefkbpelbaaDoor
end
section
/- Heads: contracts: the head of bytes: the program's. -/
namespace Go.Proofs.YtncenefkbpelbaaDoor
namespace Am
attribute [local irreducible] ACallsTo ACallsP
end Am
end Go.Proofs.YtncenefkbpelbaaDoor
end
section
/- Heads: contracts: the program's bytes. -/
namespace Go.Proofs.YtncenefkbpelbaaDoor
namespace Am
attribute [local irreducible] ACallsTo ACallsP
end Am
end Go.Proofs.YtncenefkbpelbaaDoor
end
section
/- Heads: the chapter's example. -/
namespace Go.Proofs.YtncenefkbpelbaaDoor
namespace Am
attribute [local irreducible] ACallsTo ACallsP
end Am
end Go.Proofs.YtncenefkbpelbaaDoor
end
section
/- Heads: HeadsBack. -/
namespace Go.Proofs.YtncenefkbpelbaaDoor
namespace Am
attribute [local irreducible] ACallsTo ACallsP
end Am
end Go.Proofs.YtncenefkbpelbaaDoor
end
section
/- Heads: HeadsGet; the two laws. -/
namespace Go.Proofs.YtncenefkbpelbaaDoor
namespace Am
attribute [local irreducible] ACallsTo ACallsP
def strs (L : List (List UInt8)) : List (List AV) := L.map fun s => [.str s]
theorem z8 (L : List (List UInt8)) : (strs L).length = L.length := by simp [strs]
theorem z6k {L : List (List UInt8)} {i : Nat} (h : i < L.length) : (strs L)[i]? = some [.str (L.getD i [])] := by
  simp [strs, List.getElem?_map, List.getElem?_eq_getElem h]
end Am
end Go.Proofs.YtncenefkbpelbaaDoor
end
section
/- Abstract code. (Printed by wip/gen.) -/
set_option maxRecDepth 10000
namespace Go.Proofs.YtncenefkbpelbaaDoor
namespace Am



end Am
end Go.Proofs.YtncenefkbpelbaaDoor
end
section
/- Abstract code. (Printed by wip/gen.) -/
set_option maxRecDepth 10000
namespace Go.Proofs.YtncenefkbpelbaaDoor
namespace Am



@[go_sem] def q1br0 : List AIns := [
  ⟨some 3,none,.no,.box (.t 0)⟩,
  ⟨some 4,none,.no,.box (.t 1)⟩,
  ⟨some 5,none,.no,.box (.t 2)⟩,
  ⟨some 6,none,.no,.mv (.v (.bool false))⟩]
@[go_sem] def q1br1 : List AIns := [
  ⟨some 12,none,.no,.fa 1 (.t 3)⟩,
  ⟨some 13,none,.no,.load false 1 (.t 12)⟩,
  ⟨some 14,none,.no,.lenSl (.t 13)⟩,
  ⟨some 15,none,.no,.bin .gtr .none (.t 14) (.v (.int .i64 70))⟩,
  ⟨some 16,none,.no,.mv (.t 15)⟩,
  ⟨some 17, some (16, false), .no, .load true 4 (.t 5)⟩,
  ⟨some 18, some (16, false), .no, .lit 4 [(.t 17)]⟩,
  ⟨some 19, some (16, false), .no, .call (.v (.fn 11 [])) [(.t 18), (.v (.int .i64 1))]⟩,
  ⟨some 20,none,.no,.pick (.t 16) (.v (.bool true)) (.t 19)⟩]
@[go_sem] def q1br2 : List AIns := [
  ⟨some 21,none,.no,.call (.v (.fn 12 [])) []⟩,
  ⟨some 6,none,.no,.mv (.t 21)⟩]
def q1bc3 : ACode := .seq (.reg q1br2) .ret
def q1bc4 : ACode := .cond (.t 20) q1bc3 .skip
def q1bc5 : ACode := .seq (.reg q1br1) q1bc4
@[go_sem] def q1br6 : List AIns := [
  ⟨some 23,none,.no,.load true 2 (.t 3)⟩,
  ⟨some 24,none,.no,.load true 33 (.t 4)⟩,
  ⟨some 25,none,.no,.call (.v (.fn 13 [])) [(.t 23), (.t 24)]⟩,
  ⟨some 22,none,.no,.mv (.t 25)⟩,
  ⟨some 26,none,.no,.ext 0 (.t 22)⟩,
  ⟨some 27,none,.no,.ext 1 (.t 22)⟩,
  ⟨some 7,none,.no,.mv (.t 26)⟩,
  ⟨some 8,none,.no,.mv (.t 27)⟩]
@[go_sem] def q1br7 : List AIns := [
  ⟨some 29,none,.no,.load true 2 (.t 3)⟩,
  ⟨some 30,none,.no,.load true 33 (.t 4)⟩,
  ⟨some 31,none,.no,.call (.v (.fn 14 [])) [(.t 29), (.t 30)]⟩,
  ⟨some 28,none,.no,.mv (.t 31)⟩,
  ⟨some 32,none,.no,.ext 0 (.t 28)⟩,
  ⟨some 33,none,.no,.ext 1 (.t 28)⟩,
  ⟨some 9,none,.no,.mv (.t 32)⟩,
  ⟨some 10,none,.no,.mv (.t 33)⟩]
@[go_sem] def q1br8 : List AIns := [
  ⟨some 34,none,.no,.mv (.t 8)⟩,
  ⟨some 35,none,.no,.mv (.t 10)⟩,
  ⟨some 36,none,.no,.bin .neq .none (.t 34) (.t 35)⟩,
  ⟨some 37,none,.no,.mv (.t 36)⟩,
  ⟨some 38, some (37, false), .no, .mv (.t 7)⟩,
  ⟨some 39, some (37, false), .no, .bin .eql .ptr (.t 38) (.v .nilp)⟩,
  ⟨some 40, some (37, false), .no, .mv (.t 10)⟩,
  ⟨some 41, some (37, false), .no, .bin .neq .none (.t 40) (.v (.int .i64 0))⟩,
  ⟨some 42, some (37, false), .no, .bin .neq .bool (.t 39) (.t 41)⟩,
  ⟨some 43,none,.no,.pick (.t 37) (.v (.bool true)) (.t 42)⟩]
@[go_sem] def q1br9 : List AIns := [
  ⟨some 6,none,.no,.mv (.v (.bool false))⟩]
def q1bc10 : ACode := .seq (.reg q1br9) .ret
def q1bc11 : ACode := .cond (.t 43) q1bc10 .skip
def q1bc12 : ACode := .seq (.reg q1br8) q1bc11
@[go_sem] def q1br13 : List AIns := [
  ⟨some 44,none,.no,.mv (.t 10)⟩,
  ⟨some 45,none,.no,.bin .neq .none (.t 44) (.v (.int .i64 0))⟩]
@[go_sem] def q1br14 : List AIns := [
  ⟨some 11,none,.no,.mv (.v .nilp)⟩]
@[go_sem] def q1br15 : List AIns := [
  ⟨some 46,none,.no,.mv (.t 11)⟩,
  ⟨some 47,none,.no,.fa 2 (.t 5)⟩,
  ⟨some 48,none,.no,.load false 1 (.t 47)⟩,
  ⟨some 49,none,.no,.fa 3 (.t 5)⟩,
  ⟨some 50,none,.no,.load false 1 (.t 49)⟩,
  ⟨some 51,none,.no,.call (.v (.fn 15 [])) [(.t 46), (.t 48), (.t 50)]⟩,
  ⟨some 52,none,.no,.bin .eql .none (.t 51) (.v (.int .i64 1))⟩,
  ⟨some 53,none,.no,.mv (.t 52)⟩,
  ⟨some 54, some (53, true), .no, .mv (.t 11)⟩,
  ⟨some 55, some (53, true), .no, .call (.v (.fn 16 [])) [(.t 54)]⟩,
  ⟨some 56, some (53, true), .no, .bin .eql .none (.t 55) (.v (.int .i64 0))⟩,
  ⟨some 57,none,.no,.pick (.t 53) (.t 56) (.v (.bool false))⟩,
  ⟨some 58,none,.no,.mv (.t 57)⟩,
  ⟨some 59, some (58, true), .no, .mv (.t 11)⟩,
  ⟨some 60, some (58, true), .no, .call (.v (.fn 17 [])) [(.t 59)]⟩,
  ⟨some 61, some (58, true), .no, .un .not (.t 60)⟩,
  ⟨some 62,none,.no,.pick (.t 58) (.t 61) (.v (.bool false))⟩,
  ⟨some 63,none,.no,.mv (.t 62)⟩,
  ⟨some 64, some (63, true), .no, .mv (.t 11)⟩,
  ⟨some 65, some (63, true), .no, .call (.v (.fn 18 [])) [(.t 64)]⟩,
  ⟨some 66, some (63, true), .no, .lenSl (.t 65)⟩,
  ⟨some 67, some (63, true), .no, .bin .eql .none (.t 66) (.v (.int .i64 0))⟩,
  ⟨some 68,none,.no,.pick (.t 63) (.t 67) (.v (.bool false))⟩,
  ⟨some 69,none,.no,.mv (.t 68)⟩,
  ⟨some 70, some (69, true), .no, .mv (.t 11)⟩,
  ⟨some 71, some (69, true), .no, .call (.v (.fn 19 [])) [(.t 70)]⟩,
  ⟨some 72, some (69, true), .no, .fld false 1 0 (.t 71)⟩,
  ⟨some 73, some (69, true), .no, .bin .eql .none (.t 72) (.v (.int .i64 0))⟩,
  ⟨some 74,none,.no,.pick (.t 69) (.t 73) (.v (.bool false))⟩,
  ⟨some 75,none,.no,.mv (.t 74)⟩,
  ⟨some 76, some (75, true), .no, .call (.v (.fn 12 [])) []⟩,
  ⟨some 77,none,.no,.pick (.t 75) (.t 76) (.v (.bool false))⟩,
  ⟨some 6,none,.no,.mv (.t 77)⟩]
def q1bc16 : ACode := .seq (.reg q1br15) .ret
def q1bc17 : ACode := .seq (.reg q1br14) q1bc16
def q1bc18 : ACode := .cond (.t 45) q1bc17 .skip
def q1bc19 : ACode := .seq (.reg q1br13) q1bc18
@[go_sem] def q1br20 : List AIns := [
  ⟨some 78,none,.no,.mv (.t 7)⟩,
  ⟨some 79,none,.no,.fa 2 (.t 5)⟩,
  ⟨some 80, none, .rd, .load false 1 (.t 79)⟩,
  ⟨some 81,none,.no,.fa 3 (.t 5)⟩,
  ⟨some 82, none, .rd, .load false 1 (.t 81)⟩,
  ⟨some 83, none, .ef, .call (.v (.fn 15 [])) [(.t 78), (.t 80), (.t 82)]⟩,
  ⟨some 84,none,.no,.mv (.t 9)⟩,
  ⟨some 85,none,.no,.fa 2 (.t 5)⟩,
  ⟨some 86, none, .rd, .load false 1 (.t 85)⟩,
  ⟨some 87,none,.no,.fa 3 (.t 5)⟩,
  ⟨some 88, none, .rd, .load false 1 (.t 87)⟩,
  ⟨some 89,none,.no,.call (.v (.fn 20 [])) [(.t 84), (.t 86), (.t 88)]⟩,
  ⟨some 90,none,.no,.bin .eql .none (.t 83) (.t 89)⟩,
  ⟨some 91,none,.no,.mv (.t 90)⟩,
  ⟨some 92, some (91, true), .no, .mv (.t 7)⟩,
  ⟨some 93, some (91, true), .no, .mv (.t 9)⟩,
  ⟨some 94, some (91, true), .no, .call (.v (.fn 21 [])) [(.t 92), (.t 93)]⟩,
  ⟨some 95,none,.no,.pick (.t 91) (.t 94) (.v (.bool false))⟩,
  ⟨some 96,none,.no,.mv (.t 95)⟩,
  ⟨some 97, some (96, true), .no, .call (.v (.fn 12 [])) []⟩,
  ⟨some 98,none,.no,.pick (.t 96) (.t 97) (.v (.bool false))⟩,
  ⟨some 6,none,.no,.mv (.t 98)⟩]
def q1bc21 : ACode := .seq (.reg q1br20) .ret
def q1bc22 : ACode := .seq q1bc19 q1bc21
def q1bc23 : ACode := .seq q1bc12 q1bc22
def q1bc24 : ACode := .seq (.reg q1br7) q1bc23
def q1bc25 : ACode := .seq (.reg q1br6) q1bc24
def q1bc26 : ACode := .seq q1bc5 q1bc25
def q1bc27 : ACode := .seq (.reg q1br0) q1bc26
theorem q1bok : cFn TC 3 = some (99, [.t 6], q1bc27) := by kernel_rfl

@[go_sem] def q1cr0 : List AIns := [
  ⟨some 6,none,.no,.mv (.v (.bool false))⟩]
@[go_sem] def q1cr1 : List AIns := [
  ⟨some 18,none,.no,.mv (.t 0)⟩,
  ⟨some 19,none,.no,.call (.v (.fn 22 [])) [(.t 18)]⟩,
  ⟨some 20,none,.no,.mv (.t 19)⟩,
  ⟨some 21, some (20, false), .no, .mv (.t 2)⟩,
  ⟨some 22, some (20, false), .no, .call (.v (.fn 11 [])) [(.t 21), (.v (.int .i64 20))]⟩,
  ⟨some 23,none,.no,.pick (.t 20) (.v (.bool true)) (.t 22)⟩]
@[go_sem] def q1cr2 : List AIns := [
  ⟨some 24,none,.no,.call (.v (.fn 12 [])) []⟩,
  ⟨some 6,none,.no,.mv (.t 24)⟩]
def q1cc3 : ACode := .seq (.reg q1cr2) .ret
def q1cc4 : ACode := .cond (.t 23) q1cc3 .skip
def q1cc5 : ACode := .seq (.reg q1cr1) q1cc4
@[go_sem] def q1cr6 : List AIns := [
  ⟨some 25,none,.no,.mv (.t 1)⟩,
  ⟨some 26,none,.no,.conv (.int .i64) (.t 25)⟩,
  ⟨some 27,none,.no,.mv (.t 0)⟩,
  ⟨some 28,none,.no,.lenSl (.t 27)⟩,
  ⟨some 29,none,.no,.bin .add .none (.t 28) (.v (.int .i64 1))⟩,
  ⟨some 30,none,.no,.bin .rem .none (.t 26) (.t 29)⟩,
  ⟨some 7,none,.no,.mv (.t 30)⟩]
@[go_sem] def q1cr7 : List AIns := [
  ⟨some 32,none,.no,.mv (.t 0)⟩,
  ⟨some 33,none,.no,.mv (.t 7)⟩,
  ⟨some 34,none,.no,.slice (.sl 1) (.t 32) none (some (.t 33)) none⟩,
  ⟨some 35,none,.no,.call (.v (.fn 24 [])) [(.t 34)]⟩,
  ⟨some 36,none,.no,.call (.v (.fn 23 [])) [(.t 35)]⟩,
  ⟨some 31,none,.no,.mv (.t 36)⟩,
  ⟨some 37,none,.no,.ext 0 (.t 31)⟩,
  ⟨some 38,none,.no,.ext 1 (.t 31)⟩,
  ⟨some 8,none,.no,.alloc [(.int .i64 0), .nilsl]⟩,
  ⟨none,none,.no,.store 2 (.t 8) (.t 37)⟩,
  ⟨some 9,none,.no,.mv (.t 38)⟩]
@[go_sem] def q1cr8 : List AIns := [
  ⟨some 39,none,.no,.mv (.t 0)⟩,
  ⟨some 40,none,.no,.lenSl (.t 39)⟩,
  ⟨some 41,none,.no,.mv (.t 0)⟩,
  ⟨some 42,none,.no,.call (.v (.fn 24 [])) [(.t 41)]⟩,
  ⟨some 43,none,.no,.call (.v (.fn 25 [])) [(.t 42)]⟩,
  ⟨some 44,none,.no,.build ((.int .i64 0) :: zZ0) [(0, 1, (.t 40)), (1, 32, (.t 43))]⟩,
  ⟨some 10,none,.no,.alloc ((.int .i64 0) :: zZ0)⟩,
  ⟨none,none,.no,.store 33 (.t 10) (.t 44)⟩]
@[go_sem] def q1cr9 : List AIns := [
  ⟨some 46,none,.no,.load true 2 (.t 8)⟩,
  ⟨some 47,none,.no,.load true 33 (.t 10)⟩,
  ⟨some 48,none,.no,.call (.v (.fn 13 [])) [(.t 46), (.t 47)]⟩,
  ⟨some 45,none,.no,.mv (.t 48)⟩,
  ⟨some 49,none,.no,.ext 0 (.t 45)⟩,
  ⟨some 50,none,.no,.ext 1 (.t 45)⟩,
  ⟨some 11,none,.no,.mv (.t 49)⟩,
  ⟨some 12,none,.no,.mv (.t 50)⟩]
@[go_sem] def q1cr10 : List AIns := [
  ⟨some 52,none,.no,.load true 2 (.t 8)⟩,
  ⟨some 53,none,.no,.load true 33 (.t 10)⟩,
  ⟨some 54,none,.no,.call (.v (.fn 14 [])) [(.t 52), (.t 53)]⟩,
  ⟨some 51,none,.no,.mv (.t 54)⟩,
  ⟨some 55,none,.no,.ext 0 (.t 51)⟩,
  ⟨some 56,none,.no,.ext 1 (.t 51)⟩,
  ⟨some 13,none,.no,.mv (.t 55)⟩,
  ⟨some 14,none,.no,.mv (.t 56)⟩]
@[go_sem] def q1cr11 : List AIns := [
  ⟨some 57,none,.no,.mv (.t 9)⟩,
  ⟨some 58,none,.no,.bin .neq .none (.t 57) (.v (.int .i64 0))⟩,
  ⟨some 59,none,.no,.mv (.t 58)⟩,
  ⟨some 60, some (59, false), .no, .mv (.t 12)⟩,
  ⟨some 61, some (59, false), .no, .mv (.t 14)⟩,
  ⟨some 62, some (59, false), .no, .bin .neq .none (.t 60) (.t 61)⟩,
  ⟨some 63,none,.no,.pick (.t 59) (.v (.bool true)) (.t 62)⟩]
@[go_sem] def q1cr12 : List AIns := [
  ⟨some 6,none,.no,.mv (.v (.bool false))⟩]
def q1cc13 : ACode := .seq (.reg q1cr12) .ret
def q1cc14 : ACode := .cond (.t 63) q1cc13 .skip
def q1cc15 : ACode := .seq (.reg q1cr11) q1cc14
@[go_sem] def q1cr16 : List AIns := [
  ⟨some 64,none,.no,.mv (.t 14)⟩,
  ⟨some 65,none,.no,.bin .neq .none (.t 64) (.v (.int .i64 0))⟩]
@[go_sem] def q1cr17 : List AIns := [
  ⟨some 66,none,.no,.mv (.t 11)⟩,
  ⟨some 67,none,.no,.bin .eql .ptr (.t 66) (.v .nilp)⟩,
  ⟨some 68,none,.no,.mv (.t 67)⟩,
  ⟨some 69, some (68, true), .no, .call (.v (.fn 12 [])) []⟩,
  ⟨some 70,none,.no,.pick (.t 68) (.t 69) (.v (.bool false))⟩,
  ⟨some 6,none,.no,.mv (.t 70)⟩]
def q1cc18 : ACode := .seq (.reg q1cr17) .ret
def q1cc19 : ACode := .cond (.t 65) q1cc18 .skip
def q1cc20 : ACode := .seq (.reg q1cr16) q1cc19
@[go_sem] def q1cr21 : List AIns := [
  ⟨some 15,none,.no,.mv (.v (.int .i64 0))⟩]
@[go_sem] def q1cr22 : List AIns := [
  ⟨some 71,none,.no,.mv (.t 15)⟩,
  ⟨some 72,none,.no,.mv (.t 2)⟩,
  ⟨some 73,none,.no,.lenSl (.t 72)⟩,
  ⟨some 74,none,.no,.bin .lss .none (.t 71) (.t 73)⟩]
def q1cc23 : ACode := .cond (.t 74) .skip (.exit 0)
def q1cc24 : ACode := .seq (.reg q1cr22) q1cc23
@[go_sem] def q1cr25 : List AIns := [
  ⟨some 78,none,.no,.mv (.t 2)⟩,
  ⟨some 79,none,.no,.mv (.t 15)⟩,
  ⟨some 80,none,.no,.iaSl 4 (.t 78) (.t 79)⟩,
  ⟨some 81, none, .rd, .load true 4 (.t 80)⟩,
  ⟨some 82,none,.no,.mv (.t 0)⟩,
  ⟨some 83,none,.no,.mv (.t 13)⟩,
  ⟨some 84,none,.no,.nilc (.t 83)⟩,
  ⟨some 85,none,.no,.fa 33 (.t 84)⟩,
  ⟨some 86,none,.no,.fa 0 (.t 85)⟩,
  ⟨some 87, none, .rd, .load false 1 (.t 86)⟩,
  ⟨some 88,none,.no,.call (.v (.fn 26 [])) [(.t 81), (.t 82), (.t 87)]⟩,
  ⟨some 77,none,.no,.mv (.t 88)⟩,
  ⟨some 89,none,.no,.ext 0 (.t 77)⟩,
  ⟨some 90,none,.no,.ext 1 (.t 77)⟩,
  ⟨some 16,none,.no,.mv (.t 89)⟩,
  ⟨some 17,none,.no,.mv (.t 90)⟩]
@[go_sem] def q1cr26 : List AIns := [
  ⟨some 91,none,.no,.mv (.t 11)⟩,
  ⟨some 92,none,.no,.mv (.t 16)⟩,
  ⟨some 93,none,.no,.mv (.t 17)⟩,
  ⟨some 94,none,.no,.call (.v (.fn 15 [])) [(.t 91), (.t 92), (.t 93)]⟩,
  ⟨some 95,none,.no,.mv (.t 13)⟩,
  ⟨some 96,none,.no,.mv (.t 16)⟩,
  ⟨some 97,none,.no,.mv (.t 17)⟩,
  ⟨some 98,none,.no,.call (.v (.fn 20 [])) [(.t 95), (.t 96), (.t 97)]⟩,
  ⟨some 99,none,.no,.bin .neq .none (.t 94) (.t 98)⟩,
  ⟨some 100,none,.no,.mv (.t 99)⟩,
  ⟨some 101, some (100, false), .no, .mv (.t 11)⟩,
  ⟨some 102, some (100, false), .no, .mv (.t 13)⟩,
  ⟨some 103, some (100, false), .no, .call (.v (.fn 21 [])) [(.t 101), (.t 102)]⟩,
  ⟨some 104, some (100, false), .no, .un .not (.t 103)⟩,
  ⟨some 105,none,.no,.pick (.t 100) (.v (.bool true)) (.t 104)⟩]
@[go_sem] def q1cr27 : List AIns := [
  ⟨some 6,none,.no,.mv (.v (.bool false))⟩]
def q1cc28 : ACode := .seq (.reg q1cr27) .ret
def q1cc29 : ACode := .cond (.t 105) q1cc28 .skip
def q1cc30 : ACode := .seq (.reg q1cr26) q1cc29
def q1cc31 : ACode := .seq (.reg q1cr25) q1cc30
@[go_sem] def q1cr32 : List AIns := [
  ⟨some 75,none,.no,.mv (.t 15)⟩,
  ⟨some 76,none,.no,.bin .add .none (.t 75) (.v (.int .i64 1))⟩,
  ⟨some 15,none,.no,.mv (.t 76)⟩]
def q1cc33 : ACode := .seq (.block 1 q1cc31) (.reg q1cr32)
def q1cc34 : ACode := .seq q1cc24 q1cc33
def q1cc35 : ACode := .loop q1cc34
def q1cc36 : ACode := .block 0 q1cc35
def q1cc37 : ACode := .seq (.reg q1cr21) q1cc36
@[go_sem] def q1cr38 : List AIns := [
  ⟨some 106,none,.no,.call (.v (.fn 12 [])) []⟩,
  ⟨some 6,none,.no,.mv (.t 106)⟩]
def q1cc39 : ACode := .seq (.reg q1cr38) .ret
def zbq : ACode := .seq q1cc37 q1cc39
def q1cc41 : ACode := .seq q1cc20 zbq
def q1cc42 : ACode := .seq q1cc15 q1cc41
def q1cc43 : ACode := .seq (.reg q1cr10) q1cc42
def q1cc44 : ACode := .seq (.reg q1cr9) q1cc43
def q1cc45 : ACode := .seq (.reg q1cr8) q1cc44
def q1cc46 : ACode := .seq (.reg q1cr7) q1cc45
def q1cc47 : ACode := .seq (.reg q1cr6) q1cc46
def q1cc48 : ACode := .seq q1cc5 q1cc47
def q1cc49 : ACode := .seq (.reg q1cr0) q1cc48
theorem q1cok : cFn TC 4 = some (107, [.t 6], q1cc49) := by kernel_rfl

@[go_sem] def q1dr0 : List AIns := [
  ⟨some 4,none,.no,.mv (.v (.bool false))⟩]
@[go_sem] def q1dr1 : List AIns := [
  ⟨some 5,none,.no,.mv (.v (.int .i64 0))⟩]
@[go_sem] def q1dr2 : List AIns := [
  ⟨some 7,none,.no,.mv (.t 5)⟩,
  ⟨some 8,none,.no,.mv (.t 0)⟩,
  ⟨some 9,none,.no,.lenSl (.t 8)⟩,
  ⟨some 10,none,.no,.bin .lss .none (.t 7) (.t 9)⟩]
def q1dc3 : ACode := .cond (.t 10) .skip (.exit 0)
def q1dc4 : ACode := .seq (.reg q1dr2) q1dc3
@[go_sem] def q1dr5 : List AIns := [
  ⟨some 13,none,.no,.mv (.t 0)⟩,
  ⟨some 14,none,.no,.mv (.t 5)⟩,
  ⟨some 15,none,.no,.iaSl 4 (.t 13) (.t 14)⟩,
  ⟨some 16,none,.no,.fa 2 (.t 15)⟩,
  ⟨some 17,none,.no,.load false 1 (.t 16)⟩,
  ⟨some 18,none,.no,.lenSl (.t 17)⟩,
  ⟨some 19,none,.no,.bin .gtr .none (.t 18) (.v (.int .i64 20))⟩,
  ⟨some 20,none,.no,.mv (.t 19)⟩,
  ⟨some 21, some (20, false), .no, .mv (.t 0)⟩,
  ⟨some 22, some (20, false), .no, .mv (.t 5)⟩,
  ⟨some 23, some (20, false), .no, .iaSl 4 (.t 21) (.t 22)⟩,
  ⟨some 24, some (20, false), .no, .fa 3 (.t 23)⟩,
  ⟨some 25, some (20, false), .no, .load false 1 (.t 24)⟩,
  ⟨some 26, some (20, false), .no, .lenSl (.t 25)⟩,
  ⟨some 27, some (20, false), .no, .bin .gtr .none (.t 26) (.v (.int .i64 70))⟩,
  ⟨some 28,none,.no,.pick (.t 20) (.v (.bool true)) (.t 27)⟩]
@[go_sem] def q1dr6 : List AIns := [
  ⟨some 4,none,.no,.mv (.v (.bool true))⟩]
def q1dc7 : ACode := .seq (.reg q1dr6) .ret
def q1dc8 : ACode := .cond (.t 28) q1dc7 .skip
def q1dc9 : ACode := .seq (.reg q1dr5) q1dc8
@[go_sem] def q1dr10 : List AIns := [
  ⟨some 6,none,.no,.mv (.v (.int .i64 0))⟩]
@[go_sem] def q1dr11 : List AIns := [
  ⟨some 29,none,.no,.mv (.t 6)⟩,
  ⟨some 30,none,.no,.mv (.t 0)⟩,
  ⟨some 31,none,.no,.mv (.t 5)⟩,
  ⟨some 32,none,.no,.iaSl 4 (.t 30) (.t 31)⟩,
  ⟨some 33,none,.no,.fa 2 (.t 32)⟩,
  ⟨some 34,none,.no,.load false 1 (.t 33)⟩,
  ⟨some 35,none,.no,.lenSl (.t 34)⟩,
  ⟨some 36,none,.no,.bin .lss .none (.t 29) (.t 35)⟩]
def q1dc12 : ACode := .cond (.t 36) .skip (.exit 2)
def q1dc13 : ACode := .seq (.reg q1dr11) q1dc12
@[go_sem] def q1dr14 : List AIns := [
  ⟨some 39,none,.no,.mv (.t 0)⟩,
  ⟨some 40,none,.no,.mv (.t 5)⟩,
  ⟨some 41,none,.no,.iaSl 4 (.t 39) (.t 40)⟩,
  ⟨some 42,none,.no,.fa 2 (.t 41)⟩,
  ⟨some 43,none,.no,.load false 1 (.t 42)⟩,
  ⟨some 44,none,.no,.mv (.t 6)⟩,
  ⟨some 45,none,.no,.iaSl 1 (.t 43) (.t 44)⟩,
  ⟨some 46,none,.no,.load false 1 (.t 45)⟩,
  ⟨some 47,none,.no,.lenStr (.t 46)⟩,
  ⟨some 48,none,.no,.bin .gtr .none (.t 47) (.v (.int .i64 250))⟩]
@[go_sem] def q1dr15 : List AIns := [
  ⟨some 4,none,.no,.mv (.v (.bool true))⟩]
def q1dc16 : ACode := .seq (.reg q1dr15) .ret
def q1dc17 : ACode := .cond (.t 48) q1dc16 .skip
def q1dc18 : ACode := .seq (.reg q1dr14) q1dc17
@[go_sem] def q1dr19 : List AIns := [
  ⟨some 37,none,.no,.mv (.t 6)⟩,
  ⟨some 38,none,.no,.bin .add .none (.t 37) (.v (.int .i64 1))⟩,
  ⟨some 6,none,.no,.mv (.t 38)⟩]
def q1dc20 : ACode := .seq (.block 3 q1dc18) (.reg q1dr19)
def q1dc21 : ACode := .seq q1dc13 q1dc20
def q1dc22 : ACode := .loop q1dc21
def q1dc23 : ACode := .block 2 q1dc22
def q1dc24 : ACode := .seq (.reg q1dr10) q1dc23
def q1dc25 : ACode := .seq q1dc9 q1dc24
@[go_sem] def q1dr26 : List AIns := [
  ⟨some 11,none,.no,.mv (.t 5)⟩,
  ⟨some 12,none,.no,.bin .add .none (.t 11) (.v (.int .i64 1))⟩,
  ⟨some 5,none,.no,.mv (.t 12)⟩]
def q1dc27 : ACode := .seq (.block 1 q1dc25) (.reg q1dr26)
def q1dc28 : ACode := .seq q1dc4 q1dc27
def q1dc29 : ACode := .loop q1dc28
def q1dc30 : ACode := .block 0 q1dc29
def q1dc31 : ACode := .seq (.reg q1dr1) q1dc30
@[go_sem] def q1dr32 : List AIns := [
  ⟨some 49,none,.no,.mv (.t 0)⟩,
  ⟨some 50,none,.no,.lenSl (.t 49)⟩,
  ⟨some 51,none,.no,.mv (.t 1)⟩,
  ⟨some 52,none,.no,.bin .gtr .none (.t 50) (.t 51)⟩,
  ⟨some 4,none,.no,.mv (.t 52)⟩]
def q1dc33 : ACode := .seq (.reg q1dr32) .ret
def q1dc34 : ACode := .seq q1dc31 q1dc33
def q1dc35 : ACode := .seq (.reg q1dr0) q1dc34
theorem q1dok : cFn TC 11 = some (53, [.t 4], q1dc35) := by kernel_rfl

@[go_sem] def q1er0 : List AIns := [
  ⟨some 0,none,.no,.mv (.v (.bool false))⟩]
@[go_sem] def q1er1 : List AIns := [
  ⟨some 16,none,.no,.call (.v (.fn 56 [])) [(.v (.str [97]))]⟩,
  ⟨some 17,none,.no,.call (.v (.fn 56 [])) [(.v (.str [98]))]⟩,
  ⟨some 18,none,.no,.call (.v (.fn 56 [])) [(.v (.str [99]))]⟩,
  ⟨some 19,none,.no,.lit 32 [(.t 16), (.t 17), (.t 18)]⟩,
  ⟨some 1,none,.no,.mv (.t 19)⟩]
@[go_sem] def q1er2 : List AIns := [
  ⟨some 20,none,.no,.mv (.t 1)⟩,
  ⟨some 21,none,.no,.call (.v (.fn 45 [])) [(.t 20)]⟩,
  ⟨some 22,none,.no,.build ((.int .i64 0) :: zZ0) [(0, 1, (.v (.int .i64 3))), (1, 32, (.t 21))]⟩,
  ⟨some 2,none,.no,.alloc ((.int .i64 0) :: zZ0)⟩,
  ⟨none,none,.no,.store 33 (.t 2) (.t 22)⟩]
@[go_sem] def q1er3 : List AIns := [
  ⟨some 24,none,.no,.build [(.int .i64 0), .nilsl] []⟩,
  ⟨some 25,none,.no,.load true 33 (.t 2)⟩,
  ⟨some 26,none,.no,.call (.v (.fn 13 [])) [(.t 24), (.t 25)]⟩,
  ⟨some 23,none,.no,.mv (.t 26)⟩,
  ⟨some 27,none,.no,.ext 0 (.t 23)⟩,
  ⟨some 28,none,.no,.ext 1 (.t 23)⟩,
  ⟨some 3,none,.no,.mv (.t 27)⟩,
  ⟨some 4,none,.no,.mv (.t 28)⟩]
@[go_sem] def q1er4 : List AIns := [
  ⟨some 30,none,.no,.mv (.t 1)⟩,
  ⟨some 31,none,.no,.call (.v (.fn 57 [])) [(.t 30), (.v (.int .i64 2))]⟩,
  ⟨some 29,none,.no,.mv (.t 31)⟩,
  ⟨some 32,none,.no,.ext 0 (.t 29)⟩,
  ⟨some 33,none,.no,.ext 1 (.t 29)⟩,
  ⟨some 5,none,.no,.mv (.t 32)⟩,
  ⟨some 6,none,.no,.mv (.t 33)⟩]
@[go_sem] def q1er5 : List AIns := [
  ⟨some 35,none,.no,.mv (.t 1)⟩,
  ⟨some 36,none,.no,.call (.v (.fn 57 [])) [(.t 35), (.v (.int .i64 3))]⟩,
  ⟨some 34,none,.no,.mv (.t 36)⟩,
  ⟨some 37,none,.no,.ext 0 (.t 34)⟩,
  ⟨some 38,none,.no,.ext 1 (.t 34)⟩,
  ⟨some 7,none,.no,.mv (.t 37)⟩,
  ⟨some 8,none,.no,.mv (.t 38)⟩]
@[go_sem] def q1er6 : List AIns := [
  ⟨some 39,none,.no,.mv (.t 3)⟩,
  ⟨some 40,none,.no,.lit 1 [(.v (.str [97])), (.v (.str [98]))]⟩,
  ⟨some 41,none,.no,.mv (.t 5)⟩,
  ⟨some 42,none,.no,.call (.v (.fn 15 [])) [(.t 39), (.t 40), (.t 41)]⟩,
  ⟨some 9,none,.no,.mv (.t 42)⟩]
@[go_sem] def q1er7 : List AIns := [
  ⟨some 43,none,.no,.mv (.t 3)⟩,
  ⟨some 44,none,.no,.call (.v (.fn 16 [])) [(.t 43)]⟩,
  ⟨some 10,none,.no,.mv (.t 44)⟩]
@[go_sem] def q1er8 : List AIns := [
  ⟨some 45,none,.no,.mv (.t 3)⟩,
  ⟨some 46,none,.no,.lit 1 [(.v (.str [100]))]⟩,
  ⟨some 47,none,.no,.mv (.t 7)⟩,
  ⟨some 48,none,.no,.call (.v (.fn 15 [])) [(.t 45), (.t 46), (.t 47)]⟩,
  ⟨some 11,none,.no,.mv (.t 48)⟩]
@[go_sem] def q1er9 : List AIns := [
  ⟨some 49,none,.no,.mv (.t 3)⟩,
  ⟨some 50,none,.no,.lit 1 [(.v (.str [99]))]⟩,
  ⟨some 51,none,.no,.mv (.t 7)⟩,
  ⟨some 52,none,.no,.call (.v (.fn 15 [])) [(.t 49), (.t 50), (.t 51)]⟩,
  ⟨some 12,none,.no,.mv (.t 52)⟩]
@[go_sem] def q1er10 : List AIns := [
  ⟨some 53,none,.no,.mv (.t 3)⟩,
  ⟨some 54,none,.no,.lit 1 [(.v (.str [99]))]⟩,
  ⟨some 55,none,.no,.mv (.t 7)⟩,
  ⟨some 56,none,.no,.call (.v (.fn 15 [])) [(.t 53), (.t 54), (.t 55)]⟩,
  ⟨some 13,none,.no,.mv (.t 56)⟩]
@[go_sem] def q1er11 : List AIns := [
  ⟨some 58,none,.no,.mv (.t 3)⟩,
  ⟨some 59, none, .ef, .call (.v (.fn 19 [])) [(.t 58)]⟩,
  ⟨some 60, none, .rd, .load true 33 (.t 2)⟩,
  ⟨some 61,none,.no,.call (.v (.fn 13 [])) [(.t 59), (.t 60)]⟩,
  ⟨some 57,none,.no,.mv (.t 61)⟩,
  ⟨some 62,none,.no,.ext 0 (.t 57)⟩,
  ⟨some 63,none,.no,.ext 1 (.t 57)⟩,
  ⟨some 14,none,.no,.mv (.t 62)⟩,
  ⟨some 15,none,.no,.mv (.t 63)⟩]
@[go_sem] def q1er12 : List AIns := [
  ⟨some 64,none,.no,.mv (.t 4)⟩,
  ⟨some 65,none,.no,.bin .eql .none (.t 64) (.v (.int .i64 0))⟩,
  ⟨some 66,none,.no,.mv (.t 65)⟩,
  ⟨some 67, some (66, true), .no, .mv (.t 6)⟩,
  ⟨some 68, some (66, true), .no, .bin .eql .none (.t 67) (.v (.int .i64 0))⟩,
  ⟨some 69,none,.no,.pick (.t 66) (.t 68) (.v (.bool false))⟩,
  ⟨some 70,none,.no,.mv (.t 69)⟩,
  ⟨some 71, some (70, true), .no, .mv (.t 8)⟩,
  ⟨some 72, some (70, true), .no, .bin .eql .none (.t 71) (.v (.int .i64 0))⟩,
  ⟨some 73,none,.no,.pick (.t 70) (.t 72) (.v (.bool false))⟩,
  ⟨some 74,none,.no,.mv (.t 73)⟩,
  ⟨some 75, some (74, true), .no, .mv (.t 9)⟩,
  ⟨some 76, some (74, true), .no, .bin .eql .none (.t 75) (.v (.int .i64 0))⟩,
  ⟨some 77,none,.no,.pick (.t 74) (.t 76) (.v (.bool false))⟩,
  ⟨some 78,none,.no,.mv (.t 77)⟩,
  ⟨some 79, some (78, true), .no, .mv (.t 10)⟩,
  ⟨some 80, some (78, true), .no, .bin .eql .none (.t 79) (.v (.int .i64 2))⟩,
  ⟨some 81,none,.no,.pick (.t 78) (.t 80) (.v (.bool false))⟩,
  ⟨some 82,none,.no,.mv (.t 81)⟩,
  ⟨some 83, some (82, true), .no, .mv (.t 11)⟩,
  ⟨some 84, some (82, true), .no, .bin .eql .none (.t 83) (.v (.int .i64 80))⟩,
  ⟨some 85,none,.no,.pick (.t 82) (.t 84) (.v (.bool false))⟩,
  ⟨some 86,none,.no,.mv (.t 85)⟩,
  ⟨some 87, some (86, true), .no, .mv (.t 12)⟩,
  ⟨some 88, some (86, true), .no, .bin .eql .none (.t 87) (.v (.int .i64 0))⟩,
  ⟨some 89,none,.no,.pick (.t 86) (.t 88) (.v (.bool false))⟩,
  ⟨some 90,none,.no,.mv (.t 89)⟩,
  ⟨some 91, some (90, true), .no, .mv (.t 3)⟩,
  ⟨some 92, some (90, true), .no, .call (.v (.fn 17 [])) [(.t 91)]⟩,
  ⟨some 93,none,.no,.pick (.t 90) (.t 92) (.v (.bool false))⟩,
  ⟨some 94,none,.no,.mv (.t 93)⟩,
  ⟨some 95, some (94, true), .no, .mv (.t 13)⟩,
  ⟨some 96, some (94, true), .no, .bin .eql .none (.t 95) (.v (.int .i64 2))⟩,
  ⟨some 97,none,.no,.pick (.t 94) (.t 96) (.v (.bool false))⟩,
  ⟨some 98,none,.no,.mv (.t 97)⟩,
  ⟨some 99, some (98, true), .no, .mv (.t 15)⟩,
  ⟨some 100, some (98, true), .no, .bin .eql .none (.t 99) (.v (.int .i64 2))⟩,
  ⟨some 101,none,.no,.pick (.t 98) (.t 100) (.v (.bool false))⟩,
  ⟨some 102,none,.no,.mv (.t 101)⟩,
  ⟨some 103, some (102, true), .no, .mv (.t 3)⟩,
  ⟨some 104, some (102, true), .no, .call (.v (.fn 18 [])) [(.t 103)]⟩,
  ⟨some 105, some (102, true), .no, .lenSl (.t 104)⟩,
  ⟨some 106, some (102, true), .no, .bin .eql .none (.t 105) (.v (.int .i64 3))⟩,
  ⟨some 107,none,.no,.pick (.t 102) (.t 106) (.v (.bool false))⟩,
  ⟨some 0,none,.no,.mv (.t 107)⟩]
def q1ec13 : ACode := .seq (.reg q1er12) .ret
def q1ec14 : ACode := .seq (.reg q1er11) q1ec13
def q1ec15 : ACode := .seq (.reg q1er10) q1ec14
def q1ec16 : ACode := .seq (.reg q1er9) q1ec15
def q1ec17 : ACode := .seq (.reg q1er8) q1ec16
def q1ec18 : ACode := .seq (.reg q1er7) q1ec17
def q1ec19 : ACode := .seq (.reg q1er6) q1ec18
def q1ec20 : ACode := .seq (.reg q1er5) q1ec19
def q1ec21 : ACode := .seq (.reg q1er4) q1ec20
def q1ec22 : ACode := .seq (.reg q1er3) q1ec21
def q1ec23 : ACode := .seq (.reg q1er2) q1ec22
def q1ec24 : ACode := .seq (.reg q1er1) q1ec23
def q1ec25 : ACode := .seq (.reg q1er0) q1ec24
theorem q1eok : cFn TC 12 = some (108, [.t 0], q1ec25) := by kernel_rfl

@[go_sem] def q1fr0 : List AIns := [
  ⟨some 2,none,.no,.box (.t 0)⟩,
  ⟨some 3,none,.no,.box (.t 1)⟩,
  ⟨some 4,none,.no,.mv (.v .nilp)⟩,
  ⟨some 5,none,.no,.mv (.v (.int .i64 0))⟩]
@[go_sem] def q1fr1 : List AIns := [
  ⟨some 6,none,.no,.load true 2 (.t 2)⟩,
  ⟨some 7,none,.no,.call (.v (.fn 58 [])) [(.t 6)]⟩,
  ⟨some 8,none,.no,.un .not (.t 7)⟩,
  ⟨some 9,none,.no,.mv (.t 8)⟩,
  ⟨some 10, some (9, false), .no, .fa 0 (.t 3)⟩,
  ⟨some 11, some (9, false), .no, .load false 1 (.t 10)⟩,
  ⟨some 12, some (9, false), .no, .bin .gtr .none (.t 11) (.v (.int .i64 4096))⟩,
  ⟨some 13,none,.no,.pick (.t 9) (.v (.bool true)) (.t 12)⟩,
  ⟨some 14,none,.no,.mv (.t 13)⟩,
  ⟨some 15, some (14, false), .no, .fa 0 (.t 3)⟩,
  ⟨some 16, some (14, false), .no, .load false 1 (.t 15)⟩,
  ⟨some 17, some (14, false), .no, .fa 0 (.t 2)⟩,
  ⟨some 18, some (14, false), .no, .load false 1 (.t 17)⟩,
  ⟨some 19, some (14, false), .no, .bin .leq .none (.t 16) (.t 18)⟩,
  ⟨some 20,none,.no,.pick (.t 14) (.v (.bool true)) (.t 19)⟩]
@[go_sem] def q1fr2 : List AIns := [
  ⟨some 4,none,.no,.mv (.v .nilp)⟩,
  ⟨some 5,none,.no,.mv (.v (.int .i64 2))⟩]
def q1fc3 : ACode := .seq (.reg q1fr2) .ret
def q1fc4 : ACode := .cond (.t 20) q1fc3 .skip
def q1fc5 : ACode := .seq (.reg q1fr1) q1fc4
@[go_sem] def q1fr6 : List AIns := [
  ⟨some 21, none, .rd, .load true 33 (.t 3)⟩,
  ⟨some 22, none, .rd, .load true 2 (.t 2)⟩,
  ⟨some 23, none, .ef, .call (.v (.fn 59 [])) [(.t 22)]⟩,
  ⟨some 24,none,.no,.build [(.int .i64 0), (.int .u8 0), (.int .u8 0), (.int .u8 0), (.int .u8 0), (.int .u8 0), (.int .u8 0), (.int .u8 0), (.int .u8 0), (.int .u8 0), (.int .u8 0), (.int .u8 0), (.int .u8 0), (.int .u8 0), (.int .u8 0), (.int .u8 0), (.int .u8 0), (.int .u8 0), (.int .u8 0), (.int .u8 0), (.int .u8 0), (.int .u8 0), (.int .u8 0), (.int .u8 0), (.int .u8 0), (.int .u8 0), (.int .u8 0), (.int .u8 0), (.int .u8 0), (.int .u8 0), (.int .u8 0), (.int .u8 0), (.int .u8 0), (.int .i64 0), .nilsl, .nilsl] [(0, 33, (.t 21)), (33, 2, (.t 23))]⟩,
  ⟨some 25,none,.no,.box (.t 24)⟩,
  ⟨some 4,none,.no,.mv (.t 25)⟩,
  ⟨some 5,none,.no,.mv (.v (.int .i64 0))⟩]
def q1fc7 : ACode := .seq (.reg q1fr6) .ret
def q1fc8 : ACode := .seq q1fc5 q1fc7
def q1fc9 : ACode := .seq (.reg q1fr0) q1fc8
theorem q1fok : cFn TC 13 = some (26, [.t 4, .t 5], q1fc9) := by kernel_rfl

@[go_sem] def q1gr0 : List AIns := [
  ⟨some 2,none,.no,.box (.t 0)⟩,
  ⟨some 3,none,.no,.box (.t 1)⟩,
  ⟨some 4,none,.no,.mv (.v .nilp)⟩,
  ⟨some 5,none,.no,.mv (.v (.int .i64 0))⟩]
@[go_sem] def q1gr1 : List AIns := [
  ⟨some 6,none,.no,.load true 2 (.t 2)⟩,
  ⟨some 7,none,.no,.call (.v (.fn 60 [])) [(.t 6)]⟩,
  ⟨some 8,none,.no,.un .not (.t 7)⟩,
  ⟨some 9,none,.no,.mv (.t 8)⟩,
  ⟨some 10, some (9, false), .no, .fa 0 (.t 3)⟩,
  ⟨some 11, some (9, false), .no, .load false 1 (.t 10)⟩,
  ⟨some 12, some (9, false), .no, .bin .gtr .none (.t 11) (.v (.int .i64 4096))⟩,
  ⟨some 13,none,.no,.pick (.t 9) (.v (.bool true)) (.t 12)⟩,
  ⟨some 14,none,.no,.mv (.t 13)⟩,
  ⟨some 15, some (14, false), .no, .fa 0 (.t 3)⟩,
  ⟨some 16, some (14, false), .no, .load false 1 (.t 15)⟩,
  ⟨some 17, some (14, false), .no, .fa 0 (.t 2)⟩,
  ⟨some 18, some (14, false), .no, .load false 1 (.t 17)⟩,
  ⟨some 19, some (14, false), .no, .bin .leq .none (.t 16) (.t 18)⟩,
  ⟨some 20,none,.no,.pick (.t 14) (.v (.bool true)) (.t 19)⟩]
@[go_sem] def q1gr2 : List AIns := [
  ⟨some 4,none,.no,.mv (.v .nilp)⟩,
  ⟨some 5,none,.no,.mv (.v (.int .i64 2))⟩]
def q1gc3 : ACode := .seq (.reg q1gr2) .ret
def q1gc4 : ACode := .cond (.t 20) q1gc3 .skip
def q1gc5 : ACode := .seq (.reg q1gr1) q1gc4
@[go_sem] def q1gr6 : List AIns := [
  ⟨some 21,none,.no,.load true 33 (.t 3)⟩,
  ⟨some 22,none,.no,.load true 2 (.t 2)⟩,
  ⟨some 23,none,.no,.build [(.int .i64 0), (.int .u8 0), (.int .u8 0), (.int .u8 0), (.int .u8 0), (.int .u8 0), (.int .u8 0), (.int .u8 0), (.int .u8 0), (.int .u8 0), (.int .u8 0), (.int .u8 0), (.int .u8 0), (.int .u8 0), (.int .u8 0), (.int .u8 0), (.int .u8 0), (.int .u8 0), (.int .u8 0), (.int .u8 0), (.int .u8 0), (.int .u8 0), (.int .u8 0), (.int .u8 0), (.int .u8 0), (.int .u8 0), (.int .u8 0), (.int .u8 0), (.int .u8 0), (.int .u8 0), (.int .u8 0), (.int .u8 0), (.int .u8 0), (.int .i64 0), .nilsl, .nilsl] [(0, 33, (.t 21)), (33, 2, (.t 22))]⟩,
  ⟨some 24,none,.no,.box (.t 23)⟩,
  ⟨some 4,none,.no,.mv (.t 24)⟩,
  ⟨some 5,none,.no,.mv (.v (.int .i64 0))⟩]
def q1gc7 : ACode := .seq (.reg q1gr6) .ret
def q1gc8 : ACode := .seq q1gc5 q1gc7
def q1gc9 : ACode := .seq (.reg q1gr0) q1gc8
theorem q1gok : cFn TC 14 = some (25, [.t 4, .t 5], q1gc9) := by kernel_rfl

@[go_sem] def q1hr0 : List AIns := [
  ⟨some 6,none,.no,.mv (.v (.int .i64 0))⟩]
@[go_sem] def q1hr1 : List AIns := [
  ⟨some 14,none,.no,.mv (.t 0)⟩,
  ⟨some 15,none,.no,.call (.v (.fn 61 [])) [(.t 14)]⟩,
  ⟨some 13,none,.no,.mv (.t 15)⟩]
@[go_sem] def q1hr2 : List AIns := [
  ⟨some 6,none,.no,.mv (.v (.int .i64 1))⟩]
def q1hc3 : ACode := .seq (.reg q1hr2) .ret
@[go_sem] def q1hr4 : List AIns := [
  ⟨some 17,none,.no,.mv (.t 1)⟩,
  ⟨some 18,none,.no,.lenSl (.t 17)⟩,
  ⟨some 19,none,.no,.bin .eql .none (.t 18) (.v (.int .i64 0))⟩,
  ⟨some 20,none,.no,.mv (.t 19)⟩,
  ⟨some 21, some (20, false), .no, .mv (.t 1)⟩,
  ⟨some 22, some (20, false), .no, .lenSl (.t 21)⟩,
  ⟨some 23, some (20, false), .no, .bin .gtr .none (.t 22) (.v (.int .i64 16))⟩,
  ⟨some 24,none,.no,.pick (.t 20) (.v (.bool true)) (.t 23)⟩,
  ⟨some 25,none,.no,.mv (.t 24)⟩,
  ⟨some 26, some (25, false), .no, .mv (.t 1)⟩,
  ⟨some 27, some (25, false), .no, .lenSl (.t 26)⟩,
  ⟨some 28, some (25, false), .no, .mv (.t 0)⟩,
  ⟨some 29, some (25, false), .no, .nilc (.t 28)⟩,
  ⟨some 30, some (25, false), .no, .fa 0 (.t 29)⟩,
  ⟨some 31, some (25, false), .no, .fa 0 (.t 30)⟩,
  ⟨some 32, some (25, false), .rd, .load false 1 (.t 31)⟩,
  ⟨some 33, some (25, false), .no, .mv (.t 0)⟩,
  ⟨some 34, some (25, false), .no, .nilc (.t 33)⟩,
  ⟨some 35, some (25, false), .no, .fa 33 (.t 34)⟩,
  ⟨some 36, some (25, false), .no, .fa 0 (.t 35)⟩,
  ⟨some 37, some (25, false), .rd, .load false 1 (.t 36)⟩,
  ⟨some 38, some (25, false), .no, .bin .sub .none (.t 32) (.t 37)⟩,
  ⟨some 39, some (25, false), .no, .bin .gtr .none (.t 27) (.t 38)⟩,
  ⟨some 40,none,.no,.pick (.t 25) (.v (.bool true)) (.t 39)⟩,
  ⟨some 16,none,.no,.mv (.t 40)⟩]
@[go_sem] def q1hr5 : List AIns := [
  ⟨some 6,none,.no,.mv (.v (.int .i64 2))⟩]
def q1hc6 : ACode := .seq (.reg q1hr5) .ret
def q1hc7 : ACode := .cond (.t 16) q1hc6 .skip
def q1hc8 : ACode := .seq (.reg q1hr4) q1hc7
def q1hc9 : ACode := .cond (.t 13) q1hc3 q1hc8
def q1hc10 : ACode := .seq (.reg q1hr1) q1hc9
@[go_sem] def q1hr11 : List AIns := [
  ⟨some 7,none,.no,.mv (.v .nilsl)⟩]
@[go_sem] def q1hr12 : List AIns := [
  ⟨some 41,none,.no,.mv (.t 1)⟩,
  ⟨some 42,none,.no,.lenSl (.t 41)⟩,
  ⟨some 43,none,.no,.mv (.v (.int .i64 0))⟩]
@[go_sem] def q1hr13 : List AIns := [
  ⟨some 44,none,.no,.bin .lss .none (.t 43) (.t 42)⟩]
@[go_sem] def q1hr14 : List AIns := [
  ⟨some 45,none,.no,.iaSl 1 (.t 41) (.t 43)⟩,
  ⟨some 46,none,.no,.load false 1 (.t 45)⟩,
  ⟨some 9,none,.no,.mv (.t 46)⟩]
@[go_sem] def q1hr15 : List AIns := [
  ⟨some 47,none,.no,.mv (.t 9)⟩,
  ⟨some 48,none,.no,.lenStr (.t 47)⟩,
  ⟨some 49,none,.no,.bin .gtr .none (.t 48) (.v (.int .i64 200))⟩]
@[go_sem] def q1hr16 : List AIns := [
  ⟨some 6,none,.no,.mv (.v (.int .i64 3))⟩]
def q1hc17 : ACode := .seq (.reg q1hr16) .ret
def q1hc18 : ACode := .cond (.t 49) q1hc17 .skip
def q1hc19 : ACode := .seq (.reg q1hr15) q1hc18
@[go_sem] def q1hr20 : List AIns := [
  ⟨some 50,none,.no,.mv (.t 7)⟩,
  ⟨some 51,none,.no,.mv (.t 9)⟩,
  ⟨some 52,none,.no,.call (.v (.fn 44 [])) [(.t 51)]⟩,
  ⟨some 53,none,.no,.lit 32 [(.t 52)]⟩,
  ⟨some 54,none,.no,.app 32 (.t 50) (.t 53)⟩,
  ⟨some 7,none,.no,.mv (.t 54)⟩]
def q1hc21 : ACode := .seq q1hc19 (.reg q1hr20)
def q1hc22 : ACode := .seq (.reg q1hr14) q1hc21
@[go_sem] def q1hr23 : List AIns := [
  ⟨some 55,none,.no,.bin .add .none (.t 43) (.v (.int .i64 1))⟩,
  ⟨some 43,none,.no,.mv (.t 55)⟩]
def q1hc24 : ACode := .seq (.block 2 q1hc22) (.reg q1hr23)
def q1hc25 : ACode := .seq (.cond (.t 44) .skip (.exit 1)) q1hc24
def q1hc26 : ACode := .seq (.reg q1hr13) q1hc25
def q1hc27 : ACode := .loop q1hc26
def q1hc28 : ACode := .block 1 q1hc27
def q1hc29 : ACode := .seq (.reg q1hr12) q1hc28
@[go_sem] def q1hr30 : List AIns := [
  ⟨some 57,none,.no,.mv (.t 0)⟩,
  ⟨some 58,none,.no,.nilc (.t 57)⟩,
  ⟨some 59,none,.no,.fa 33 (.t 58)⟩,
  ⟨some 60,none,.no,.load true 2 (.t 59)⟩,
  ⟨some 61,none,.no,.mv (.t 7)⟩,
  ⟨some 62,none,.no,.call (.v (.fn 62 [])) [(.t 60), (.t 61)]⟩,
  ⟨some 56,none,.no,.mv (.t 62)⟩,
  ⟨some 63,none,.no,.ext 0 (.t 56)⟩,
  ⟨some 64,none,.no,.ext 1 (.t 56)⟩,
  ⟨some 10,none,.no,.alloc [(.int .i64 0), .nilsl]⟩,
  ⟨none,none,.no,.store 2 (.t 10) (.t 63)⟩,
  ⟨some 11,none,.no,.mv (.t 64)⟩]
@[go_sem] def q1hr31 : List AIns := [
  ⟨some 65,none,.no,.mv (.t 11)⟩,
  ⟨some 66,none,.no,.bin .neq .none (.t 65) (.v (.int .i64 0))⟩]
@[go_sem] def q1hr32 : List AIns := [
  ⟨some 67,none,.no,.mv (.t 11)⟩,
  ⟨some 6,none,.no,.mv (.t 67)⟩]
def q1hc33 : ACode := .seq (.reg q1hr32) .ret
def q1hc34 : ACode := .cond (.t 66) q1hc33 .skip
def q1hc35 : ACode := .seq (.reg q1hr31) q1hc34
@[go_sem] def q1hr36 : List AIns := [
  ⟨some 69,none,.no,.load true 2 (.t 10)⟩,
  ⟨some 70,none,.no,.call (.v (.fn 63 [])) [(.t 69)]⟩,
  ⟨some 68,none,.no,.mv (.t 70)⟩,
  ⟨some 71,none,.no,.ext 0 (.t 68)⟩,
  ⟨some 72,none,.no,.ext 1 (.t 68)⟩,
  ⟨some 12,none,.no,.alloc zZ0⟩,
  ⟨none,none,.no,.store 32 (.t 12) (.t 71)⟩,
  ⟨some 11,none,.no,.mv (.t 72)⟩]
@[go_sem] def q1hr37 : List AIns := [
  ⟨some 73,none,.no,.mv (.t 11)⟩,
  ⟨some 74,none,.no,.bin .neq .none (.t 73) (.v (.int .i64 0))⟩]
@[go_sem] def q1hr38 : List AIns := [
  ⟨some 75,none,.no,.mv (.t 11)⟩,
  ⟨some 6,none,.no,.mv (.t 75)⟩]
def q1hc39 : ACode := .seq (.reg q1hr38) .ret
def q1hc40 : ACode := .cond (.t 74) q1hc39 .skip
def q1hc41 : ACode := .seq (.reg q1hr37) q1hc40
@[go_sem] def q1hr42 : List AIns := [
  ⟨some 76,none,.no,.fa 0 (.t 10)⟩,
  ⟨some 77, none, .rd, .load false 1 (.t 76)⟩,
  ⟨some 78,none,.no,.mv (.t 0)⟩,
  ⟨some 79,none,.no,.nilc (.t 78)⟩,
  ⟨some 80,none,.no,.fa 0 (.t 79)⟩,
  ⟨some 81,none,.no,.fa 0 (.t 80)⟩,
  ⟨some 82, none, .rd, .load false 1 (.t 81)⟩,
  ⟨some 83, none, .rd, .load true 32 (.t 12)⟩,
  ⟨some 84,none,.no,.mv (.t 0)⟩,
  ⟨some 85,none,.no,.nilc (.t 84)⟩,
  ⟨some 86,none,.no,.fa 0 (.t 85)⟩,
  ⟨some 87,none,.no,.fa 1 (.t 86)⟩,
  ⟨some 88, none, .rd, .load true 32 (.t 87)⟩,
  ⟨some 89,none,.no,.mv (.t 2)⟩,
  ⟨some 90,none,.no,.call (.v (.fn 64 [])) [(.t 77), (.t 82), (.t 83), (.t 88), (.t 89)]⟩,
  ⟨some 91,none,.no,.bin .neq .none (.t 90) (.v (.int .i64 0))⟩]
@[go_sem] def q1hr43 : List AIns := [
  ⟨some 6,none,.no,.mv (.v (.int .i64 80))⟩]
def q1hc44 : ACode := .seq (.reg q1hr43) .ret
def q1hc45 : ACode := .cond (.t 91) q1hc44 .skip
def q1hc46 : ACode := .seq (.reg q1hr42) q1hc45
@[go_sem] def q1hr47 : List AIns := [
  ⟨some 92,none,.no,.mv (.t 0)⟩,
  ⟨some 93,none,.no,.mv (.t 0)⟩,
  ⟨some 94, none, .rd, .load true 2 (.t 10)⟩,
  ⟨some 95,none,.no,.mv (.t 0)⟩,
  ⟨some 96,none,.no,.nilc (.t 95)⟩,
  ⟨some 97,none,.no,.fa 35 (.t 96)⟩,
  ⟨some 98, none, .rd, .load false 1 (.t 97)⟩,
  ⟨some 99,none,.no,.mv (.t 1)⟩,
  ⟨some 100, none, .ef, .app 1 (.t 98) (.t 99)⟩,
  ⟨some 101,none,.no,.nilc (.t 92)⟩,
  ⟨some 102,none,.no,.fa 33 (.t 101)⟩,
  ⟨none,none,.no,.store 2 (.t 102) (.t 94)⟩,
  ⟨some 103,none,.no,.nilc (.t 93)⟩,
  ⟨some 104,none,.no,.fa 35 (.t 103)⟩,
  ⟨none,none,.no,.store 1 (.t 104) (.t 100)⟩]
@[go_sem] def q1hr48 : List AIns := [
  ⟨some 6,none,.no,.mv (.v (.int .i64 0))⟩]
def q1hc49 : ACode := .seq (.reg q1hr48) .ret
def q1hc50 : ACode := .seq (.reg q1hr47) q1hc49
def q1hc51 : ACode := .seq q1hc46 q1hc50
def q1hc52 : ACode := .seq q1hc41 q1hc51
def q1hc53 : ACode := .seq (.reg q1hr36) q1hc52
def q1hc54 : ACode := .seq q1hc35 q1hc53
def zbr : ACode := .seq (.reg q1hr30) q1hc54
def q1hc56 : ACode := .seq q1hc29 zbr
def q1hc57 : ACode := .seq (.reg q1hr11) q1hc56
def q1hc58 : ACode := .seq (.block 0 q1hc10) q1hc57
def q1hc59 : ACode := .seq (.reg q1hr0) q1hc58
theorem q1hok : cFn TC 15 = some (105, [.t 6], q1hc59) := by kernel_rfl

@[go_sem] def q1ir0 : List AIns := [
  ⟨some 2,none,.no,.mv (.v (.int .i64 0))⟩]
@[go_sem] def q1ir1 : List AIns := [
  ⟨some 3,none,.no,.mv (.t 0)⟩,
  ⟨some 4,none,.no,.call (.v (.fn 61 [])) [(.t 3)]⟩]
@[go_sem] def q1ir2 : List AIns := [
  ⟨some 2,none,.no,.mv (.v (.int .i64 0))⟩]
def q1ic3 : ACode := .seq (.reg q1ir2) .ret
def q1ic4 : ACode := .cond (.t 4) q1ic3 .skip
def q1ic5 : ACode := .seq (.reg q1ir1) q1ic4
@[go_sem] def q1ir6 : List AIns := [
  ⟨some 5,none,.no,.mv (.t 0)⟩,
  ⟨some 6,none,.no,.nilc (.t 5)⟩,
  ⟨some 7,none,.no,.fa 33 (.t 6)⟩,
  ⟨some 8,none,.no,.fa 0 (.t 7)⟩,
  ⟨some 9,none,.no,.load false 1 (.t 8)⟩,
  ⟨some 2,none,.no,.mv (.t 9)⟩]
def q1ic7 : ACode := .seq (.reg q1ir6) .ret
def q1ic8 : ACode := .seq q1ic5 q1ic7
def q1ic9 : ACode := .seq (.reg q1ir0) q1ic8
theorem q1iok : cFn TC 16 = some (10, [.t 2], q1ic9) := by kernel_rfl

@[go_sem] def q1jr0 : List AIns := [
  ⟨some 2,none,.no,.mv (.v (.bool false))⟩]
@[go_sem] def q1jr1 : List AIns := [
  ⟨some 3,none,.no,.mv (.t 0)⟩,
  ⟨some 4,none,.no,.call (.v (.fn 61 [])) [(.t 3)]⟩,
  ⟨some 5,none,.no,.un .not (.t 4)⟩,
  ⟨some 6,none,.no,.mv (.t 5)⟩,
  ⟨some 7, some (6, true), .no, .mv (.t 0)⟩,
  ⟨some 8, some (6, true), .no, .nilc (.t 7)⟩,
  ⟨some 9, some (6, true), .no, .fa 33 (.t 8)⟩,
  ⟨some 10, some (6, true), .no, .fa 0 (.t 9)⟩,
  ⟨some 11, some (6, true), .rd, .load false 1 (.t 10)⟩,
  ⟨some 12, some (6, true), .no, .mv (.t 0)⟩,
  ⟨some 13, some (6, true), .no, .nilc (.t 12)⟩,
  ⟨some 14, some (6, true), .no, .fa 0 (.t 13)⟩,
  ⟨some 15, some (6, true), .no, .fa 0 (.t 14)⟩,
  ⟨some 16, some (6, true), .rd, .load false 1 (.t 15)⟩,
  ⟨some 17, some (6, true), .no, .bin .eql .none (.t 11) (.t 16)⟩,
  ⟨some 18,none,.no,.pick (.t 6) (.t 17) (.v (.bool false))⟩,
  ⟨some 2,none,.no,.mv (.t 18)⟩]
def q1jc2 : ACode := .seq (.reg q1jr1) .ret
def q1jc3 : ACode := .seq (.reg q1jr0) q1jc2
theorem q1jok : cFn TC 17 = some (19, [.t 2], q1jc3) := by kernel_rfl

@[go_sem] def q1kr0 : List AIns := [
  ⟨some 2,none,.no,.mv (.v .nilsl)⟩]
@[go_sem] def q1kr1 : List AIns := [
  ⟨some 3,none,.no,.mv (.t 0)⟩,
  ⟨some 4,none,.no,.call (.v (.fn 61 [])) [(.t 3)]⟩]
@[go_sem] def q1kr2 : List AIns := [
  ⟨some 2,none,.no,.mv (.v .nilsl)⟩]
def q1kc3 : ACode := .seq (.reg q1kr2) .ret
def q1kc4 : ACode := .cond (.t 4) q1kc3 .skip
def q1kc5 : ACode := .seq (.reg q1kr1) q1kc4
@[go_sem] def q1kr6 : List AIns := [
  ⟨some 5,none,.no,.mv (.t 0)⟩,
  ⟨some 6,none,.no,.nilc (.t 5)⟩,
  ⟨some 7,none,.no,.fa 35 (.t 6)⟩,
  ⟨some 8,none,.no,.load false 1 (.t 7)⟩,
  ⟨some 9,none,.no,.app 1 (.v .nilsl) (.t 8)⟩,
  ⟨some 2,none,.no,.mv (.t 9)⟩]
def q1kc7 : ACode := .seq (.reg q1kr6) .ret
def q1kc8 : ACode := .seq q1kc5 q1kc7
def q1kc9 : ACode := .seq (.reg q1kr0) q1kc8
theorem q1kok : cFn TC 18 = some (10, [.t 2], q1kc9) := by kernel_rfl

@[go_sem] def q1lr0 : List AIns := [
  ⟨some 2,none,.no,.alloc [(.int .i64 0), .nilsl]⟩]
@[go_sem] def q1lr1 : List AIns := [
  ⟨some 3,none,.no,.mv (.t 0)⟩,
  ⟨some 4,none,.no,.call (.v (.fn 61 [])) [(.t 3)]⟩]
@[go_sem] def q1lr2 : List AIns := [
  ⟨some 5,none,.no,.build [(.int .i64 0), .nilsl] []⟩,
  ⟨none,none,.no,.store 2 (.t 2) (.t 5)⟩]
def q1lc3 : ACode := .seq (.reg q1lr2) .ret
def q1lc4 : ACode := .cond (.t 4) q1lc3 .skip
def q1lc5 : ACode := .seq (.reg q1lr1) q1lc4
@[go_sem] def q1lr6 : List AIns := [
  ⟨some 6,none,.no,.mv (.t 0)⟩,
  ⟨some 7,none,.no,.nilc (.t 6)⟩,
  ⟨some 8,none,.no,.fa 33 (.t 7)⟩,
  ⟨some 9,none,.no,.load true 2 (.t 8)⟩,
  ⟨some 10,none,.no,.call (.v (.fn 59 [])) [(.t 9)]⟩,
  ⟨none,none,.no,.store 2 (.t 2) (.t 10)⟩]
def q1lc7 : ACode := .seq (.reg q1lr6) .ret
def q1lc8 : ACode := .seq q1lc5 q1lc7
def q1lc9 : ACode := .seq (.reg q1lr0) q1lc8
theorem q1lok : cFn TC 19 = some (11, [.c 2 true 2], q1lc9) := by kernel_rfl

@[go_sem] def q1mr0 : List AIns := [
  ⟨some 6,none,.no,.mv (.v (.int .i64 0))⟩]
@[go_sem] def q1mr1 : List AIns := [
  ⟨some 13,none,.no,.mv (.t 1)⟩,
  ⟨some 14,none,.no,.lenSl (.t 13)⟩,
  ⟨some 15,none,.no,.bin .lss .none (.t 14) (.v (.int .i64 1))⟩,
  ⟨some 16,none,.no,.mv (.t 15)⟩,
  ⟨some 17, some (16, false), .no, .mv (.t 1)⟩,
  ⟨some 18, some (16, false), .no, .lenSl (.t 17)⟩,
  ⟨some 19, some (16, false), .no, .bin .gtr .none (.t 18) (.v (.int .i64 16))⟩,
  ⟨some 20,none,.no,.pick (.t 16) (.v (.bool true)) (.t 19)⟩,
  ⟨some 21,none,.no,.mv (.t 20)⟩,
  ⟨some 22, some (21, false), .no, .mv (.t 0)⟩,
  ⟨some 23, some (21, false), .no, .nilc (.t 22)⟩,
  ⟨some 24, some (21, false), .no, .fa 33 (.t 23)⟩,
  ⟨some 25, some (21, false), .no, .fa 0 (.t 24)⟩,
  ⟨some 26, some (21, false), .rd, .load false 1 (.t 25)⟩,
  ⟨some 27, some (21, false), .no, .mv (.t 1)⟩,
  ⟨some 28, some (21, false), .no, .lenSl (.t 27)⟩,
  ⟨some 29, some (21, false), .no, .bin .add .none (.t 26) (.t 28)⟩,
  ⟨some 30, some (21, false), .no, .mv (.t 0)⟩,
  ⟨some 31, some (21, false), .no, .nilc (.t 30)⟩,
  ⟨some 32, some (21, false), .no, .fa 0 (.t 31)⟩,
  ⟨some 33, some (21, false), .no, .fa 0 (.t 32)⟩,
  ⟨some 34, some (21, false), .rd, .load false 1 (.t 33)⟩,
  ⟨some 35, some (21, false), .no, .bin .gtr .none (.t 29) (.t 34)⟩,
  ⟨some 36,none,.no,.pick (.t 21) (.v (.bool true)) (.t 35)⟩]
@[go_sem] def q1mr2 : List AIns := [
  ⟨some 6,none,.no,.mv (.v (.int .i64 2))⟩]
def q1mc3 : ACode := .seq (.reg q1mr2) .ret
def q1mc4 : ACode := .cond (.t 36) q1mc3 .skip
def q1mc5 : ACode := .seq (.reg q1mr1) q1mc4
@[go_sem] def q1mr6 : List AIns := [
  ⟨some 7,none,.no,.mv (.v .nilsl)⟩]
@[go_sem] def q1mr7 : List AIns := [
  ⟨some 8,none,.no,.mv (.v (.int .i64 0))⟩]
@[go_sem] def q1mr8 : List AIns := [
  ⟨some 37,none,.no,.mv (.t 8)⟩,
  ⟨some 38,none,.no,.mv (.t 1)⟩,
  ⟨some 39,none,.no,.lenSl (.t 38)⟩,
  ⟨some 40,none,.no,.bin .lss .none (.t 37) (.t 39)⟩]
def q1mc9 : ACode := .cond (.t 40) .skip (.exit 0)
def q1mc10 : ACode := .seq (.reg q1mr8) q1mc9
@[go_sem] def q1mr11 : List AIns := [
  ⟨some 43,none,.no,.mv (.t 1)⟩,
  ⟨some 44,none,.no,.mv (.t 8)⟩,
  ⟨some 45,none,.no,.iaSl 1 (.t 43) (.t 44)⟩,
  ⟨some 46,none,.no,.load false 1 (.t 45)⟩,
  ⟨some 47,none,.no,.lenStr (.t 46)⟩,
  ⟨some 48,none,.no,.bin .gtr .none (.t 47) (.v (.int .i64 200))⟩]
@[go_sem] def q1mr12 : List AIns := [
  ⟨some 6,none,.no,.mv (.v (.int .i64 3))⟩]
def q1mc13 : ACode := .seq (.reg q1mr12) .ret
def q1mc14 : ACode := .cond (.t 48) q1mc13 .skip
def q1mc15 : ACode := .seq (.reg q1mr11) q1mc14
@[go_sem] def q1mr16 : List AIns := [
  ⟨some 49,none,.no,.mv (.t 7)⟩,
  ⟨some 50,none,.no,.mv (.t 1)⟩,
  ⟨some 51,none,.no,.mv (.t 8)⟩,
  ⟨some 52,none,.no,.iaSl 1 (.t 50) (.t 51)⟩,
  ⟨some 53,none,.no,.load false 1 (.t 52)⟩,
  ⟨some 54,none,.no,.call (.v (.fn 65 [])) [(.t 53)]⟩,
  ⟨some 55,none,.no,.lit 32 [(.t 54)]⟩,
  ⟨some 56,none,.no,.app 32 (.t 49) (.t 55)⟩,
  ⟨some 7,none,.no,.mv (.t 56)⟩]
def q1mc17 : ACode := .seq q1mc15 (.reg q1mr16)
@[go_sem] def q1mr18 : List AIns := [
  ⟨some 41,none,.no,.mv (.t 8)⟩,
  ⟨some 42,none,.no,.bin .add .none (.t 41) (.v (.int .i64 1))⟩,
  ⟨some 8,none,.no,.mv (.t 42)⟩]
def q1mc19 : ACode := .seq (.block 1 q1mc17) (.reg q1mr18)
def q1mc20 : ACode := .seq q1mc10 q1mc19
def q1mc21 : ACode := .loop q1mc20
def q1mc22 : ACode := .block 0 q1mc21
def q1mc23 : ACode := .seq (.reg q1mr7) q1mc22
@[go_sem] def q1mr24 : List AIns := [
  ⟨some 58,none,.no,.mv (.t 0)⟩,
  ⟨some 59,none,.no,.nilc (.t 58)⟩,
  ⟨some 60,none,.no,.fa 33 (.t 59)⟩,
  ⟨some 61,none,.no,.load true 2 (.t 60)⟩,
  ⟨some 62,none,.no,.mv (.t 7)⟩,
  ⟨some 63,none,.no,.call (.v (.fn 66 [])) [(.t 61), (.t 62)]⟩,
  ⟨some 57,none,.no,.mv (.t 63)⟩,
  ⟨some 64,none,.no,.ext 0 (.t 57)⟩,
  ⟨some 65,none,.no,.ext 1 (.t 57)⟩,
  ⟨some 9,none,.no,.alloc [(.int .i64 0), .nilsl]⟩,
  ⟨none,none,.no,.store 2 (.t 9) (.t 64)⟩,
  ⟨some 10,none,.no,.mv (.t 65)⟩]
@[go_sem] def q1mr25 : List AIns := [
  ⟨some 66,none,.no,.mv (.t 10)⟩,
  ⟨some 67,none,.no,.bin .neq .none (.t 66) (.v (.int .i64 0))⟩]
@[go_sem] def q1mr26 : List AIns := [
  ⟨some 68,none,.no,.mv (.t 10)⟩,
  ⟨some 6,none,.no,.mv (.t 68)⟩]
def q1mc27 : ACode := .seq (.reg q1mr26) .ret
def q1mc28 : ACode := .cond (.t 67) q1mc27 .skip
def q1mc29 : ACode := .seq (.reg q1mr25) q1mc28
@[go_sem] def q1mr30 : List AIns := [
  ⟨some 70,none,.no,.load true 2 (.t 9)⟩,
  ⟨some 71,none,.no,.call (.v (.fn 67 [])) [(.t 70)]⟩,
  ⟨some 69,none,.no,.mv (.t 71)⟩,
  ⟨some 72,none,.no,.ext 0 (.t 69)⟩,
  ⟨some 73,none,.no,.ext 1 (.t 69)⟩,
  ⟨some 11,none,.no,.alloc zZ0⟩,
  ⟨none,none,.no,.store 32 (.t 11) (.t 72)⟩,
  ⟨some 12,none,.no,.mv (.t 73)⟩]
@[go_sem] def q1mr31 : List AIns := [
  ⟨some 74,none,.no,.mv (.t 12)⟩,
  ⟨some 75,none,.no,.bin .neq .none (.t 74) (.v (.int .i64 0))⟩]
@[go_sem] def q1mr32 : List AIns := [
  ⟨some 76,none,.no,.mv (.t 12)⟩,
  ⟨some 6,none,.no,.mv (.t 76)⟩]
def q1mc33 : ACode := .seq (.reg q1mr32) .ret
def q1mc34 : ACode := .cond (.t 75) q1mc33 .skip
def q1mc35 : ACode := .seq (.reg q1mr31) q1mc34
@[go_sem] def q1mr36 : List AIns := [
  ⟨some 77,none,.no,.fa 0 (.t 9)⟩,
  ⟨some 78, none, .rd, .load false 1 (.t 77)⟩,
  ⟨some 79,none,.no,.mv (.t 0)⟩,
  ⟨some 80,none,.no,.nilc (.t 79)⟩,
  ⟨some 81,none,.no,.fa 0 (.t 80)⟩,
  ⟨some 82,none,.no,.fa 0 (.t 81)⟩,
  ⟨some 83, none, .rd, .load false 1 (.t 82)⟩,
  ⟨some 84, none, .rd, .load true 32 (.t 11)⟩,
  ⟨some 85,none,.no,.mv (.t 0)⟩,
  ⟨some 86,none,.no,.nilc (.t 85)⟩,
  ⟨some 87,none,.no,.fa 0 (.t 86)⟩,
  ⟨some 88,none,.no,.fa 1 (.t 87)⟩,
  ⟨some 89, none, .rd, .load true 32 (.t 88)⟩,
  ⟨some 90,none,.no,.mv (.t 2)⟩,
  ⟨some 91,none,.no,.call (.v (.fn 68 [])) [(.t 78), (.t 83), (.t 84), (.t 89), (.t 90)]⟩,
  ⟨some 92,none,.no,.bin .neq .none (.t 91) (.v (.int .i64 0))⟩]
@[go_sem] def q1mr37 : List AIns := [
  ⟨some 6,none,.no,.mv (.v (.int .i64 80))⟩]
def q1mc38 : ACode := .seq (.reg q1mr37) .ret
def q1mc39 : ACode := .cond (.t 92) q1mc38 .skip
def q1mc40 : ACode := .seq (.reg q1mr36) q1mc39
@[go_sem] def q1mr41 : List AIns := [
  ⟨some 93,none,.no,.mv (.t 0)⟩,
  ⟨some 94,none,.no,.load true 2 (.t 9)⟩,
  ⟨some 95,none,.no,.nilc (.t 93)⟩,
  ⟨some 96,none,.no,.fa 33 (.t 95)⟩,
  ⟨none,none,.no,.store 2 (.t 96) (.t 94)⟩]
@[go_sem] def q1mr42 : List AIns := [
  ⟨some 97,none,.no,.mv (.t 0)⟩,
  ⟨some 98,none,.no,.mv (.t 0)⟩,
  ⟨some 99,none,.no,.nilc (.t 98)⟩,
  ⟨some 100,none,.no,.fa 35 (.t 99)⟩,
  ⟨some 101,none,.no,.load false 1 (.t 100)⟩,
  ⟨some 102,none,.no,.app 1 (.v .nilsl) (.t 101)⟩,
  ⟨some 103,none,.no,.mv (.t 1)⟩,
  ⟨some 104,none,.no,.app 1 (.t 102) (.t 103)⟩,
  ⟨some 105,none,.no,.nilc (.t 97)⟩,
  ⟨some 106,none,.no,.fa 35 (.t 105)⟩,
  ⟨none,none,.no,.store 1 (.t 106) (.t 104)⟩]
@[go_sem] def q1mr43 : List AIns := [
  ⟨some 6,none,.no,.mv (.v (.int .i64 0))⟩]
def q1mc44 : ACode := .seq (.reg q1mr43) .ret
def q1mc45 : ACode := .seq (.reg q1mr42) q1mc44
def q1mc46 : ACode := .seq (.reg q1mr41) q1mc45
def q1mc47 : ACode := .seq q1mc40 q1mc46
def q1mc48 : ACode := .seq q1mc35 q1mc47
def q1mc49 : ACode := .seq (.reg q1mr30) q1mc48
def q1mc50 : ACode := .seq q1mc29 q1mc49
def zbs : ACode := .seq (.reg q1mr24) q1mc50
def q1mc52 : ACode := .seq q1mc23 zbs
def q1mc53 : ACode := .seq (.reg q1mr6) q1mc52
def q1mc54 : ACode := .seq q1mc5 q1mc53
def q1mc55 : ACode := .seq (.reg q1mr0) q1mc54
theorem q1mok : cFn TC 20 = some (107, [.t 6], q1mc55) := by kernel_rfl

@[go_sem] def q1nr0 : List AIns := [
  ⟨some 4,none,.no,.mv (.v (.bool false))⟩]
@[go_sem] def q1nr1 : List AIns := [
  ⟨some 7,none,.no,.mv (.t 0)⟩,
  ⟨some 8,none,.no,.call (.v (.fn 18 [])) [(.t 7)]⟩,
  ⟨some 5,none,.no,.mv (.t 8)⟩]
@[go_sem] def q1nr2 : List AIns := [
  ⟨some 9,none,.no,.mv (.t 0)⟩,
  ⟨some 10, none, .ef, .call (.v (.fn 16 [])) [(.t 9)]⟩,
  ⟨some 11,none,.no,.mv (.t 1)⟩,
  ⟨some 12,none,.no,.nilc (.t 11)⟩,
  ⟨some 13,none,.no,.fa 33 (.t 12)⟩,
  ⟨some 14,none,.no,.fa 0 (.t 13)⟩,
  ⟨some 15, none, .rd, .load false 1 (.t 14)⟩,
  ⟨some 16,none,.no,.bin .neq .none (.t 10) (.t 15)⟩,
  ⟨some 17,none,.no,.mv (.t 16)⟩,
  ⟨some 18, some (17, false), .no, .mv (.t 0)⟩,
  ⟨some 19, some (17, false), .ef, .call (.v (.fn 17 [])) [(.t 18)]⟩,
  ⟨some 20, some (17, false), .no, .mv (.t 1)⟩,
  ⟨some 21, some (17, false), .no, .nilc (.t 20)⟩,
  ⟨some 22, some (17, false), .no, .fa 33 (.t 21)⟩,
  ⟨some 23, some (17, false), .no, .fa 0 (.t 22)⟩,
  ⟨some 24, some (17, false), .rd, .load false 1 (.t 23)⟩,
  ⟨some 25, some (17, false), .no, .mv (.t 1)⟩,
  ⟨some 26, some (17, false), .no, .nilc (.t 25)⟩,
  ⟨some 27, some (17, false), .no, .fa 0 (.t 26)⟩,
  ⟨some 28, some (17, false), .no, .fa 0 (.t 27)⟩,
  ⟨some 29, some (17, false), .rd, .load false 1 (.t 28)⟩,
  ⟨some 30, some (17, false), .no, .bin .eql .none (.t 24) (.t 29)⟩,
  ⟨some 31, some (17, false), .no, .bin .neq .bool (.t 19) (.t 30)⟩,
  ⟨some 32,none,.no,.pick (.t 17) (.v (.bool true)) (.t 31)⟩,
  ⟨some 33,none,.no,.mv (.t 32)⟩,
  ⟨some 34, some (33, false), .no, .mv (.t 0)⟩,
  ⟨some 35, some (33, false), .ef, .call (.v (.fn 19 [])) [(.t 34)]⟩,
  ⟨some 36, some (33, false), .no, .mv (.t 1)⟩,
  ⟨some 37, some (33, false), .no, .nilc (.t 36)⟩,
  ⟨some 38, some (33, false), .no, .fa 33 (.t 37)⟩,
  ⟨some 39, some (33, false), .rd, .load true 2 (.t 38)⟩,
  ⟨some 40, some (33, false), .no, .call (.v (.fn 69 [])) [(.t 35), (.t 39)]⟩,
  ⟨some 41, some (33, false), .no, .un .not (.t 40)⟩,
  ⟨some 42,none,.no,.pick (.t 33) (.v (.bool true)) (.t 41)⟩,
  ⟨some 43,none,.no,.mv (.t 42)⟩,
  ⟨some 44, some (43, false), .no, .mv (.t 5)⟩,
  ⟨some 45, some (43, false), .no, .lenSl (.t 44)⟩,
  ⟨some 46, some (43, false), .no, .mv (.t 1)⟩,
  ⟨some 47, some (43, false), .no, .nilc (.t 46)⟩,
  ⟨some 48, some (43, false), .no, .fa 35 (.t 47)⟩,
  ⟨some 49, some (43, false), .no, .load false 1 (.t 48)⟩,
  ⟨some 50, some (43, false), .no, .lenSl (.t 49)⟩,
  ⟨some 51, some (43, false), .no, .bin .neq .none (.t 45) (.t 50)⟩,
  ⟨some 52,none,.no,.pick (.t 43) (.v (.bool true)) (.t 51)⟩]
@[go_sem] def q1nr3 : List AIns := [
  ⟨some 4,none,.no,.mv (.v (.bool false))⟩]
def q1nc4 : ACode := .seq (.reg q1nr3) .ret
def q1nc5 : ACode := .cond (.t 52) q1nc4 .skip
def q1nc6 : ACode := .seq (.reg q1nr2) q1nc5
@[go_sem] def q1nr7 : List AIns := [
  ⟨some 6,none,.no,.mv (.v (.int .i64 0))⟩]
@[go_sem] def q1nr8 : List AIns := [
  ⟨some 53,none,.no,.mv (.t 6)⟩,
  ⟨some 54,none,.no,.mv (.t 5)⟩,
  ⟨some 55,none,.no,.lenSl (.t 54)⟩,
  ⟨some 56,none,.no,.bin .lss .none (.t 53) (.t 55)⟩]
def q1nc9 : ACode := .cond (.t 56) .skip (.exit 0)
def q1nc10 : ACode := .seq (.reg q1nr8) q1nc9
@[go_sem] def q1nr11 : List AIns := [
  ⟨some 59,none,.no,.mv (.t 5)⟩,
  ⟨some 60,none,.no,.mv (.t 6)⟩,
  ⟨some 61,none,.no,.iaSl 1 (.t 59) (.t 60)⟩,
  ⟨some 62, none, .rd, .load false 1 (.t 61)⟩,
  ⟨some 63,none,.no,.mv (.t 1)⟩,
  ⟨some 64,none,.no,.nilc (.t 63)⟩,
  ⟨some 65,none,.no,.fa 35 (.t 64)⟩,
  ⟨some 66, none, .rd, .load false 1 (.t 65)⟩,
  ⟨some 67,none,.no,.mv (.t 6)⟩,
  ⟨some 68,none,.no,.iaSl 1 (.t 66) (.t 67)⟩,
  ⟨some 69, none, .rd, .load false 1 (.t 68)⟩,
  ⟨some 70,none,.no,.bin .neq .none (.t 62) (.t 69)⟩]
@[go_sem] def q1nr12 : List AIns := [
  ⟨some 4,none,.no,.mv (.v (.bool false))⟩]
def q1nc13 : ACode := .seq (.reg q1nr12) .ret
def q1nc14 : ACode := .cond (.t 70) q1nc13 .skip
def q1nc15 : ACode := .seq (.reg q1nr11) q1nc14
@[go_sem] def q1nr16 : List AIns := [
  ⟨some 57,none,.no,.mv (.t 6)⟩,
  ⟨some 58,none,.no,.bin .add .none (.t 57) (.v (.int .i64 1))⟩,
  ⟨some 6,none,.no,.mv (.t 58)⟩]
def q1nc17 : ACode := .seq (.block 1 q1nc15) (.reg q1nr16)
def q1nc18 : ACode := .seq q1nc10 q1nc17
def q1nc19 : ACode := .loop q1nc18
def q1nc20 : ACode := .block 0 q1nc19
def q1nc21 : ACode := .seq (.reg q1nr7) q1nc20
@[go_sem] def q1nr22 : List AIns := [
  ⟨some 4,none,.no,.mv (.v (.bool true))⟩]
def q1nc23 : ACode := .seq (.reg q1nr22) .ret
def zbt : ACode := .seq q1nc21 q1nc23
def q1nc25 : ACode := .seq q1nc6 zbt
def q1nc26 : ACode := .seq (.reg q1nr1) q1nc25
def q1nc27 : ACode := .seq (.reg q1nr0) q1nc26
theorem q1nok : cFn TC 21 = some (71, [.t 4], q1nc27) := by kernel_rfl

@[go_sem] def q1or0 : List AIns := [
  ⟨some 2,none,.no,.mv (.v (.bool false))⟩]
@[go_sem] def q1or1 : List AIns := [
  ⟨some 3,none,.no,.mv (.v (.int .i64 0))⟩]
@[go_sem] def q1or2 : List AIns := [
  ⟨some 4,none,.no,.mv (.t 3)⟩,
  ⟨some 5,none,.no,.mv (.t 0)⟩,
  ⟨some 6,none,.no,.lenSl (.t 5)⟩,
  ⟨some 7,none,.no,.bin .lss .none (.t 4) (.t 6)⟩]
def q1oc3 : ACode := .cond (.t 7) .skip (.exit 0)
def q1oc4 : ACode := .seq (.reg q1or2) q1oc3
@[go_sem] def q1or5 : List AIns := [
  ⟨some 10,none,.no,.mv (.t 0)⟩,
  ⟨some 11,none,.no,.mv (.t 3)⟩,
  ⟨some 12,none,.no,.iaSl 1 (.t 10) (.t 11)⟩,
  ⟨some 13,none,.no,.load false 1 (.t 12)⟩,
  ⟨some 14,none,.no,.lenStr (.t 13)⟩,
  ⟨some 15,none,.no,.bin .gtr .none (.t 14) (.v (.int .i64 200))⟩]
@[go_sem] def q1or6 : List AIns := [
  ⟨some 2,none,.no,.mv (.v (.bool true))⟩]
def q1oc7 : ACode := .seq (.reg q1or6) .ret
def q1oc8 : ACode := .cond (.t 15) q1oc7 .skip
def q1oc9 : ACode := .seq (.reg q1or5) q1oc8
@[go_sem] def q1or10 : List AIns := [
  ⟨some 8,none,.no,.mv (.t 3)⟩,
  ⟨some 9,none,.no,.bin .add .none (.t 8) (.v (.int .i64 1))⟩,
  ⟨some 3,none,.no,.mv (.t 9)⟩]
def q1oc11 : ACode := .seq (.block 1 q1oc9) (.reg q1or10)
def q1oc12 : ACode := .seq q1oc4 q1oc11
def q1oc13 : ACode := .loop q1oc12
def q1oc14 : ACode := .block 0 q1oc13
def q1oc15 : ACode := .seq (.reg q1or1) q1oc14
@[go_sem] def q1or16 : List AIns := [
  ⟨some 16,none,.no,.mv (.t 0)⟩,
  ⟨some 17,none,.no,.lenSl (.t 16)⟩,
  ⟨some 18,none,.no,.bin .gtr .none (.t 17) (.v (.int .i64 60))⟩,
  ⟨some 2,none,.no,.mv (.t 18)⟩]
def q1oc17 : ACode := .seq (.reg q1or16) .ret
def q1oc18 : ACode := .seq q1oc15 q1oc17
def q1oc19 : ACode := .seq (.reg q1or0) q1oc18
theorem q1ook : cFn TC 22 = some (19, [.t 2], q1oc19) := by kernel_rfl

@[go_sem] def q1pr0 : List AIns := [
  ⟨some 2,none,.no,.mv (.v .nilsl)⟩]
@[go_sem] def q1pr1 : List AIns := [
  ⟨some 3,none,.no,.mv (.v .nilsl)⟩]
@[go_sem] def q1pr2 : List AIns := [
  ⟨some 4,none,.no,.mv (.v (.int .i64 0))⟩]
@[go_sem] def q1pr3 : List AIns := [
  ⟨some 5,none,.no,.mv (.t 4)⟩,
  ⟨some 6,none,.no,.mv (.t 0)⟩,
  ⟨some 7,none,.no,.lenSl (.t 6)⟩,
  ⟨some 8,none,.no,.bin .lss .none (.t 5) (.t 7)⟩]
def q1pc4 : ACode := .cond (.t 8) .skip (.exit 0)
def q1pc5 : ACode := .seq (.reg q1pr3) q1pc4
@[go_sem] def q1pr6 : List AIns := [
  ⟨some 11,none,.no,.mv (.t 3)⟩,
  ⟨some 12,none,.no,.mv (.t 0)⟩,
  ⟨some 13,none,.no,.mv (.t 4)⟩,
  ⟨some 14,none,.no,.iaSl 1 (.t 12) (.t 13)⟩,
  ⟨some 15,none,.no,.load false 1 (.t 14)⟩,
  ⟨some 16,none,.no,.call (.v (.fn 65 [])) [(.t 15)]⟩,
  ⟨some 17,none,.no,.lit 32 [(.t 16)]⟩,
  ⟨some 18,none,.no,.app 32 (.t 11) (.t 17)⟩,
  ⟨some 3,none,.no,.mv (.t 18)⟩]
@[go_sem] def q1pr7 : List AIns := [
  ⟨some 9,none,.no,.mv (.t 4)⟩,
  ⟨some 10,none,.no,.bin .add .none (.t 9) (.v (.int .i64 1))⟩,
  ⟨some 4,none,.no,.mv (.t 10)⟩]
def q1pc8 : ACode := .seq (.block 1 (.reg q1pr6)) (.reg q1pr7)
def q1pc9 : ACode := .seq q1pc5 q1pc8
def q1pc10 : ACode := .loop q1pc9
def q1pc11 : ACode := .block 0 q1pc10
def q1pc12 : ACode := .seq (.reg q1pr2) q1pc11
@[go_sem] def q1pr13 : List AIns := [
  ⟨some 19,none,.no,.mv (.t 3)⟩,
  ⟨some 2,none,.no,.mv (.t 19)⟩]
def q1pc14 : ACode := .seq (.reg q1pr13) .ret
def q1pc15 : ACode := .seq q1pc12 q1pc14
def q1pc16 : ACode := .seq (.reg q1pr1) q1pc15
def q1pc17 : ACode := .seq (.reg q1pr0) q1pc16
theorem q1pok : cFn TC 24 = some (20, [.t 2], q1pc17) := by kernel_rfl

@[go_sem] def q1qr0 : List AIns := [
  ⟨some 3,none,.no,.box (.t 0)⟩,
  ⟨some 6,none,.no,.mv (.v .nilsl)⟩,
  ⟨some 7,none,.no,.mv (.v .nilsl)⟩]
@[go_sem] def q1qr1 : List AIns := [
  ⟨some 12,none,.no,.fa 0 (.t 3)⟩,
  ⟨some 13,none,.no,.load false 1 (.t 12)⟩,
  ⟨some 14,none,.no,.bin .rem .none (.t 13) (.v (.int .u8 6))⟩,
  ⟨some 15,none,.no,.bin .eql .none (.t 14) (.v (.int .u8 5))⟩]
@[go_sem] def q1qr2 : List AIns := [
  ⟨some 16,none,.no,.fa 2 (.t 3)⟩,
  ⟨some 17, none, .rd, .load false 1 (.t 16)⟩,
  ⟨some 18,none,.no,.fa 3 (.t 3)⟩,
  ⟨some 19, none, .rd, .load false 1 (.t 18)⟩,
  ⟨some 6,none,.no,.mv (.t 17)⟩,
  ⟨some 7,none,.no,.mv (.t 19)⟩]
def q1qc3 : ACode := .seq (.reg q1qr2) .ret
def q1qc4 : ACode := .cond (.t 15) q1qc3 .skip
def q1qc5 : ACode := .seq (.reg q1qr1) q1qc4
@[go_sem] def q1qr6 : List AIns := [
  ⟨some 20,none,.no,.mv (.t 2)⟩,
  ⟨some 21,none,.no,.fa 1 (.t 3)⟩,
  ⟨some 22,none,.no,.load false 1 (.t 21)⟩,
  ⟨some 23,none,.no,.bin .rem .none (.t 22) (.v (.int .u8 20))⟩,
  ⟨some 24,none,.no,.conv (.int .i64) (.t 23)⟩,
  ⟨some 25,none,.no,.bin .add .none (.t 20) (.t 24)⟩,
  ⟨some 26,none,.no,.mv (.t 1)⟩,
  ⟨some 27,none,.no,.lenSl (.t 26)⟩,
  ⟨some 28,none,.no,.minmax false (.t 25) (.t 27)⟩,
  ⟨some 8,none,.no,.mv (.t 28)⟩]
@[go_sem] def q1qr7 : List AIns := [
  ⟨some 29,none,.no,.mv (.t 1)⟩,
  ⟨some 30,none,.no,.mv (.t 2)⟩,
  ⟨some 31,none,.no,.mv (.t 8)⟩,
  ⟨some 32,none,.no,.minmax false (.t 30) (.t 31)⟩,
  ⟨some 33,none,.no,.mv (.t 8)⟩,
  ⟨some 34,none,.no,.slice (.sl 1) (.t 29) (some (.t 32)) (some (.t 33)) none⟩,
  ⟨some 35,none,.no,.app 1 (.v .nilsl) (.t 34)⟩,
  ⟨some 9,none,.no,.mv (.t 35)⟩]
@[go_sem] def q1qr8 : List AIns := [
  ⟨some 37,none,.no,.mv (.t 1)⟩,
  ⟨some 38,none,.no,.call (.v (.fn 24 [])) [(.t 37)]⟩,
  ⟨some 39,none,.no,.mv (.t 8)⟩,
  ⟨some 40,none,.no,.call (.v (.fn 57 [])) [(.t 38), (.t 39)]⟩,
  ⟨some 36,none,.no,.mv (.t 40)⟩,
  ⟨some 41,none,.no,.ext 0 (.t 36)⟩,
  ⟨some 42,none,.no,.ext 1 (.t 36)⟩,
  ⟨some 10,none,.no,.mv (.t 41)⟩,
  ⟨some 11,none,.no,.mv (.t 42)⟩]
@[go_sem] def q1qr9 : List AIns := [
  ⟨some 43,none,.no,.fa 0 (.t 3)⟩,
  ⟨some 44,none,.no,.load false 1 (.t 43)⟩,
  ⟨some 45,none,.no,.bin .rem .none (.t 44) (.v (.int .u8 6))⟩,
  ⟨some 46,none,.no,.bin .eql .none (.t 45) (.v (.int .u8 3))⟩,
  ⟨some 47,none,.no,.mv (.t 46)⟩,
  ⟨some 48, some (47, true), .no, .mv (.t 9)⟩,
  ⟨some 49, some (47, true), .no, .lenSl (.t 48)⟩,
  ⟨some 50, some (47, true), .no, .bin .gtr .none (.t 49) (.v (.int .i64 0))⟩,
  ⟨some 51,none,.no,.pick (.t 47) (.t 50) (.v (.bool false))⟩]
@[go_sem] def q1qr10 : List AIns := [
  ⟨some 52,none,.no,.mv (.t 9)⟩,
  ⟨some 53,none,.no,.fa 1 (.t 3)⟩,
  ⟨some 54, none, .rd, .load false 1 (.t 53)⟩,
  ⟨some 55,none,.no,.conv (.int .i64) (.t 54)⟩,
  ⟨some 56,none,.no,.mv (.t 9)⟩,
  ⟨some 57,none,.no,.lenSl (.t 56)⟩,
  ⟨some 58,none,.no,.bin .rem .none (.t 55) (.t 57)⟩,
  ⟨some 59,none,.no,.mv (.t 9)⟩,
  ⟨some 60,none,.no,.fa 1 (.t 3)⟩,
  ⟨some 61, none, .rd, .load false 1 (.t 60)⟩,
  ⟨some 62,none,.no,.conv (.int .i64) (.t 61)⟩,
  ⟨some 63,none,.no,.mv (.t 9)⟩,
  ⟨some 64,none,.no,.lenSl (.t 63)⟩,
  ⟨some 65,none,.no,.bin .rem .none (.t 62) (.t 64)⟩,
  ⟨some 66,none,.no,.iaSl 1 (.t 59) (.t 65)⟩,
  ⟨some 67, none, .rd, .load false 1 (.t 66)⟩,
  ⟨some 68,none,.no,.bin .add .none (.t 67) (.v (.str [33]))⟩,
  ⟨some 69,none,.no,.iaSl 1 (.t 52) (.t 58)⟩,
  ⟨none,none,.no,.store 1 (.t 69) (.t 68)⟩]
def q1qc11 : ACode := .cond (.t 51) (.reg q1qr10) .skip
def q1qc12 : ACode := .seq (.reg q1qr9) q1qc11
@[go_sem] def q1qr13 : List AIns := [
  ⟨some 70,none,.no,.fa 0 (.t 3)⟩,
  ⟨some 71,none,.no,.load false 1 (.t 70)⟩,
  ⟨some 72,none,.no,.bin .rem .none (.t 71) (.v (.int .u8 6))⟩,
  ⟨some 73,none,.no,.bin .eql .none (.t 72) (.v (.int .u8 4))⟩]
@[go_sem] def q1qr14 : List AIns := [
  ⟨some 74,none,.no,.fa 3 (.t 3)⟩,
  ⟨some 75,none,.no,.load false 1 (.t 74)⟩,
  ⟨some 10,none,.no,.mv (.t 75)⟩]
def q1qc15 : ACode := .cond (.t 73) (.reg q1qr14) .skip
def q1qc16 : ACode := .seq (.reg q1qr13) q1qc15
@[go_sem] def q1qr17 : List AIns := [
  ⟨some 76,none,.no,.mv (.t 9)⟩,
  ⟨some 77,none,.no,.mv (.t 10)⟩,
  ⟨some 6,none,.no,.mv (.t 76)⟩,
  ⟨some 7,none,.no,.mv (.t 77)⟩]
def q1qc18 : ACode := .seq (.reg q1qr17) .ret
def q1qc19 : ACode := .seq q1qc16 q1qc18
def q1qc20 : ACode := .seq q1qc12 q1qc19
def q1qc21 : ACode := .seq (.reg q1qr8) q1qc20
def q1qc22 : ACode := .seq (.reg q1qr7) q1qc21
def q1qc23 : ACode := .seq (.reg q1qr6) q1qc22
def q1qc24 : ACode := .seq q1qc5 q1qc23
def q1qc25 : ACode := .seq (.reg q1qr0) q1qc24
theorem z6b : cFn TC 26 = some (78, [.t 6, .t 7], q1qc25) := by kernel_rfl

@[go_sem] def q1rr0 : List AIns := [
  ⟨some 2,none,.no,.alloc zZ0⟩]
@[go_sem] def q1rr1 : List AIns := [
  ⟨some 3,none,.no,.mv (.t 0)⟩,
  ⟨some 4,none,.no,.call (.v (.fn 44 [])) [(.t 3)]⟩,
  ⟨none,none,.no,.store 32 (.t 2) (.t 4)⟩]
def q1rc2 : ACode := .seq (.reg q1rr1) .ret
def q1rc3 : ACode := .seq (.reg q1rr0) q1rc2
theorem q1rok : cFn TC 56 = some (5, [.c 2 true 32], q1rc3) := by kernel_rfl

@[go_sem] def q1sr0 : List AIns := [
  ⟨some 1,none,.no,.box (.t 0)⟩,
  ⟨some 2,none,.no,.alloc [(.int .i64 0), .nilsl]⟩]
@[go_sem] def q1sr1 : List AIns := [
  ⟨some 3,none,.no,.fa 1 (.t 1)⟩,
  ⟨some 4,none,.no,.load false 1 (.t 3)⟩,
  ⟨some 5,none,.no,.app 32 (.v .nilsl) (.t 4)⟩,
  ⟨some 6,none,.no,.fa 1 (.t 1)⟩,
  ⟨none,none,.no,.store 1 (.t 6) (.t 5)⟩]
@[go_sem] def q1sr2 : List AIns := [
  ⟨some 7,none,.no,.load true 2 (.t 1)⟩,
  ⟨none,none,.no,.store 2 (.t 2) (.t 7)⟩]
def q1sc3 : ACode := .seq (.reg q1sr2) .ret
def q1sc4 : ACode := .seq (.reg q1sr1) q1sc3
def q1sc5 : ACode := .seq (.reg q1sr0) q1sc4
theorem q1sok : cFn TC 59 = some (8, [.c 2 true 2], q1sc5) := by kernel_rfl

@[go_sem] def q1tr0 : List AIns := [
  ⟨some 2,none,.no,.mv (.v (.bool false))⟩]
@[go_sem] def q1tr1 : List AIns := [
  ⟨some 3,none,.no,.mv (.t 0)⟩,
  ⟨some 4,none,.no,.bin .eql .ptr (.t 3) (.v .nilp)⟩,
  ⟨some 5,none,.no,.mv (.t 4)⟩,
  ⟨some 6, some (5, false), .no, .mv (.t 0)⟩,
  ⟨some 7, some (5, false), .no, .nilc (.t 6)⟩,
  ⟨some 8, some (5, false), .no, .fa 0 (.t 7)⟩,
  ⟨some 9, some (5, false), .no, .fa 0 (.t 8)⟩,
  ⟨some 10, some (5, false), .no, .load false 1 (.t 9)⟩,
  ⟨some 11, some (5, false), .no, .bin .eql .none (.t 10) (.v (.int .i64 0))⟩,
  ⟨some 12,none,.no,.pick (.t 5) (.v (.bool true)) (.t 11)⟩,
  ⟨some 2,none,.no,.mv (.t 12)⟩]
def q1tc2 : ACode := .seq (.reg q1tr1) .ret
def q1tc3 : ACode := .seq (.reg q1tr0) q1tc2
theorem q1tok : cFn TC 61 = some (13, [.t 2], q1tc3) := by kernel_rfl
end Am
end Go.Proofs.YtncenefkbpelbaaDoor
end
section
/- Abstract code. (Printed by wip/gen.) -/
set_option maxRecDepth 10000
namespace Go.Proofs.YtncenefkbpelbaaDoor
namespace Am



@[go_sem] def q1ur0 : List AIns := [
  ⟨some 2,none,.no,.alloc zZ0⟩]
@[go_sem] def q1ur1 : List AIns := [
  ⟨some 3,none,.no,.mv (.t 0)⟩,
  ⟨some 4,none,.no,.bin .add .none (.v (.str [0])) (.t 3)⟩,
  ⟨some 5,none,.no,.call (.v (.fn 87 [])) [(.t 4)]⟩,
  ⟨none,none,.no,.store 32 (.t 2) (.t 5)⟩]
def q1uc2 : ACode := .seq (.reg q1ur1) .ret
def q1uc3 : ACode := .seq (.reg q1ur0) q1uc2
theorem q1uok : cFn TC 44 = some (6, [.c 2 true 32], q1uc3) := by kernel_rfl

@[go_sem] def q1vr0 : List AIns := [
  ⟨some 2,none,.no,.alloc zZ0⟩]
@[go_sem] def q1vr1 : List AIns := [
  ⟨some 3,none,.no,.mv (.t 0)⟩,
  ⟨some 4,none,.no,.bin .add .none (.v (.str [0])) (.t 3)⟩,
  ⟨some 5,none,.no,.call (.v (.fn 70 [])) [(.t 4)]⟩,
  ⟨none,none,.no,.store 32 (.t 2) (.t 5)⟩]
def q1vc2 : ACode := .seq (.reg q1vr1) .ret
def q1vc3 : ACode := .seq (.reg q1vr0) q1vc2
theorem q1vok : cFn TC 65 = some (6, [.c 2 true 32], q1vc3) := by kernel_rfl
end Am
end Go.Proofs.YtncenefkbpelbaaDoor
end
section
/- Stage: contracts: what it has. -/
namespace Go.Proofs.YtncenefkbpelbaaDoor
namespace Am
/-- A stage's cells: the head, the range, the entries. -/
def stC (n : Int) (root : Hash) (rn : Int) (z v : AV) : List AV := .int .i64 n :: (hc root ++ [.int .i64 rn, z, v])
@[go_sem] theorem zh (n : Int) (root : Hash) (rn : Int) (z v : AV) : (stC n root rn z v).length = 36 := by simp [stC, z7]
@[go_sem] theorem stC_0 (n : Int) (root : Hash) (rn : Int) (z v : AV) : (stC n root rn z v)[0]? = some (.int .i64 n) := rfl
theorem zcj (n : Int) (root : Hash) (rn : Int) (z v : AV) (k : Nat) : (stC n root rn z v)[33 + k]? = [AV.int .i64 rn, z, v][k]? := by
  rw [stC, show 33 + k = (32 + k) + 1 by omega, List.getElem?_cons_succ, List.getElem?_append_right (by rw [z7]; omega), z7, Nat.add_sub_cancel_left]
@[go_sem] theorem stC_33 (n : Int) (root : Hash) (rn : Int) (z v : AV) : (stC n root rn z v)[33]? = some (.int .i64 rn) := zcj n root rn z v 0
@[go_sem] theorem stC_34 (n : Int) (root : Hash) (rn : Int) (z v : AV) : (stC n root rn z v)[34]? = some z := zcj n root rn z v 1
@[go_sem] theorem stC_35 (n : Int) (root : Hash) (rn : Int) (z v : AV) : (stC n root rn z v)[35]? = some v := zcj n root rn z v 2
@[go_sem] theorem stC_root (n : Int) (root : Hash) (rn : Int) (z v : AV) : ((stC n root rn z v).drop 1).take 32 = hc root := by rw [stC, List.drop_succ_cons, List.drop_zero, z7y]
@[go_sem] theorem zoh (n : Int) (root : Hash) (rn : Int) (z v : AV) : (stC n root rn z v).drop 33 = [.int .i64 rn, z, v] := by rw [stC, List.drop_succ_cons, z9e]
attribute [local irreducible] ACallsTo ACallsP
theorem z4y (O : Store) : ACallsTo TC 61 [.nilp] O (.bool true) O := by
  refine ACallsTo.of_body q1tok (by simp) fun hw _ => ?_
  repeat' (first|refine zW.zs ?_|refine zW.zb ?_|refine zW.zc ?_|refine zW.zt rfl ?_|refine zW.zf rfl ?_|(refine zW.zd rfl (fun ht => ?_) (fun ht => ?_)<;>try (exfalso;omega))|((first|refine zW.zr ?_|refine zW.zk ?_|refine zW.ze ?_|refine zW.zq ?_|((first|apply zg0|apply zg1|apply zg2|apply zg3|apply zg4|apply zg5|apply zg6|apply zg7)<;>intro ht));all_goals try simp (disch:=first|omega|(simp only [lens,z7,z6,List.length_reverse,zh];first|done|omega)) only [go_sem,reduceEqDiff,Nat.reduceBEq,reduceAdd,reduceMul,reduceSub,reduceLeDiff,reduceToNat,reducePow]))
  exact DownV.same hw z3x
theorem z8a (O : Store) (r : Nat) (n : Int) (root : Hash) (rn : Int) (z v : AV) (hg : O[r]? = some (some [stC n root rn z v])) (hn : n ≠ 0) : ACallsTo TC 61 [.ptr r 0 0] O (.bool false) O := by
  refine ACallsTo.of_body q1tok (by simp) fun hw _ => ?_
  have d := slen hg
  repeat' (first|refine zW.zs ?_|refine zW.zb ?_|refine zW.zc ?_|refine zW.zt rfl ?_|refine zW.zf rfl ?_|(refine zW.zd rfl (fun ht => ?_) (fun ht => ?_)<;>try (exfalso;omega))|((first|refine zW.zr ?_|refine zW.zk ?_|refine zW.ze ?_|refine zW.zq ?_|((first|apply zg0|apply zg1|apply zg2|apply zg3|apply zg4|apply zg5|apply zg6|apply zg7)<;>intro ht));all_goals try simp (disch:=first|omega|(simp only [lens,z7,z6,List.length_reverse,zh];first|done|omega)) only [go_sem,reduceEqDiff,Nat.reduceBEq,reduceAdd,reduceMul,reduceSub,reduceLeDiff,reduceToNat,reducePow, hg, hn]))
  exact DownV.same hw z3x
theorem zgp (O : Store) : ACallsTo TC 16 [.nilp] O (.int .i64 0) O := by
  refine ACallsTo.of_body q1iok (by simp) fun hw _ => ?_
  repeat' (first|refine zW.zs ?_|refine zW.zb ?_|refine zW.zc ?_|refine zW.zt rfl ?_|refine zW.zf rfl ?_|(refine zW.zd rfl (fun ht => ?_) (fun ht => ?_)<;>try (exfalso;omega))|((first|refine zW.zr ?_|refine zW.zk ?_|refine zW.ze ?_|refine zW.zq ?_|(apply callW.mk_pu; (first | exact (fun _ => z4y _))) | (apply callW.za; (first | exact (z4y _))) | ((first|apply zg0|apply zg1|apply zg2|apply zg3|apply zg4|apply zg5|apply zg6|apply zg7)<;>intro ht));all_goals try simp (disch:=first|omega|(simp only [lens,z7,z6,List.length_reverse,zh];first|done|omega)) only [go_sem,reduceEqDiff,Nat.reduceBEq,reduceAdd,reduceMul,reduceSub,reduceLeDiff,reduceToNat,reducePow]))
  exact DownV.same hw z6e
theorem zgq (O : Store) (r : Nat) (n : Int) (root : Hash) (rn : Int) (z v : AV) (hg : O[r]? = some (some [stC n root rn z v])) (hn : n ≠ 0) : ACallsTo TC 16 [.ptr r 0 0] O (.int .i64 rn) O := by
  have h0 := z8a O r n root rn z v hg hn
  refine ACallsTo.of_body q1iok (by simp) fun hw _ => ?_
  have d := slen hg
  repeat' (first|refine zW.zs ?_|refine zW.zb ?_|refine zW.zc ?_|refine zW.zt rfl ?_|refine zW.zf rfl ?_|(refine zW.zd rfl (fun ht => ?_) (fun ht => ?_)<;>try (exfalso;omega))|((first|refine zW.zr ?_|refine zW.zk ?_|refine zW.ze ?_|refine zW.zq ?_|(apply callW.mk_pu; (first | exact (fun _ => h0))) | (apply callW.za; (first | exact (h0))) | ((first|apply zg0|apply zg1|apply zg2|apply zg3|apply zg4|apply zg5|apply zg6|apply zg7)<;>intro ht));all_goals try simp (disch:=first|omega|(simp only [lens,z7,z6,List.length_reverse,zh];first|done|omega)) only [go_sem,reduceEqDiff,Nat.reduceBEq,reduceAdd,reduceMul,reduceSub,reduceLeDiff,reduceToNat,reducePow, hg]))
  exact DownV.same hw z6e
theorem zgn (O : Store) : ACallsTo TC 17 [.nilp] O (.bool false) O := by
  refine ACallsTo.of_body q1jok (by simp) fun hw _ => ?_
  repeat' (first|refine zW.zs ?_|refine zW.zb ?_|refine zW.zc ?_|refine zW.zt rfl ?_|refine zW.zf rfl ?_|(refine zW.zd rfl (fun ht => ?_) (fun ht => ?_)<;>try (exfalso;omega))|((first|refine zW.zr ?_|refine zW.zk ?_|refine zW.ze ?_|refine zW.zq ?_|(apply callW.mk_pu; (first | exact (fun _ => z4y _))) | (apply callW.za; (first | exact (z4y _))) | ((first|apply zg0|apply zg1|apply zg2|apply zg3|apply zg4|apply zg5|apply zg6|apply zg7)<;>intro ht));all_goals try simp (disch:=first|omega|(simp only [lens,z7,z6,List.length_reverse,zh];first|done|omega)) only [go_sem,reduceEqDiff,Nat.reduceBEq,reduceAdd,reduceMul,reduceSub,reduceLeDiff,reduceToNat,reducePow]))
  exact DownV.same hw z3x
theorem zgo (O : Store) (r : Nat) (n : Int) (root : Hash) (rn : Int) (z v : AV) (hg : O[r]? = some (some [stC n root rn z v])) (hn : n ≠ 0) : ACallsTo TC 17 [.ptr r 0 0] O (.bool (decide (rn = n))) O := by
  have h0 := z8a O r n root rn z v hg hn
  refine ACallsTo.of_body q1jok (by simp) fun hw _ => ?_
  have d := slen hg
  by_cases h : rn = n
  · subst h
    rw [decide_eq_true rfl]
    repeat' (first|refine zW.zs ?_|refine zW.zb ?_|refine zW.zc ?_|refine zW.zt rfl ?_|refine zW.zf rfl ?_|(refine zW.zd rfl (fun ht => ?_) (fun ht => ?_)<;>try (exfalso;omega))|((first|refine zW.zr ?_|refine zW.zk ?_|refine zW.ze ?_|refine zW.zq ?_|(apply callW.mk_pu; (first | exact (fun _ => h0))) | (apply callW.za; (first | exact (h0))) | ((first|apply zg0|apply zg1|apply zg2|apply zg3|apply zg4|apply zg5|apply zg6|apply zg7)<;>intro ht));all_goals try simp (disch:=first|omega|(simp only [lens,z7,z6,List.length_reverse,zh];first|done|omega)) only [go_sem,reduceEqDiff,Nat.reduceBEq,reduceAdd,reduceMul,reduceSub,reduceLeDiff,reduceToNat,reducePow, hg]))
    exact DownV.same hw z3x
  · rw [decide_eq_false h]
    repeat' (first|refine zW.zs ?_|refine zW.zb ?_|refine zW.zc ?_|refine zW.zt rfl ?_|refine zW.zf rfl ?_|(refine zW.zd rfl (fun ht => ?_) (fun ht => ?_)<;>try (exfalso;omega))|((first|refine zW.zr ?_|refine zW.zk ?_|refine zW.ze ?_|refine zW.zq ?_|(apply callW.mk_pu; (first | exact (fun _ => h0))) | (apply callW.za; (first | exact (h0))) | ((first|apply zg0|apply zg1|apply zg2|apply zg3|apply zg4|apply zg5|apply zg6|apply zg7)<;>intro ht));all_goals try simp (disch:=first|omega|(simp only [lens,z7,z6,List.length_reverse,zh];first|done|omega)) only [go_sem,reduceEqDiff,Nat.reduceBEq,reduceAdd,reduceMul,reduceSub,reduceLeDiff,reduceToNat,reducePow, hg, h]))
    exact DownV.same hw z3x
end Am
end Go.Proofs.YtncenefkbpelbaaDoor
end
section
/- Stage: contracts: leaves, own, Range, Entries. -/
namespace Go.Proofs.YtncenefkbpelbaaDoor
namespace Am
def lfH (s : List UInt8) : Hash := shaH (0 :: s)
attribute [local irreducible] ACallsTo ACallsP
theorem zh1 (O : Store) (s : List UInt8) (h : s.length < 100000000) : ACallsTo TC 44 [.str s] O (.agg (hc (lfH s))) O := by
  have hS := fun O => zo5 O (0 :: s) (by simp; omega)
  refine ACallsTo.of_body q1uok (by simp) fun hw _ => ?_
  unfold lfH
  repeat' (first|refine zW.zs ?_|refine zW.zb ?_|refine zW.zc ?_|refine zW.zt rfl ?_|refine zW.zf rfl ?_|(refine zW.zd rfl (fun ht => ?_) (fun ht => ?_)<;>try (exfalso;omega))|((first|refine zW.zr ?_|refine zW.zk ?_|refine zW.ze ?_|refine zW.zq ?_|(apply callW.mk_pu; (first | exact (fun _ => hS _))) | (apply callW.za; (first | exact (hS _))) | ((first|apply zg0|apply zg1|apply zg2|apply zg3|apply zg4|apply zg5|apply zg6|apply zg7)<;>intro ht));all_goals try simp (disch:=first|omega|(simp only [lens,z7,z6,List.length_reverse,zh];first|done|omega)) only [go_sem,reduceEqDiff,Nat.reduceBEq,reduceAdd,reduceMul,reduceSub,reduceLeDiff,reduceToNat,reducePow]))
  exact DownV.pure hw (zbz _)
theorem zfk (O : Store) (s : List UInt8) (h : s.length < 100000000) : ACallsTo TC 65 [.str s] O (.agg (hc (lfH s))) O := by
  have hS := fun O => znl O (0 :: s) (by simp; omega)
  refine ACallsTo.of_body q1vok (by simp) fun hw _ => ?_
  unfold lfH
  repeat' (first|refine zW.zs ?_|refine zW.zb ?_|refine zW.zc ?_|refine zW.zt rfl ?_|refine zW.zf rfl ?_|(refine zW.zd rfl (fun ht => ?_) (fun ht => ?_)<;>try (exfalso;omega))|((first|refine zW.zr ?_|refine zW.zk ?_|refine zW.ze ?_|refine zW.zq ?_|(apply callW.mk_pu; (first | exact (fun _ => hS _))) | (apply callW.za; (first | exact (hS _))) | ((first|apply zg0|apply zg1|apply zg2|apply zg3|apply zg4|apply zg5|apply zg6|apply zg7)<;>intro ht));all_goals try simp (disch:=first|omega|(simp only [lens,z7,z6,List.length_reverse,zh];first|done|omega)) only [go_sem,reduceEqDiff,Nat.reduceBEq,reduceAdd,reduceMul,reduceSub,reduceLeDiff,reduceToNat,reducePow]))
  exact DownV.pure hw (zbz _)
set_option maxHeartbeats 4000000 in
theorem zf9 (O : Store) (n : Int) (l : List Hash) (x : AV) (hx : RdSl O 32 (hr l) x) (hl : l.length < 1000000) : ACallsTo TC 59 [.agg [.int .i64 n, x]] O (.agg [.int .i64 n, zz 32 (hr l)]) O := by
  have xc := hx.cells
  unfold cellsOf at xc
  refine ACallsTo.of_body q1sok (by simp) fun hw _ => ?_
  rcases hx with (⟨rfl, hnil⟩ | ⟨ex, rfl⟩) | ⟨r, off, lim, o, rfl, hg, h1, h2⟩
  · rw [hnil]
    repeat' (first|refine zW.zs ?_|refine zW.zb ?_|refine zW.zc ?_|refine zW.zt rfl ?_|refine zW.zf rfl ?_|(refine zW.zd rfl (fun ht => ?_) (fun ht => ?_)<;>try (exfalso;omega))|((first|refine zW.zr ?_|refine zW.zk ?_|refine zW.ze ?_|refine zW.zq ?_|((first|apply zg0|apply zg1|apply zg2|apply zg3|apply zg4|apply zg5|apply zg6|apply zg7)<;>intro ht));all_goals try simp (disch:=first|omega|(simp only [lens,z7,z6,List.length_reverse,zh];first|done|omega)) only [go_sem,reduceEqDiff,Nat.reduceBEq,reduceAdd,reduceMul,reduceSub,reduceLeDiff,reduceToNat,reducePow, xc]))
    exact DownV.pure hw (by simp [zz, RL, RLs])
  · by_cases h0 : l.length = 0
    · obtain rfl := List.eq_nil_of_length_eq_zero h0
      repeat' (first|refine zW.zs ?_|refine zW.zb ?_|refine zW.zc ?_|refine zW.zt rfl ?_|refine zW.zf rfl ?_|(refine zW.zd rfl (fun ht => ?_) (fun ht => ?_)<;>try (exfalso;omega))|((first|refine zW.zr ?_|refine zW.zk ?_|refine zW.ze ?_|refine zW.zq ?_|((first|apply zg0|apply zg1|apply zg2|apply zg3|apply zg4|apply zg5|apply zg6|apply zg7)<;>intro ht));all_goals try simp (disch:=first|omega|(simp only [lens,z7,z6,List.length_reverse,zh];first|done|omega)) only [go_sem,reduceEqDiff,Nat.reduceBEq,reduceAdd,reduceMul,reduceSub,reduceLeDiff,reduceToNat,reducePow, xc, z9g]))
      exact DownV.pure hw (by simp [zz, hr, RL, RLs])
    · have hne : hr l ≠ [] := fun e => h0 (by rw [hr_nil_iff.1 e]; rfl)
      repeat' (first|refine zW.zs ?_|refine zW.zb ?_|refine zW.zc ?_|refine zW.zt rfl ?_|refine zW.zf rfl ?_|(refine zW.zd rfl (fun ht => ?_) (fun ht => ?_)<;>try (exfalso;omega))|((first|refine zW.zr ?_|refine zW.zk ?_|refine zW.ze ?_|refine zW.zq ?_|((first|apply zg0|apply zg1|apply zg2|apply zg3|apply zg4|apply zg5|apply zg6|apply zg7)<;>intro ht));all_goals try simp (disch:=first|omega|(simp only [lens,z7,z6,List.length_reverse,zh];first|done|omega)) only [go_sem,reduceEqDiff,Nat.reduceBEq,reduceAdd,reduceMul,reduceSub,reduceLeDiff,reduceToNat,reducePow, xc, h0]))
      refine DownV.all hw (drA (drsc (FrzD.same (by simp [RL])) (drs1 ?_)))
      unfold zz
      rw [if_neg hne, show l.length = (hr l).length from (z6 l).symm]
      exact FrzD.sl (o := hr l) (off := 0) (by omega) (by simp) (by omega) (by simp) (z3f l)
  · have dg := slen hg
    rw [z6] at h1 h2
    by_cases h0 : l.length = 0
    · obtain rfl := List.eq_nil_of_length_eq_zero h0
      repeat' (first|refine zW.zs ?_|refine zW.zb ?_|refine zW.zc ?_|refine zW.zt rfl ?_|refine zW.zf rfl ?_|(refine zW.zd rfl (fun ht => ?_) (fun ht => ?_)<;>try (exfalso;omega))|((first|refine zW.zr ?_|refine zW.zk ?_|refine zW.ze ?_|refine zW.zq ?_|((first|apply zg0|apply zg1|apply zg2|apply zg3|apply zg4|apply zg5|apply zg6|apply zg7)<;>intro ht));all_goals try simp (disch:=first|omega|(simp only [lens,z7,z6,List.length_reverse,zh];first|done|omega)) only [go_sem,reduceEqDiff,Nat.reduceBEq,reduceAdd,reduceMul,reduceSub,reduceLeDiff,reduceToNat,reducePow, xc, hg, h1, h2, z9g]))
      exact DownV.pure hw (by simp [zz, hr, RL, RLs])
    · have hne : hr l ≠ [] := fun e => h0 (by rw [hr_nil_iff.1 e]; rfl)
      repeat' (first|refine zW.zs ?_|refine zW.zb ?_|refine zW.zc ?_|refine zW.zt rfl ?_|refine zW.zf rfl ?_|(refine zW.zd rfl (fun ht => ?_) (fun ht => ?_)<;>try (exfalso;omega))|((first|refine zW.zr ?_|refine zW.zk ?_|refine zW.ze ?_|refine zW.zq ?_|((first|apply zg0|apply zg1|apply zg2|apply zg3|apply zg4|apply zg5|apply zg6|apply zg7)<;>intro ht));all_goals try simp (disch:=first|omega|(simp only [lens,z7,z6,List.length_reverse,zh];first|done|omega)) only [go_sem,reduceEqDiff,Nat.reduceBEq,reduceAdd,reduceMul,reduceSub,reduceLeDiff,reduceToNat,reducePow, xc, hg, h1, h2, h0]))
      refine DownV.all hw (drA (drsc (FrzD.same (by simp [RL])) (drs1 ?_)))
      unfold zz
      rw [if_neg hne, show l.length = (hr l).length from (z6 l).symm]
      exact FrzD.sl (o := hr l) (off := 0) (by omega) (by simp) (by omega) (by simp) (z3f l)
end Am
end Go.Proofs.YtncenefkbpelbaaDoor
end
section
/- Stage: contracts: Range, Entries, New. -/
namespace Go.Proofs.YtncenefkbpelbaaDoor
namespace Am
theorem rl_rgV {k : Nat} {n : Int} {l : List Hash} : RL k (.agg [.int .i64 n, zz 32 (hr l)]) := by
  simp only [RL, RLs]; exact ⟨trivial, zc0 (z3f l), trivial⟩
theorem z87 {k : Nat} : ∀ (L : List (List UInt8)), RLss k (strs L)
  | [] => by simp [strs, RLss]
  | s :: L => by have := z87 (k := k) L; simp only [strs] at this; simp [strs, RLss, RLs, RL, this]
attribute [local irreducible] ACallsTo ACallsP
theorem zgr (O : Store) : ACallsTo TC 19 [.nilp] O (.agg [.int .i64 0, .nilsl]) O := by
  refine ACallsTo.of_body q1lok (by simp) fun hw _ => ?_
  repeat' (first|refine zW.zs ?_|refine zW.zb ?_|refine zW.zc ?_|refine zW.zt rfl ?_|refine zW.zf rfl ?_|(refine zW.zd rfl (fun ht => ?_) (fun ht => ?_)<;>try (exfalso;omega))|((first|refine zW.zr ?_|refine zW.zk ?_|refine zW.ze ?_|refine zW.zq ?_|(apply callW.mk_pu; (first | exact (fun _ => z4y _))) | (apply callW.za; (first | exact (z4y _))) | ((first|apply zg0|apply zg1|apply zg2|apply zg3|apply zg4|apply zg5|apply zg6|apply zg7)<;>intro ht));all_goals try simp (disch:=first|omega|(simp only [lens,z7,z6,List.length_reverse,zh,z8];first|done|omega)) only [go_sem,reduceEqDiff,Nat.reduceBEq,reduceAdd,reduceMul,reduceSub,reduceLeDiff,reduceToNat,reducePow]))
  exact DownV.pure hw (by simp [RL, RLs])
theorem zgs (O : Store) (r : Nat) (n : Int) (root : Hash) (rn : Int) (z v : AV) (l : List Hash) (hg : O[r]? = some (some [stC n root rn z v])) (hn : n ≠ 0) (hz : RdSl O 32 (hr l) z) (hl : l.length < 1000000) :
    ACallsTo TC 19 [.ptr r 0 0] O (.agg [.int .i64 rn, zz 32 (hr l)]) O := by
  have d := slen hg
  have h0 := fun y => z8a (O ++ y) r n root rn z v (by rw [gapp d]; exact hg) hn
  have zc := hz.cells
  unfold cellsOf at zc
  have hO := fun y => zf9 (O ++ y) rn l z hz.app hl
  have sc := zgi (sz := 32) (es := hr l)
  unfold cellsOf at sc
  refine ACallsTo.of_body q1lok (by simp) fun hw _ => ?_
  have hv := rl_rgV (k := O.length) (n := rn) (l := l)
  generalize zz 32 (hr l) = w at *
  repeat' (first|refine zW.zs ?_|refine zW.zb ?_|refine zW.zc ?_|refine zW.zt rfl ?_|refine zW.zf rfl ?_|(refine zW.zd rfl (fun ht => ?_) (fun ht => ?_)<;>try (exfalso;omega))|((first|refine zW.zr ?_|refine zW.zk ?_|refine zW.ze ?_|refine zW.zq ?_|(apply callW.mk_pu; (first | exact (fun _ => h0 _) | exact (fun _ => hO _))) | (apply callW.za; (first | exact (h0 _) | exact (hO _))) | ((first|apply zg0|apply zg1|apply zg2|apply zg3|apply zg4|apply zg5|apply zg6|apply zg7)<;>intro ht));all_goals try simp (disch:=first|omega|(simp only [lens,z7,z6,List.length_reverse,zh,z8];first|done|omega)) only [go_sem,reduceEqDiff,Nat.reduceBEq,reduceAdd,reduceMul,reduceSub,reduceLeDiff,reduceToNat,reducePow, hg, zc, sc]))
  exact DownV.pure hw hv
theorem zgl (O : Store) : ACallsTo TC 18 [.nilp] O .nilsl O := by
  refine ACallsTo.of_body q1kok (by simp) fun hw _ => ?_
  repeat' (first|refine zW.zs ?_|refine zW.zb ?_|refine zW.zc ?_|refine zW.zt rfl ?_|refine zW.zf rfl ?_|(refine zW.zd rfl (fun ht => ?_) (fun ht => ?_)<;>try (exfalso;omega))|((first|refine zW.zr ?_|refine zW.zk ?_|refine zW.ze ?_|refine zW.zq ?_|(apply callW.mk_pu; (first | exact (fun _ => z4y _))) | (apply callW.za; (first | exact (z4y _))) | ((first|apply zg0|apply zg1|apply zg2|apply zg3|apply zg4|apply zg5|apply zg6|apply zg7)<;>intro ht));all_goals try simp (disch:=first|omega|(simp only [lens,z7,z6,List.length_reverse,zh,z8];first|done|omega)) only [go_sem,reduceEqDiff,Nat.reduceBEq,reduceAdd,reduceMul,reduceSub,reduceLeDiff,reduceToNat,reducePow]))
  exact DownV.same hw (by simp [RL])
set_option maxHeartbeats 4000000 in
theorem zgm (O : Store) (r : Nat) (n : Int) (root : Hash) (rn : Int) (z v : AV) (L : List (List UInt8)) (hg : O[r]? = some (some [stC n root rn z v])) (hn : n ≠ 0) (hv : RdSl O 1 (strs L) v) (hl : L.length < 1000000) :
    ACallsTo TC 18 [.ptr r 0 0] O (zz 1 (strs L)) O := by
  have d := slen hg
  have h0 := z8a O r n root rn z v hg hn
  refine ACallsTo.of_body q1kok (by simp) fun hw _ => ?_
  have e0 : RL O.length AV.nilsl := by simp [RL]
  rcases hv with (⟨rfl, hnil⟩ | ⟨ex, rfl⟩) | ⟨r2, off, lim, o, rfl, hg2, h1, h2⟩
  · rw [hnil]
    repeat' (first|refine zW.zs ?_|refine zW.zb ?_|refine zW.zc ?_|refine zW.zt rfl ?_|refine zW.zf rfl ?_|(refine zW.zd rfl (fun ht => ?_) (fun ht => ?_)<;>try (exfalso;omega))|((first|refine zW.zr ?_|refine zW.zk ?_|refine zW.ze ?_|refine zW.zq ?_|(apply callW.mk_pu; (first | exact (fun _ => h0))) | (apply callW.za; (first | exact (h0))) | ((first|apply zg0|apply zg1|apply zg2|apply zg3|apply zg4|apply zg5|apply zg6|apply zg7)<;>intro ht));all_goals try simp (disch:=first|omega|(simp only [lens,z7,z6,List.length_reverse,zh,z8];first|done|omega)) only [go_sem,reduceEqDiff,Nat.reduceBEq,reduceAdd,reduceMul,reduceSub,reduceLeDiff,reduceToNat,reducePow, hg]))
    first | exact DownV.pure hw e0 | exact DownV.same hw e0
  · by_cases hz : L.length = 0
    · obtain rfl := List.eq_nil_of_length_eq_zero hz
      repeat' (first|refine zW.zs ?_|refine zW.zb ?_|refine zW.zc ?_|refine zW.zt rfl ?_|refine zW.zf rfl ?_|(refine zW.zd rfl (fun ht => ?_) (fun ht => ?_)<;>try (exfalso;omega))|((first|refine zW.zr ?_|refine zW.zk ?_|refine zW.ze ?_|refine zW.zq ?_|(apply callW.mk_pu; (first | exact (fun _ => h0))) | (apply callW.za; (first | exact (h0))) | ((first|apply zg0|apply zg1|apply zg2|apply zg3|apply zg4|apply zg5|apply zg6|apply zg7)<;>intro ht));all_goals try simp (disch:=first|omega|(simp only [lens,z7,z6,List.length_reverse,zh,z8];first|done|omega)) only [go_sem,reduceEqDiff,Nat.reduceBEq,reduceAdd,reduceMul,reduceSub,reduceLeDiff,reduceToNat,reducePow, hg, show strs [] = [] from rfl]))
      first | exact DownV.pure hw e0 | exact DownV.same hw e0
    · have hne : strs L ≠ [] := fun e => hz (by rw [<- z8, e]; rfl)
      repeat' (first|refine zW.zs ?_|refine zW.zb ?_|refine zW.zc ?_|refine zW.zt rfl ?_|refine zW.zf rfl ?_|(refine zW.zd rfl (fun ht => ?_) (fun ht => ?_)<;>try (exfalso;omega))|((first|refine zW.zr ?_|refine zW.zk ?_|refine zW.ze ?_|refine zW.zq ?_|(apply callW.mk_pu; (first | exact (fun _ => h0))) | (apply callW.za; (first | exact (h0))) | ((first|apply zg0|apply zg1|apply zg2|apply zg3|apply zg4|apply zg5|apply zg6|apply zg7)<;>intro ht));all_goals try simp (disch:=first|omega|(simp only [lens,z7,z6,List.length_reverse,zh,z8];first|done|omega)) only [go_sem,reduceEqDiff,Nat.reduceBEq,reduceAdd,reduceMul,reduceSub,reduceLeDiff,reduceToNat,reducePow, hg, hz]))
      refine DownV.all hw ?_
      unfold zz
      rw [if_neg hne]
      try rw [show L.length = (strs L).length from (z8 L).symm]
      exact FrzD.sl (o := strs L) (off := 0) (by omega) (by simp) (by omega) (by simp) (z87 L)
  · have dg := slen hg2
    rw [z8] at h1 h2
    by_cases hz : L.length = 0
    · obtain rfl := List.eq_nil_of_length_eq_zero hz
      repeat' (first|refine zW.zs ?_|refine zW.zb ?_|refine zW.zc ?_|refine zW.zt rfl ?_|refine zW.zf rfl ?_|(refine zW.zd rfl (fun ht => ?_) (fun ht => ?_)<;>try (exfalso;omega))|((first|refine zW.zr ?_|refine zW.zk ?_|refine zW.ze ?_|refine zW.zq ?_|(apply callW.mk_pu; (first | exact (fun _ => h0))) | (apply callW.za; (first | exact (h0))) | ((first|apply zg0|apply zg1|apply zg2|apply zg3|apply zg4|apply zg5|apply zg6|apply zg7)<;>intro ht));all_goals try simp (disch:=first|omega|(simp only [lens,z7,z6,List.length_reverse,zh,z8];first|done|omega)) only [go_sem,reduceEqDiff,Nat.reduceBEq,reduceAdd,reduceMul,reduceSub,reduceLeDiff,reduceToNat,reducePow, hg, hg2, h1, h2, z8, show strs [] = [] from rfl]))
      first | exact DownV.pure hw e0 | exact DownV.same hw e0
    · have hne : strs L ≠ [] := fun e => hz (by rw [<- z8, e]; rfl)
      repeat' (first|refine zW.zs ?_|refine zW.zb ?_|refine zW.zc ?_|refine zW.zt rfl ?_|refine zW.zf rfl ?_|(refine zW.zd rfl (fun ht => ?_) (fun ht => ?_)<;>try (exfalso;omega))|((first|refine zW.zr ?_|refine zW.zk ?_|refine zW.ze ?_|refine zW.zq ?_|(apply callW.mk_pu; (first | exact (fun _ => h0))) | (apply callW.za; (first | exact (h0))) | ((first|apply zg0|apply zg1|apply zg2|apply zg3|apply zg4|apply zg5|apply zg6|apply zg7)<;>intro ht));all_goals try simp (disch:=first|omega|(simp only [lens,z7,z6,List.length_reverse,zh,z8];first|done|omega)) only [go_sem,reduceEqDiff,Nat.reduceBEq,reduceAdd,reduceMul,reduceSub,reduceLeDiff,reduceToNat,reducePow, hg, hg2, h1, h2, hz, z8]))
      refine DownV.all hw ?_
      unfold zz
      rw [if_neg hne]
      try rw [show L.length = (strs L).length from (z8 L).symm]
      exact FrzD.sl (o := strs L) (off := 0) (by omega) (by simp) (by omega) (by simp) (z87 L)
end Am
end Go.Proofs.YtncenefkbpelbaaDoor
end
section
/- Stage: contracts: New. -/
namespace Go.Proofs.YtncenefkbpelbaaDoor
namespace Am
def newB (rn hn : Int) (len : Nat) : Bool := decide (z1u rn len = true /\ hn <= 4096 /\ rn < hn)
theorem d34 (h : Hash) (a b c : AV) : (hc h ++ [a, b, c]).drop 34 = [c] := by
  have : (hc h ++ [a, b, c]).drop 34 = ((hc h ++ [a, b, c]).drop 32).drop 2 := by rw [List.drop_drop]
  rw [this, z9e]; rfl
attribute [local irreducible] ACallsTo ACallsP
set_option maxHeartbeats 4000000 in
theorem zck (O : Store) (rn hn : Int) (root : Hash) (l : List Hash) (x : AV) (hx : RdSl O 32 (hr l) x) (hb : newB rn hn l.length = false) :
    ACallsTo TC 13 [.agg [.int .i64 rn, x], .agg (.int .i64 hn :: hc root)] O (.tup [.nilp, .int .i64 2]) O := by
  have xc := hx.cells
  unfold cellsOf at xc
  have hV := fun y => z9o (O ++ y) rn l x hx.app
  have hb' := of_decide_eq_false hb
  refine ACallsTo.of_body q1fok (by simp) fun hw _ => ?_
  cases hv : z1u rn l.length with
  | false =>
    rw [hv] at hV
    repeat' (first|refine zW.zs ?_|refine zW.zb ?_|refine zW.zc ?_|refine zW.zt rfl ?_|refine zW.zf rfl ?_|(refine zW.zd rfl (fun ht => ?_) (fun ht => ?_)<;>try (exfalso;omega))|((first|refine zW.zr ?_|refine zW.zk ?_|refine zW.ze ?_|refine zW.zq ?_|(apply callW.mk_pu; (first | exact (fun _ => hV _))) | (apply callW.za; (first | exact (hV _))) | ((first|apply zg0|apply zg1|apply zg2|apply zg3|apply zg4|apply zg5|apply zg6|apply zg7)<;>intro ht));all_goals try simp (disch:=first|omega|(simp only [lens,z7,z6,List.length_reverse,zh,z8];first|done|omega)) only [go_sem,reduceEqDiff,Nat.reduceBEq,reduceAdd,reduceMul,reduceSub,reduceLeDiff,reduceToNat,reducePow, xc]))
    all_goals exact DownV.pure hw (by simp [RL, RLs])
  | true =>
    rw [hv] at hV
    by_cases h2 : 4096 < hn
    · repeat' (first|refine zW.zs ?_|refine zW.zb ?_|refine zW.zc ?_|refine zW.zt rfl ?_|refine zW.zf rfl ?_|(refine zW.zd rfl (fun ht => ?_) (fun ht => ?_)<;>try (exfalso;omega))|((first|refine zW.zr ?_|refine zW.zk ?_|refine zW.ze ?_|refine zW.zq ?_|(apply callW.mk_pu; (first | exact (fun _ => hV _))) | (apply callW.za; (first | exact (hV _))) | ((first|apply zg0|apply zg1|apply zg2|apply zg3|apply zg4|apply zg5|apply zg6|apply zg7)<;>intro ht));all_goals try simp (disch:=first|omega|(simp only [lens,z7,z6,List.length_reverse,zh,z8];first|done|omega)) only [go_sem,reduceEqDiff,Nat.reduceBEq,reduceAdd,reduceMul,reduceSub,reduceLeDiff,reduceToNat,reducePow, xc, h2]))
      all_goals exact DownV.pure hw (by simp [RL, RLs])
    · have h3 : hn <= rn := by
        by_cases h : rn < hn
        · exact absurd ⟨hv, by omega, h⟩ hb'
        · omega
      repeat' (first|refine zW.zs ?_|refine zW.zb ?_|refine zW.zc ?_|refine zW.zt rfl ?_|refine zW.zf rfl ?_|(refine zW.zd rfl (fun ht => ?_) (fun ht => ?_)<;>try (exfalso;omega))|((first|refine zW.zr ?_|refine zW.zk ?_|refine zW.ze ?_|refine zW.zq ?_|(apply callW.mk_pu; (first | exact (fun _ => hV _))) | (apply callW.za; (first | exact (hV _))) | ((first|apply zg0|apply zg1|apply zg2|apply zg3|apply zg4|apply zg5|apply zg6|apply zg7)<;>intro ht));all_goals try simp (disch:=first|omega|(simp only [lens,z7,z6,List.length_reverse,zh,z8];first|done|omega)) only [go_sem,reduceEqDiff,Nat.reduceBEq,reduceAdd,reduceMul,reduceSub,reduceLeDiff,reduceToNat,reducePow, xc, h2, h3]))
      all_goals exact DownV.pure hw (by simp [RL, RLs])
set_option maxHeartbeats 4000000 in
theorem zcl (O : Store) (rn hn : Int) (root : Hash) (l : List Hash) (x : AV) (hx : RdSl O 32 (hr l) x) (hb : newB rn hn l.length = true) (hl : l.length < 1000000) :
    ACallsTo TC 13 [.agg [.int .i64 rn, x], .agg (.int .i64 hn :: hc root)] O (.tup [.ptr (O.length + 2) 0 0, .int .i64 0]) (O ++ [some [[.int .i64 rn, x]], some [.int .i64 hn :: hc root], some [stC hn root rn (zz 32 (hr l)) .nilsl]]) := by
  have xc := hx.cells
  unfold cellsOf at xc
  obtain ⟨hv, h1, h2⟩ := of_decide_eq_true hb
  have hV := fun y => z9o (O ++ y) rn l x hx.app
  rw [hv] at hV
  have hO := fun y => zf9 (O ++ y) rn l x hx.app hl
  have sc := zgi (sz := 32) (es := hr l)
  unfold cellsOf at sc
  generalize zz 32 (hr l) = w at *
  have h3 : ¬ hn <= rn := by omega
  have h4 : ¬ hn > 4096 := by omega
  refine ACallsTo.of_body_keep q1fok (by simp) ?_
  repeat' (first|refine zW.zs ?_|refine zW.zb ?_|refine zW.zc ?_|refine zW.zt rfl ?_|refine zW.zf rfl ?_|(refine zW.zd rfl (fun ht => ?_) (fun ht => ?_)<;>try (exfalso;omega))|((first|refine zW.zr ?_|refine zW.zk ?_|refine zW.ze ?_|refine zW.zq ?_|(apply callW.mk_pu; (first | exact (fun _ => hV _) | exact (fun _ => hO _))) | (apply callW.za; (first | exact (hV _) | exact (hO _))) | ((first|apply zg0|apply zg1|apply zg2|apply zg3|apply zg4|apply zg5|apply zg6|apply zg7)<;>intro ht));all_goals try simp (disch:=first|omega|(simp only [lens,z7,z6,List.length_reverse,zh,z8];first|done|omega)) only [go_sem,reduceEqDiff,Nat.reduceBEq,reduceAdd,reduceMul,reduceSub,reduceLeDiff,reduceToNat,reducePow, xc, sc, h3, h4, z5k]))
  rw [d34]; rfl
end Am
end Go.Proofs.YtncenefkbpelbaaDoor
end
section
/- Stage: contracts: the document's New. -/
namespace Go.Proofs.YtncenefkbpelbaaDoor
namespace Am
attribute [local irreducible] ACallsTo ACallsP
set_option maxHeartbeats 4000000 in
theorem zfl (O : Store) (rn hn : Int) (root : Hash) (l : List Hash) (x : AV) (hx : RdSl O 32 (hr l) x) (hb : newB rn hn l.length = false) :
    ACallsTo TC 14 [.agg [.int .i64 rn, x], .agg (.int .i64 hn :: hc root)] O (.tup [.nilp, .int .i64 2]) O := by
  have xc := hx.cells
  unfold cellsOf at xc
  have hV := fun y => z9r (O ++ y) rn l x hx.app
  have hb' := of_decide_eq_false hb
  refine ACallsTo.of_body q1gok (by simp) fun hw _ => ?_
  cases hv : z1u rn l.length with
  | false =>
    rw [hv] at hV
    repeat' (first|refine zW.zs ?_|refine zW.zb ?_|refine zW.zc ?_|refine zW.zt rfl ?_|refine zW.zf rfl ?_|(refine zW.zd rfl (fun ht => ?_) (fun ht => ?_)<;>try (exfalso;omega))|((first|refine zW.zr ?_|refine zW.zk ?_|refine zW.ze ?_|refine zW.zq ?_|(apply callW.mk_pu; (first | exact (fun _ => hV _))) | (apply callW.za; (first | exact (hV _))) | ((first|apply zg0|apply zg1|apply zg2|apply zg3|apply zg4|apply zg5|apply zg6|apply zg7)<;>intro ht));all_goals try simp (disch:=first|omega|(simp only [lens,z7,z6,List.length_reverse,zh,z8];first|done|omega)) only [go_sem,reduceEqDiff,Nat.reduceBEq,reduceAdd,reduceMul,reduceSub,reduceLeDiff,reduceToNat,reducePow, xc]))
    all_goals exact DownV.pure hw (by simp [RL, RLs])
  | true =>
    rw [hv] at hV
    by_cases h2 : 4096 < hn
    · repeat' (first|refine zW.zs ?_|refine zW.zb ?_|refine zW.zc ?_|refine zW.zt rfl ?_|refine zW.zf rfl ?_|(refine zW.zd rfl (fun ht => ?_) (fun ht => ?_)<;>try (exfalso;omega))|((first|refine zW.zr ?_|refine zW.zk ?_|refine zW.ze ?_|refine zW.zq ?_|(apply callW.mk_pu; (first | exact (fun _ => hV _))) | (apply callW.za; (first | exact (hV _))) | ((first|apply zg0|apply zg1|apply zg2|apply zg3|apply zg4|apply zg5|apply zg6|apply zg7)<;>intro ht));all_goals try simp (disch:=first|omega|(simp only [lens,z7,z6,List.length_reverse,zh,z8];first|done|omega)) only [go_sem,reduceEqDiff,Nat.reduceBEq,reduceAdd,reduceMul,reduceSub,reduceLeDiff,reduceToNat,reducePow, xc, h2]))
      all_goals exact DownV.pure hw (by simp [RL, RLs])
    · have h3 : hn <= rn := by
        by_cases h : rn < hn
        · exact absurd ⟨hv, by omega, h⟩ hb'
        · omega
      repeat' (first|refine zW.zs ?_|refine zW.zb ?_|refine zW.zc ?_|refine zW.zt rfl ?_|refine zW.zf rfl ?_|(refine zW.zd rfl (fun ht => ?_) (fun ht => ?_)<;>try (exfalso;omega))|((first|refine zW.zr ?_|refine zW.zk ?_|refine zW.ze ?_|refine zW.zq ?_|(apply callW.mk_pu; (first | exact (fun _ => hV _))) | (apply callW.za; (first | exact (hV _))) | ((first|apply zg0|apply zg1|apply zg2|apply zg3|apply zg4|apply zg5|apply zg6|apply zg7)<;>intro ht));all_goals try simp (disch:=first|omega|(simp only [lens,z7,z6,List.length_reverse,zh,z8];first|done|omega)) only [go_sem,reduceEqDiff,Nat.reduceBEq,reduceAdd,reduceMul,reduceSub,reduceLeDiff,reduceToNat,reducePow, xc, h2, h3]))
      all_goals exact DownV.pure hw (by simp [RL, RLs])
set_option maxHeartbeats 4000000 in
theorem zfm (O : Store) (rn hn : Int) (root : Hash) (l : List Hash) (x : AV) (hx : RdSl O 32 (hr l) x) (hb : newB rn hn l.length = true) (hl : l.length < 1000000) :
    ACallsTo TC 14 [.agg [.int .i64 rn, x], .agg (.int .i64 hn :: hc root)] O (.tup [.ptr (O.length + 2) 0 0, .int .i64 0]) (O ++ [some [[.int .i64 rn, x]], some [.int .i64 hn :: hc root], some [stC hn root rn x .nilsl]]) := by
  have xc := hx.cells
  unfold cellsOf at xc
  obtain ⟨hv, h1, h2⟩ := of_decide_eq_true hb
  have hV := fun y => z9r (O ++ y) rn l x hx.app
  rw [hv] at hV
  have h3 : ¬ hn <= rn := by omega
  have h4 : ¬ hn > 4096 := by omega
  refine ACallsTo.of_body_keep q1gok (by simp) ?_
  repeat' (first|refine zW.zs ?_|refine zW.zb ?_|refine zW.zc ?_|refine zW.zt rfl ?_|refine zW.zf rfl ?_|(refine zW.zd rfl (fun ht => ?_) (fun ht => ?_)<;>try (exfalso;omega))|((first|refine zW.zr ?_|refine zW.zk ?_|refine zW.ze ?_|refine zW.zq ?_|(apply callW.mk_pu; (first | exact (fun _ => hV _))) | (apply callW.za; (first | exact (hV _))) | ((first|apply zg0|apply zg1|apply zg2|apply zg3|apply zg4|apply zg5|apply zg6|apply zg7)<;>intro ht));all_goals try simp (disch:=first|omega|(simp only [lens,z7,z6,List.length_reverse,zh,z8];first|done|omega)) only [go_sem,reduceEqDiff,Nat.reduceBEq,reduceAdd,reduceMul,reduceSub,reduceLeDiff,reduceToNat,reducePow, xc, h3, h4, z5k]))
  rw [d34]; rfl
end Am
end Go.Proofs.YtncenefkbpelbaaDoor
end
