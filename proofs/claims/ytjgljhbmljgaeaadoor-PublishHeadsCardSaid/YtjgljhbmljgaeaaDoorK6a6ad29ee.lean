import Derived.Test.YtjgljhbmljgaeaaDoorK5c6c69c8d
import Derived.Test.YtjgljhbmljgaeaaDoorK3ade1e851
set_option linter.unusedSimpArgs false
set_option linter.unusedVariables false
open Nat (reduceEqDiff reduceAdd reduceMul reduceSub reduceLeDiff)
open Int (reduceToNat reducePow)
section
/- Publishers: the chapter's publisher. -/
namespace Go.Proofs.YtjgljhbmljgaeaaDoor
namespace Am
theorem puV_0 (seed : List UInt8) : puV seed [] [] = .tup [.agg sgZ, .int .i64 83] /\ puH seed [] [] = [] := by
  have e : puE [] [] = 83 := by simp [puE, pubN]
  exact ⟨by unfold puV; rw [e, if_neg (by omega)], by unfold puH; rw [e, if_neg (by omega)]⟩
theorem puV_1 (seed : List UInt8) (s : List UInt8) : puV seed [s] [] = .tup [.agg (hdrC (mkH seed 0 [s])), .int .i64 0] /\ puH seed [s] [] = [mkH seed 0 [s]] := by
  have e : puE [s] [] = 0 := by simp [puE, pubN]
  exact ⟨by unfold puV; rw [e, if_pos rfl]; rfl, by unfold puH; rw [e, if_pos rfl]; rfl⟩
theorem puV_2 (seed : List UInt8) (s : List UInt8) : puV seed [s] [mkH seed 0 [s]] = .tup [.agg sgZ, .int .i64 83] /\ puH seed [s] [mkH seed 0 [s]] = [mkH seed 0 [s]] := by
  have e : puE [s] [mkH seed 0 [s]] = 83 := by simp [puE, pubN, mkH]
  exact ⟨by unfold puV; rw [e, if_neg (by omega)], by unfold puH; rw [e, if_neg (by omega)]⟩
theorem PubOk.one (seed : List UInt8) (s : List UInt8) (M : List (List UInt8)) : PubOk seed (s :: M) [mkH seed 0 [s]] := by
  refine ⟨by simp, fun i h hi => ?_, fun i h h' hi hi' => by simp at hi'⟩
  match i, hi with
  | 0, hi =>
    simp only [List.getElem?_cons_zero, Option.some.injEq] at hi
    exact ⟨1, by rw [<- hi]; simp, by omega, by simp⟩
  | i + 1, hi => simp at hi
theorem PubOk.none1 (seed : List UInt8) (L : List (List UInt8)) : PubOk seed L [] := ⟨by simp, by simp, by simp⟩
attribute [local irreducible] ACallsTo ACallsP
theorem zgj (Y : Store) (seed : List UInt8) (i : Nat) (M : List (List UInt8)) (hi : i < 8) (hM : M.length <= 4096) : ACallsTo TC 22 [.agg (hc (z19 (keyL seed))), .agg (hdrC (mkH seed i M))] Y (.int .i64 0) Y := by
  have h := ziv Y (z19 (keyL seed)) (mkH seed i M).n (mkH seed i M).i (mkH seed i M).r (mkH seed i M).s (mkH seed i M).p _ (.of (z5t _ _))
  rw [zmz seed i M hi hM] at h
  exact h
theorem apE_s {s : List UInt8} (h : s.length <= 200) : apE s = 0 := by unfold apE; rw [if_neg (by omega)]
theorem apL_s {L : List (List UInt8)} {s : List UInt8} (h : s.length <= 200) : apL L s = L ++ [s] := by unfold apL; rw [if_neg (by omega)]
theorem zfo (h : Hdr) : (hdrC h)[0]? = some (.int .i64 h.n) := rfl
theorem zfp (h : Hdr) : ((hdrC h).drop 1).take 32 = hc h.r := zqr _ _ _ _ _
theorem zfn (h : Hdr) : (hdrC h).take 36 = hdrC h := List.take_of_length_le (by rw [zx]; omega)
set_option maxHeartbeats 16000000 in
theorem zr6 : ACallsTo TC 12 [] [] (.bool true) [] := by
  have hNew := fun Y => zh4 Y [115, 101, 101, 100] (by simp)
  have P0 := zh3 [] [115, 101, 101, 100]
  refine ACallsTo.of_body q1cok (by simp) fun hw _ => ?_
  repeat' (first|refine zW.zs ?_|refine zW.zb ?_|refine zW.zc ?_|refine zW.zt rfl ?_|refine zW.zf rfl ?_|(refine zW.zd rfl (fun ht => ?_) (fun ht => ?_)<;>try (exfalso;omega))|((first|refine zW.zr ?_|refine zW.zk ?_|refine zW.ze ?_|refine zW.zq ?_|(apply callW.mk_pu; (first | exact (fun _ => hNew _))) | (apply callW.za; (first | exact (hNew _))) | ((first|apply zg0|apply zg1|apply zg2|apply zg3|apply zg4|apply zg5|apply zg6|apply zg7)<;>intro ht));all_goals try simp (disch:=first|omega|(simp only [lens,z7,z6,List.length_reverse,List.length_map,List.length_take,List.length_drop,zg,zm,zl,zn,zx];first|done|omega)) only [go_sem,reduceEqDiff,Nat.reduceBEq,reduceAdd,reduceMul,reduceSub,reduceLeDiff,reduceToNat,reducePow]))
  simp only [List.nil_append, List.length_nil, Nat.zero_add] at P0 ⊢
  have hsl : ([115, 101, 101, 100] : List UInt8).length < 1000000 := by simp
  generalize ([115, 101, 101, 100] : List UInt8) = seed at *
  generalize [some [z1f true seed (keyL seed)], some [pbC (.ptr 0 0 0) .nilsl .nilsl 0 .nilsl .nilsl]] = Y1 at *
  refine callW.mkP (caps := []) (zaa Y1 1 seed [] [] _ P0 (.nil seed) (by simp) hsl) (PublishP.is P0) ?_
  rintro v Y2 ⟨rfl, own2, fr2, P2⟩
  rw [(puV_0 seed).2] at P2
  rw [(puV_0 seed).1]
  simp (disch:=first|omega|(simp only [lens,z7,z6,List.length_reverse,List.length_map,List.length_take,List.length_drop,zg,zm,zl,zn,zx];first|done|omega)) only [go_sem,reduceEqDiff,Nat.reduceBEq,reduceAdd,reduceMul,reduceSub,reduceLeDiff,reduceToNat,reducePow]
  repeat' (first|refine zW.zs ?_|refine zW.zb ?_|refine zW.zc ?_|refine zW.zt rfl ?_|refine zW.zf rfl ?_|(refine zW.zd rfl (fun ht => ?_) (fun ht => ?_)<;>try (exfalso;omega))|((first|refine zW.zr ?_|refine zW.zk ?_|refine zW.ze ?_|refine zW.zq ?_|((first|apply zg0|apply zg1|apply zg2|apply zg3|apply zg4|apply zg5|apply zg6|apply zg7)<;>intro ht));all_goals try simp (disch:=first|omega|(simp only [lens,z7,z6,List.length_reverse,List.length_map,List.length_take,List.length_drop,zg,zm,zl,zn,zx];first|done|omega)) only [go_sem,reduceEqDiff,Nat.reduceBEq,reduceAdd,reduceMul,reduceSub,reduceLeDiff,reduceToNat,reducePow]))
  have hza : (sgZ ++ List.drop sgZ.length ([] : List AV)) = sgZ := by simp
  generalize hX : (some [sgZ ++ List.drop sgZ.length _] : Option AObj) = x1
  have P2' := P2.ext (Y' := Y2 ++ [x1]) ⟨_, rfl⟩
  refine callW.mkP (caps := []) (zcl _ 1 seed [] [] own2 [97] P2' (by simp) (by simp)) (AppendP.is P2') ?_
  rintro v Y3 ⟨rfl, own3, fr3, P3⟩
  rw [apL_s (by simp), List.nil_append] at P3
  rw [apE_s (by simp)]
  simp (disch:=first|omega|(simp only [lens,z7,z6,List.length_reverse,List.length_map,List.length_take,List.length_drop,zg,zm,zl,zn,zx];first|done|omega)) only [go_sem,reduceEqDiff,Nat.reduceBEq,reduceAdd,reduceMul,reduceSub,reduceLeDiff,reduceToNat,reducePow]
  repeat' (first|refine zW.zs ?_|refine zW.zb ?_|refine zW.zc ?_|refine zW.zt rfl ?_|refine zW.zf rfl ?_|(refine zW.zd rfl (fun ht => ?_) (fun ht => ?_)<;>try (exfalso;omega))|((first|refine zW.zr ?_|refine zW.zk ?_|refine zW.ze ?_|refine zW.zq ?_|((first|apply zg0|apply zg1|apply zg2|apply zg3|apply zg4|apply zg5|apply zg6|apply zg7)<;>intro ht));all_goals try simp (disch:=first|omega|(simp only [lens,z7,z6,List.length_reverse,List.length_map,List.length_take,List.length_drop,zg,zm,zl,zn,zx];first|done|omega)) only [go_sem,reduceEqDiff,Nat.reduceBEq,reduceAdd,reduceMul,reduceSub,reduceLeDiff,reduceToNat,reducePow]))
  refine callW.mkP (caps := []) (zaa Y3 1 seed [[97]] [] own3 P3 (.none1 _ _) (by simp) hsl) (PublishP.is P3) ?_
  rintro v Y4 ⟨rfl, own4, fr4, P4⟩
  rw [(puV_1 seed [97]).2] at P4
  rw [(puV_1 seed [97]).1]
  have hm0 := zfo (mkH seed 0 [[97]])
  have hmr := zfp (mkH seed 0 [[97]])
  have hma := zfn (mkH seed 0 [[97]])
  have hml := zx (mkH seed 0 [[97]])
  have hmc := fun Y => zgj Y seed 0 [[97]] (by omega) (by simp)
  rw [show (mkH seed 0 [[97]]).n = 1 from rfl] at hm0
  rw [show (mkH seed 0 [[97]]).r = lfH [97] from rfl] at hmr
  have ok4 : PubOk seed [[97]] [mkH seed 0 [[97]]] := .one seed [97] []
  have ok6 : PubOk seed [[97], [98]] [mkH seed 0 [[97]]] := .one seed [97] [[98]]
  have pv := puV_2 seed [97]
  have hsx : ([mkH seed 0 [[97]]] : List Hdr)[[mkH seed 0 [[97]]].length - 1]? = some (mkH seed 0 [[97]]) := rfl
  have hmn : (mkH seed 0 [[97]]).n = (1 : Nat) := rfl
  generalize mkH seed 0 [[97]] = m at *
  simp (disch:=first|omega|(simp only [lens,z7,z6,List.length_reverse,List.length_map,List.length_take,List.length_drop,zg,zm,zl,zn,zx];first|done|omega)) only [go_sem,reduceEqDiff,Nat.reduceBEq,reduceAdd,reduceMul,reduceSub,reduceLeDiff,reduceToNat,reducePow, hml]
  repeat' (first|refine zW.zs ?_|refine zW.zb ?_|refine zW.zc ?_|refine zW.zt rfl ?_|refine zW.zf rfl ?_|(refine zW.zd rfl (fun ht => ?_) (fun ht => ?_)<;>try (exfalso;omega))|((first|refine zW.zr ?_|refine zW.zk ?_|refine zW.ze ?_|refine zW.zq ?_|((first|apply zg0|apply zg1|apply zg2|apply zg3|apply zg4|apply zg5|apply zg6|apply zg7)<;>intro ht));all_goals try simp (disch:=first|omega|(simp only [lens,z7,z6,List.length_reverse,List.length_map,List.length_take,List.length_drop,zg,zm,zl,zn,zx];first|done|omega)) only [go_sem,reduceEqDiff,Nat.reduceBEq,reduceAdd,reduceMul,reduceSub,reduceLeDiff,reduceToNat,reducePow, hml]))
  have P4' := P4.ext (Y' := Y4 ++ [some [hdrC m]]) ⟨_, rfl⟩
  refine callW.mkP (caps := []) (zaa _ 1 seed [[97]] [m] own4 P4' ok4 (by simp) hsl) (PublishP.is P4') ?_
  rintro v Y5 ⟨rfl, own5, fr5, P5⟩
  rw [pv.2] at P5
  rw [pv.1]
  have hs5 : Y5[Y4.length]? = some (some [hdrC m]) := fr5.get (by simp) fun h => by have := P4.lt h; omega
  have d5 := slen hs5
  simp (disch:=first|omega|(simp only [lens,z7,z6,List.length_reverse,List.length_map,List.length_take,List.length_drop,zg,zm,zl,zn,zx];first|done|omega)) only [go_sem,reduceEqDiff,Nat.reduceBEq,reduceAdd,reduceMul,reduceSub,reduceLeDiff,reduceToNat,reducePow, hml]
  repeat' (first|refine zW.zs ?_|refine zW.zb ?_|refine zW.zc ?_|refine zW.zt rfl ?_|refine zW.zf rfl ?_|(refine zW.zd rfl (fun ht => ?_) (fun ht => ?_)<;>try (exfalso;omega))|((first|refine zW.zr ?_|refine zW.zk ?_|refine zW.ze ?_|refine zW.zq ?_|((first|apply zg0|apply zg1|apply zg2|apply zg3|apply zg4|apply zg5|apply zg6|apply zg7)<;>intro ht));all_goals try simp (disch:=first|omega|(simp only [lens,z7,z6,List.length_reverse,List.length_map,List.length_take,List.length_drop,zg,zm,zl,zn,zx];first|done|omega)) only [go_sem,reduceEqDiff,Nat.reduceBEq,reduceAdd,reduceMul,reduceSub,reduceLeDiff,reduceToNat,reducePow, hml]))
  generalize hX2 : (some [sgZ ++ List.drop sgZ.length _] : Option AObj) = x2
  have P5' := P5.ext (Y' := Y5 ++ [x2]) ⟨_, rfl⟩
  refine callW.mkP (caps := []) (zcl _ 1 seed [[97]] [m] own5 [98] P5' (by simp) (by simp)) (AppendP.is P5') ?_
  rintro v Y6 ⟨rfl, own6, fr6, P6⟩
  rw [apL_s (by simp)] at P6
  rw [apE_s (by simp)]
  change PubIs Y6 1 seed [[97], [98]] [m] own6 at P6
  have hs6 : Y6[Y4.length]? = some (some [hdrC m]) := fr6.get (by rw [gapp d5]; exact hs5) fun h => by
    rcases fr5.new _ h with h | h
    · have := P4.lt h; omega
    · simp at h; omega
  have d6 := slen hs6
  have hSrc := P6.source ok6 (by simp) m 1 hsx hmn (by omega) (by simp)
  rw [show srcV [[97], [98]] m 1 = .agg [.vsl 1 [[.str [97]]] false, .vsl 32 (hr (lvs [[97]])) false, .vsl 36 [hdrC m] true, .nilsl] from rfl] at hSrc
  have hKey := fun y => (P6.ext (Y' := Y6 ++ y) ⟨_, rfl⟩).key
  have hLog := fun y => (P6.ext (Y' := Y6 ++ y) ⟨_, rfl⟩).log (by simp)
  have hHd := fun y => (P6.ext (Y' := Y6 ++ y) ⟨_, rfl⟩).heads ok6
  rw [show z10 1 (strs [[97], [98]]) = .vsl 1 [[.str [97]], [.str [98]]] false from rfl] at hLog
  rw [show z10 36 (hdrs [m]) = .vsl 36 [hdrC m] false from rfl] at hHd
  have hLf := fun Y => zdn Y [97] (by simp)
  simp (disch:=first|omega|(simp only [lens,z7,z6,List.length_reverse,List.length_map,List.length_take,List.length_drop,zg,zm,zl,zn,zx];first|done|omega)) only [go_sem,reduceEqDiff,Nat.reduceBEq,reduceAdd,reduceMul,reduceSub,reduceLeDiff,reduceToNat,reducePow]
  repeat' (first|refine zW.zs ?_|refine zW.zb ?_|refine zW.zc ?_|refine zW.zt rfl ?_|refine zW.zf rfl ?_|(refine zW.zd rfl (fun ht => ?_) (fun ht => ?_)<;>try (exfalso;omega))|((first|refine zW.zr ?_|refine zW.zk ?_|refine zW.ze ?_|refine zW.zq ?_|(apply callW.mk_pu; (first | exact (fun _ => hSrc) | exact (fun _ => hLf _) | exact (fun _ => hKey _) | exact (fun _ => hmc _) | exact (fun _ => hLog _) | exact (fun _ => hHd _))) | (apply callW.za; (first | exact (hSrc) | exact (hLf _) | exact (hKey _) | exact (hmc _) | exact (hLog _) | exact (hHd _))) | ((first|apply zg0|apply zg1|apply zg2|apply zg3|apply zg4|apply zg5|apply zg6|apply zg7)<;>intro ht));all_goals try simp (disch:=first|omega|(simp only [lens,z7,z6,List.length_reverse,List.length_map,List.length_take,List.length_drop,zg,zm,zl,zn,zx];first|done|omega)) only [go_sem,reduceEqDiff,Nat.reduceBEq,reduceAdd,reduceMul,reduceSub,reduceLeDiff,reduceToNat,reducePow, hs6, hm0, hmr, hma, hml]))
  exact DownV.pure (G := []) (news := _) hw (z13 _ rfl)
theorem zam (Y : Store) : ACallsTo TC 12 [] Y (.bool true) Y := ACallsTo.frame glok zr6 (by simp [RLs]) Y
end Am
end Go.Proofs.YtjgljhbmljgaeaaDoor
end
section
/- Publishers: the law PublishHeads. -/
namespace Go.Proofs.YtjgljhbmljgaeaaDoor
namespace Am
/-- An act: its kind, its text. -/
structure Act22 where
  k : Int
  s : List UInt8
def ac22 (a : Act22) : List AV := [.int .u8 a.k, .str a.s]
def Act22.Ok (a : Act22) : Prop := 0 <= a.k /\ a.k <= 255
def z63 (l : List Act22) (n : Int) : Bool := l.any (fun a => decide (300 < a.s.length)) || decide (n < l.length)
theorem zlk {l : List Act22} {n : Int} (h : z63 l n = false) : (l.length : Int) <= n /\ ∀ a ∈ l, a.s.length <= 300 := by
  unfold z63 at h
  simp only [Bool.or_eq_false_iff, decide_eq_false_iff_not, List.any_eq_false, decide_eq_true_eq] at h
  exact ⟨by omega, fun a ha => by have := h.1 a ha; omega⟩
theorem zeb {l : List Act22} {i : Nat} {a : Act22} (h : l[i]? = some a) : (l.map ac22)[i]? = some [.int .u8 a.k, .str a.s] := by rw [List.getElem?_map, h]; rfl
attribute [local irreducible] ACallsTo ACallsP
set_option maxHeartbeats 4000000 in
theorem ziu (Y : Store) (l : List Act22) (n : Int) (y : AV) (hy : SlV 2 (l.map ac22) y) (hl : l.length < 9223372036854775808) : ACallsTo TC 20 [y, .int .i64 n] Y (.bool (z63 l n)) Y := by
  have r1 := hy.len
  rw [List.length_map] at r1
  unfold z1j at r1
  refine ACallsTo.of_body q1jok (by simp) fun hw _ => ?_
  repeat' (first|refine zW.zs ?_|refine zW.zb ?_|refine zW.zc ?_|refine zW.zt rfl ?_|refine zW.zf rfl ?_|(refine zW.zd rfl (fun ht => ?_) (fun ht => ?_)<;>try (exfalso;omega))|((first|refine zW.zr ?_|refine zW.zk ?_|refine zW.ze ?_|refine zW.zq ?_|((first|apply zg0|apply zg1|apply zg2|apply zg3|apply zg4|apply zg5|apply zg6|apply zg7)<;>intro ht));all_goals try simp (disch:=first|omega|(simp only [lens,z7,z6,List.length_reverse,List.length_map,List.length_take,List.length_drop,zg,zm,zl,zn,zx];first|done|omega)) only [go_sem,reduceEqDiff,Nat.reduceBEq,reduceAdd,reduceMul,reduceSub,reduceLeDiff,reduceToNat,reducePow, r1]))
  refine zW.loop (fun m O Y' => ∃ i : Nat, m + i = l.length /\ Y' = Y /\ (l.take i).any (fun a => decide (300 < a.s.length)) = false /\ O 0 = y /\ O 1 = .int .i64 n /\ O 5 = .int .i64 i) l.length ?_ ?_
  · exact ⟨0, by omega, rfl, by simp, by simp (disch:=first|omega|(simp only [lens,z7,z6,List.length_reverse,List.length_map,List.length_take,List.length_drop,zg,zm,zl,zn,zx];first|done|omega)) only [go_sem,reduceEqDiff,Nat.reduceBEq,reduceAdd,reduceMul,reduceSub,reduceLeDiff,reduceToNat,reducePow], by simp (disch:=first|omega|(simp only [lens,z7,z6,List.length_reverse,List.length_map,List.length_take,List.length_drop,zg,zm,zl,zn,zx];first|done|omega)) only [go_sem,reduceEqDiff,Nat.reduceBEq,reduceAdd,reduceMul,reduceSub,reduceLeDiff,reduceToNat,reducePow], by simp (disch:=first|omega|(simp only [lens,z7,z6,List.length_reverse,List.length_map,List.length_take,List.length_drop,zg,zm,zl,zn,zx];first|done|omega)) only [go_sem,reduceEqDiff,Nat.reduceBEq,reduceAdd,reduceMul,reduceSub,reduceLeDiff,reduceToNat,reducePow]; rfl⟩
  · rintro m O Y' ⟨i, hm, rfl, ht, q0, q1, q5⟩
    by_cases hi : i < l.length
    · obtain ⟨ex, rfl⟩ := hy.vsl (by rw [List.length_map]; omega)
      obtain ⟨a, hal⟩ : ∃ a, l[i]? = some a := ⟨_, List.getElem?_eq_getElem hi⟩
      have ham : a ∈ l := List.mem_of_getElem? hal
      have hg := zeb hal
      by_cases h2 : 300 < a.s.length
      · have hb : z63 l n = true := by
          unfold z63
          rw [List.any_eq_true.2 ⟨a, ham, decide_eq_true h2⟩]; rfl
        rw [hb]
        have h2' : (a.s.length : Int) > 300 := by omega
        repeat' (first|refine zW.zs ?_|refine zW.zb ?_|refine zW.zc ?_|refine zW.zt rfl ?_|refine zW.zf rfl ?_|(refine zW.zd rfl (fun ht => ?_) (fun ht => ?_)<;>try (exfalso;omega))|((first|refine zW.zr ?_|refine zW.zk ?_|refine zW.ze ?_|refine zW.zq ?_|((first|apply zg0|apply zg1|apply zg2|apply zg3|apply zg4|apply zg5|apply zg6|apply zg7)<;>intro ht));all_goals try simp (disch:=first|omega|(simp only [lens,z7,z6,List.length_reverse,List.length_map,List.length_take,List.length_drop,zg,zm,zl,zn,zx];first|done|omega)) only [go_sem,reduceEqDiff,Nat.reduceBEq,reduceAdd,reduceMul,reduceSub,reduceLeDiff,reduceToNat,reducePow, q0, q1, q5, hg, r1, h2']))
        exact DownV.same hw z3g
      · have h2' : ¬ (a.s.length : Int) > 300 := by omega
        have ht2 : (l.take (i + 1)).any (fun a => decide (300 < a.s.length)) = false := by
          rw [List.take_add_one, hal, List.any_append, ht]
          simp [h2]
          try omega
        repeat' (first|refine zW.zs ?_|refine zW.zb ?_|refine zW.zc ?_|refine zW.zt rfl ?_|refine zW.zf rfl ?_|(refine zW.zd rfl (fun ht => ?_) (fun ht => ?_)<;>try (exfalso;omega))|((first|refine zW.zr ?_|refine zW.zk ?_|refine zW.ze ?_|refine zW.zq ?_|((first|apply zg0|apply zg1|apply zg2|apply zg3|apply zg4|apply zg5|apply zg6|apply zg7)<;>intro ht));all_goals try simp (disch:=first|omega|(simp only [lens,z7,z6,List.length_reverse,List.length_map,List.length_take,List.length_drop,zg,zm,zl,zn,zx];first|done|omega)) only [go_sem,reduceEqDiff,Nat.reduceBEq,reduceAdd,reduceMul,reduceSub,reduceLeDiff,reduceToNat,reducePow, q0, q1, q5, hg, r1, h2']))
        exact ⟨m - 1, by omega, i + 1, by omega, ht2, by simp⟩
    · obtain rfl : i = l.length := by omega
      rw [List.take_of_length_le (Nat.le_refl _)] at ht
      unfold z63
      rw [ht, Bool.false_or]
      by_cases h6 : n < l.length
      · rw [decide_eq_true h6]
        have h6' : (l.length : Int) > n := by omega
        repeat' (first|refine zW.zs ?_|refine zW.zb ?_|refine zW.zc ?_|refine zW.zt rfl ?_|refine zW.zf rfl ?_|(refine zW.zd rfl (fun ht => ?_) (fun ht => ?_)<;>try (exfalso;omega))|((first|refine zW.zr ?_|refine zW.zk ?_|refine zW.ze ?_|refine zW.zq ?_|((first|apply zg0|apply zg1|apply zg2|apply zg3|apply zg4|apply zg5|apply zg6|apply zg7)<;>intro ht));all_goals try simp (disch:=first|omega|(simp only [lens,z7,z6,List.length_reverse,List.length_map,List.length_take,List.length_drop,zg,zm,zl,zn,zx];first|done|omega)) only [go_sem,reduceEqDiff,Nat.reduceBEq,reduceAdd,reduceMul,reduceSub,reduceLeDiff,reduceToNat,reducePow, q0, q1, q5, r1, h6']))
        exact DownV.same hw z3g
      · rw [decide_eq_false h6]
        have h6' : ¬ (l.length : Int) > n := by omega
        repeat' (first|refine zW.zs ?_|refine zW.zb ?_|refine zW.zc ?_|refine zW.zt rfl ?_|refine zW.zf rfl ?_|(refine zW.zd rfl (fun ht => ?_) (fun ht => ?_)<;>try (exfalso;omega))|((first|refine zW.zr ?_|refine zW.zk ?_|refine zW.ze ?_|refine zW.zq ?_|((first|apply zg0|apply zg1|apply zg2|apply zg3|apply zg4|apply zg5|apply zg6|apply zg7)<;>intro ht));all_goals try simp (disch:=first|omega|(simp only [lens,z7,z6,List.length_reverse,List.length_map,List.length_take,List.length_drop,zg,zm,zl,zn,zx];first|done|omega)) only [go_sem,reduceEqDiff,Nat.reduceBEq,reduceAdd,reduceMul,reduceSub,reduceLeDiff,reduceToNat,reducePow, q0, q1, q5, r1, h6']))
        exact DownV.same hw z3g
/-- The size of the head ahead of the j-th. -/
def z9h (H : List Hdr) (j : Nat) : Int := match j with
  | 0 => 0
  | j + 1 => ((H[j]?).map Hdr.n).getD 0
theorem PubOk.rise {seed : List UInt8} {L : List (List UInt8)} {H : List Hdr} (h : PubOk seed L H) {j : Nat} {x : Hdr} (hx : H[j]? = some x) : z9h H j < x.n := by
  cases j with
  | zero =>
    obtain ⟨n, rfl, h0, hn⟩ := h.at' 0 x hx
    show (0 : Int) < ((L.take n).length : Int)
    rw [List.length_take]; omega
  | succ j =>
    have hj : j < H.length := by have := (List.getElem?_eq_some_iff.1 hx).1; omega
    show ((H[j]?).map Hdr.n).getD 0 < x.n
    rw [List.getElem?_eq_getElem hj]
    exact h.up j _ x (List.getElem?_eq_getElem hj) hx
theorem zjc {H : List Hdr} {j : Nat} {x : Hdr} (hx : H[j]? = some x) : z9h H (j + 1) = x.n := by
  show ((H[j]?).map Hdr.n).getD 0 = x.n
  rw [hx]; rfl
set_option maxHeartbeats 16000000 in
theorem ziy (hw : Wf ([] : Store).length []) (seed : List UInt8) (L : List (List UInt8)) (H : List Hdr) (own : List Nat) (Y : Store) (hP : PubIs Y 1 seed L H own) (hok : PubOk seed L H) (hL : L.length <= 60) (hLs : ∀ s ∈ L, s.length <= 300) (O : Env) (q3 : O 3 = .ptr 1 0 0) (q4 : O 4 = .int .i64 H.length) :
    zW TC 132 0 zcn (endQ 0 [.t 2] (.bool true) []) O Y := by
  have hHd := hP.heads hok
  have hLg := hP.log (by omega)
  have h8 := hok.len
  have e36 := z5t 36 (hdrs H)
  have e1 := z5t 1 (strs L)
  have r36 := e36.len
  have r1 := e1.len
  rw [zn] at r36
  rw [zm] at r1
  have hz36 : z10 36 (hdrs H) = .nilsl \/ z10 36 (hdrs H) = .vsl 36 (hdrs H) false := by unfold z10; split <;> simp
  generalize z10 36 (hdrs H) = hv at *
  generalize z10 1 (strs L) = lv at *
  unfold z1j at r36 r1
  repeat' (first|refine zW.zs ?_|refine zW.zb ?_|refine zW.zc ?_|refine zW.zt rfl ?_|refine zW.zf rfl ?_|(refine zW.zd rfl (fun ht => ?_) (fun ht => ?_)<;>try (exfalso;omega))|((first|refine zW.zr ?_|refine zW.zk ?_|refine zW.ze ?_|refine zW.zq ?_|(apply callW.mk_pu; (first | exact (fun _ => hHd) | exact (fun _ => hLg))) | (apply callW.za; (first | exact (hHd) | exact (hLg))) | ((first|apply zg0|apply zg1|apply zg2|apply zg3|apply zg4|apply zg5|apply zg6|apply zg7)<;>intro ht));all_goals try simp (disch:=first|omega|(simp only [lens,z7,z6,List.length_reverse,List.length_map,List.length_take,List.length_drop,zg,zm,zl,zn,zx];first|done|omega)) only [go_sem,reduceEqDiff,Nat.reduceBEq,reduceAdd,reduceMul,reduceSub,reduceLeDiff,reduceToNat,reducePow, q3, q4, r36, r1]))
  refine zW.loop (fun m O Y' => ∃ j : Nat, m + j = H.length /\ Ext Y Y' /\ O 3 = .ptr 1 0 0 /\ O 9 = hv /\ O 10 = lv /\ O 11 = .int .i64 (z9h H j) /\ O 12 = .int .i64 j) H.length ?_ ?_
  · exact ⟨0, by omega, .refl _, by simp (disch:=first|omega|(simp only [lens,z7,z6,List.length_reverse,List.length_map,List.length_take,List.length_drop,zg,zm,zl,zn,zx];first|done|omega)) only [go_sem,reduceEqDiff,Nat.reduceBEq,reduceAdd,reduceMul,reduceSub,reduceLeDiff,reduceToNat,reducePow, q3], by simp (disch:=first|omega|(simp only [lens,z7,z6,List.length_reverse,List.length_map,List.length_take,List.length_drop,zg,zm,zl,zn,zx];first|done|omega)) only [go_sem,reduceEqDiff,Nat.reduceBEq,reduceAdd,reduceMul,reduceSub,reduceLeDiff,reduceToNat,reducePow], by simp (disch:=first|omega|(simp only [lens,z7,z6,List.length_reverse,List.length_map,List.length_take,List.length_drop,zg,zm,zl,zn,zx];first|done|omega)) only [go_sem,reduceEqDiff,Nat.reduceBEq,reduceAdd,reduceMul,reduceSub,reduceLeDiff,reduceToNat,reducePow], by simp (disch:=first|omega|(simp only [lens,z7,z6,List.length_reverse,List.length_map,List.length_take,List.length_drop,zg,zm,zl,zn,zx];first|done|omega)) only [go_sem,reduceEqDiff,Nat.reduceBEq,reduceAdd,reduceMul,reduceSub,reduceLeDiff,reduceToNat,reducePow]; rfl, by simp (disch:=first|omega|(simp only [lens,z7,z6,List.length_reverse,List.length_map,List.length_take,List.length_drop,zg,zm,zl,zn,zx];first|done|omega)) only [go_sem,reduceEqDiff,Nat.reduceBEq,reduceAdd,reduceMul,reduceSub,reduceLeDiff,reduceToNat,reducePow]; rfl⟩
  · rintro m O Y' ⟨j, hm, he, q3, q9, q10, q11, q12⟩
    have he' := he.le
    by_cases hj : j < H.length
    · obtain ⟨x, hx⟩ : ∃ x, H[j]? = some x := ⟨_, List.getElem?_eq_getElem hj⟩
      obtain ⟨n, hxm, hn0, hnL⟩ := hok.at' j x hx
      have hrise := hok.rise hx
      have hnext := zjc hx
      have hC := fun Y => zgj Y seed j (L.take n) (by omega) (by rw [List.length_take]; omega)
      rw [<- hxm] at hC
      have hxn : x.n = (n : Nat) := by rw [hxm]; show ((L.take n).length : Int) = n; rw [List.length_take]; omega
      have hxr : x.r = z19 (lvs (L.take n)) := by rw [hxm]; rfl
      have hgi : (hdrs H)[j]? = some (hdrC x) := by unfold hdrs; rw [List.getElem?_map, hx]; rfl
      have hm0 := zfo x
      have hmr := zfp x
      have hma := zfn x
      have hml := zx x
      have hdl := zn H
      rw [hxn] at hm0 hrise hnext
      rw [hxr] at hmr
      have hKey := (hP.ext he).key
      have hv0 : hv = .vsl 36 (hdrs H) false := by
        rcases hz36 with e | e
        · subst e; simp only [Option.some.injEq, AV.int.injEq, true_and] at r36; omega
        · exact e
      subst hv0
      obtain ⟨ex, rfl⟩ := e1.vsl (by rw [zm]; omega)
      generalize z9h H j = lastj at *
      have hle : ¬ (n : Int) <= lastj := by omega
      have hgt : ¬ (n : Int) > L.length := by omega
      clear hxm hxn hxr
      repeat' (first|refine zW.zs ?_|refine zW.zb ?_|refine zW.zc ?_|refine zW.zt rfl ?_|refine zW.zf rfl ?_|(refine zW.zd rfl (fun ht => ?_) (fun ht => ?_)<;>try (exfalso;omega))|((first|refine zW.zr ?_|refine zW.zk ?_|refine zW.ze ?_|refine zW.zq ?_|(apply callW.mk_pu; (first | exact (fun _ => hKey) | exact (fun _ => hC _))) | (apply callW.za; (first | exact (hKey) | exact (hC _))) | ((first|apply zg0|apply zg1|apply zg2|apply zg3|apply zg4|apply zg5|apply zg6|apply zg7)<;>intro ht));all_goals try simp (disch:=first|omega|(simp only [lens,z7,z6,List.length_reverse,List.length_map,List.length_take,List.length_drop,zg,zm,zl,zn,zx];first|done|omega)) only [go_sem,reduceEqDiff,Nat.reduceBEq,reduceAdd,reduceMul,reduceSub,reduceLeDiff,reduceToNat,reducePow, q3, q9, q10, q11, q12, r36, r1, hgi, hm0, hmr, hma, hml, hdl, hle, hgt]))
      refine zW.loop (fun m2 O Y2 => ∃ (k : Nat) (v : AV), m2 + k = n /\ OwnN 32 Y' Y2 v (hr (lvs (L.take k))) /\ O 3 = .ptr 1 0 0 /\ O 9 = .vsl 36 (hdrs H) false /\ O 10 = .vsl 1 (strs L) ex /\ O 12 = .int .i64 j /\ O 13 = .int .i64 n /\ O 14 = v /\ O 15 = .int .i64 k) n ?_ ?_
      · exact ⟨0, .nilsl, by omega, ⟨[], by simp, .inl ⟨by simp [lvs, hr], rfl⟩⟩, by simp (disch:=first|omega|(simp only [lens,z7,z6,List.length_reverse,List.length_map,List.length_take,List.length_drop,zg,zm,zl,zn,zx];first|done|omega)) only [go_sem,reduceEqDiff,Nat.reduceBEq,reduceAdd,reduceMul,reduceSub,reduceLeDiff,reduceToNat,reducePow, q3], by simp (disch:=first|omega|(simp only [lens,z7,z6,List.length_reverse,List.length_map,List.length_take,List.length_drop,zg,zm,zl,zn,zx];first|done|omega)) only [go_sem,reduceEqDiff,Nat.reduceBEq,reduceAdd,reduceMul,reduceSub,reduceLeDiff,reduceToNat,reducePow, q9], by simp (disch:=first|omega|(simp only [lens,z7,z6,List.length_reverse,List.length_map,List.length_take,List.length_drop,zg,zm,zl,zn,zx];first|done|omega)) only [go_sem,reduceEqDiff,Nat.reduceBEq,reduceAdd,reduceMul,reduceSub,reduceLeDiff,reduceToNat,reducePow, q10], by simp (disch:=first|omega|(simp only [lens,z7,z6,List.length_reverse,List.length_map,List.length_take,List.length_drop,zg,zm,zl,zn,zx];first|done|omega)) only [go_sem,reduceEqDiff,Nat.reduceBEq,reduceAdd,reduceMul,reduceSub,reduceLeDiff,reduceToNat,reducePow, q12], by simp (disch:=first|omega|(simp only [lens,z7,z6,List.length_reverse,List.length_map,List.length_take,List.length_drop,zg,zm,zl,zn,zx];first|done|omega)) only [go_sem,reduceEqDiff,Nat.reduceBEq,reduceAdd,reduceMul,reduceSub,reduceLeDiff,reduceToNat,reducePow], by simp (disch:=first|omega|(simp only [lens,z7,z6,List.length_reverse,List.length_map,List.length_take,List.length_drop,zg,zm,zl,zn,zx];first|done|omega)) only [go_sem,reduceEqDiff,Nat.reduceBEq,reduceAdd,reduceMul,reduceSub,reduceLeDiff,reduceToNat,reducePow], by simp (disch:=first|omega|(simp only [lens,z7,z6,List.length_reverse,List.length_map,List.length_take,List.length_drop,zg,zm,zl,zn,zx];first|done|omega)) only [go_sem,reduceEqDiff,Nat.reduceBEq,reduceAdd,reduceMul,reduceSub,reduceLeDiff,reduceToNat,reducePow]; rfl⟩
      · rintro m2 O Y2 ⟨k, v, hm2, hO, q3, q9, q10, q12, q13, q14, q15⟩
        by_cases hk : k < n
        · have hgk := zrk (show k < L.length by omega)
          rw [show L.getD k [] = stD L k from rfl] at hgk
          have hLf := fun Y => zdn Y (stD L k) (by have := hLs _ (zra (L := L) (i := k) (by omega)); omega)
          obtain ⟨v', Y3, ha, hO2⟩ := hO.app (ys := [hc (lfH (stD L k))]) (by simp) (by rw [z6, zl, List.length_take]; simp; omega)
          have hcat : hr (lvs (L.take k)) ++ [hc (lfH (stD L k))] = hr (lvs (L.take (k + 1))) := by rw [zrp (by omega)]; simp [lvs, hr]
          rw [hcat] at hO2
          generalize stD L k = s at *
          repeat' (first|refine zW.zs ?_|refine zW.zb ?_|refine zW.zc ?_|refine zW.zt rfl ?_|refine zW.zf rfl ?_|(refine zW.zd rfl (fun ht => ?_) (fun ht => ?_)<;>try (exfalso;omega))|((first|refine zW.zr ?_|refine zW.zk ?_|refine zW.ze ?_|refine zW.zq ?_|(apply callW.mk_pu; (first | exact (fun _ => hLf _))) | (apply callW.za; (first | exact (hLf _))) | ((first|apply zg0|apply zg1|apply zg2|apply zg3|apply zg4|apply zg5|apply zg6|apply zg7)<;>intro ht));all_goals try simp (disch:=first|omega|(simp only [lens,z7,z6,List.length_reverse,List.length_map,List.length_take,List.length_drop,zg,zm,zl,zn,zx];first|done|omega)) only [go_sem,reduceEqDiff,Nat.reduceBEq,reduceAdd,reduceMul,reduceSub,reduceLeDiff,reduceToNat,reducePow, q3, q9, q10, q12, q13, q14, q15, hgk, r1, ha]))
          exact ⟨m2 - 1, by omega, k + 1, v', by omega, hO2, by simp⟩
        · obtain rfl : k = n := by omega
          have hRt := z8u Y2 (lvs (L.take k)) v hO.rd (by rw [zl, List.length_take]; omega)
          obtain ⟨y, rfl⟩ := hO.ext
          generalize z19 (lvs (L.take k)) = R at *
          repeat' (first|refine zW.zs ?_|refine zW.zb ?_|refine zW.zc ?_|refine zW.zt rfl ?_|refine zW.zf rfl ?_|(refine zW.zd rfl (fun ht => ?_) (fun ht => ?_)<;>try (exfalso;omega))|((first|refine zW.zr ?_|refine zW.zk ?_|refine zW.ze ?_|refine zW.zq ?_|(apply callW.mk_pu; (first | exact (fun _ => hRt))) | (apply callW.za; (first | exact (hRt))) | ((first|apply zg0|apply zg1|apply zg2|apply zg3|apply zg4|apply zg5|apply zg6|apply zg7)<;>intro ht));all_goals try simp (disch:=first|omega|(simp only [lens,z7,z6,List.length_reverse,List.length_map,List.length_take,List.length_drop,zg,zm,zl,zn,zx];first|done|omega)) only [go_sem,reduceEqDiff,Nat.reduceBEq,reduceAdd,reduceMul,reduceSub,reduceLeDiff,reduceToNat,reducePow, q3, q9, q10, q12, q13, q14, q15, r36, r1, hgi, hm0, hmr, hma, hml, hdl]))
          exact ⟨m - 1, by omega, j + 1, by omega, he.trans ⟨_, rfl⟩, by rw [hnext], by simp⟩
    · obtain rfl : j = H.length := by omega
      repeat' (first|refine zW.zs ?_|refine zW.zb ?_|refine zW.zc ?_|refine zW.zt rfl ?_|refine zW.zf rfl ?_|(refine zW.zd rfl (fun ht => ?_) (fun ht => ?_)<;>try (exfalso;omega))|((first|refine zW.zr ?_|refine zW.zk ?_|refine zW.ze ?_|refine zW.zq ?_|(apply callW.mk_pu; (first | exact (fun _ => zam _))) | (apply callW.za; (first | exact (zam _))) | ((first|apply zg0|apply zg1|apply zg2|apply zg3|apply zg4|apply zg5|apply zg6|apply zg7)<;>intro ht));all_goals try simp (disch:=first|omega|(simp only [lens,z7,z6,List.length_reverse,List.length_map,List.length_take,List.length_drop,zg,zm,zl,zn,zx];first|done|omega)) only [go_sem,reduceEqDiff,Nat.reduceBEq,reduceAdd,reduceMul,reduceSub,reduceLeDiff,reduceToNat,reducePow, q3, q9, q10, q11, q12, r36, r1]))
      exact DownV.pure (G := []) (news := Y') hw (z13 _ rfl)
end Am
end Go.Proofs.YtjgljhbmljgaeaaDoor
end
section
/- Publishers: the law PublishHeads: its contract. -/
namespace Go.Proofs.YtjgljhbmljgaeaaDoor
namespace Am
theorem zje (L : List (List UInt8)) (s : List UInt8) : (apL L s).length <= L.length + 1 := by
  unfold apL; split
  · omega
  · simp
theorem apL_ok {seed : List UInt8} {L : List (List UInt8)} {H : List Hdr} (h : PubOk seed L H) (s : List UInt8) : PubOk seed (apL L s) H := by
  unfold apL; split
  · exact h
  · exact h.app [s]
theorem zjf {L : List (List UInt8)} {s x : List UInt8} (h : x ∈ apL L s) : x ∈ L \/ (x = s /\ ¬ 200 < s.length) := by
  unfold apL at h
  split at h
  · exact .inl h
  · rename_i h0
    rcases List.mem_append.1 h with h | h
    · exact .inl h
    · exact .inr ⟨by simpa using h, h0⟩
theorem zqt : sgZ.length = 36 := by simp [sgZ, z7]
attribute [local irreducible] ACallsTo ACallsP
attribute [local irreducible] zcn
set_option maxHeartbeats 16000000 in
theorem ziz (l : List Act22) (y : AV) (hy : SlV 2 (l.map ac22) y) (hok : ∀ a ∈ l, a.Ok) (hzl : l.length <= maxLen) : ACallsTo TC 5 [y] [] (.bool true) [] := by
  have r1 := hy.len
  rw [List.length_map] at r1
  unfold z1j at r1
  have hG := fun Y => ziu Y l 60 y hy (by unfold maxLen at hzl; omega)
  refine ACallsTo.of_body q1bok (by simp) fun hw _ => ?_
  cases hgreat : z63 l 60 with
  | true =>
    rw [hgreat] at hG
    repeat' (first|refine zW.zs ?_|refine zW.zb ?_|refine zW.zc ?_|refine zW.zt rfl ?_|refine zW.zf rfl ?_|(refine zW.zd rfl (fun ht => ?_) (fun ht => ?_)<;>try (exfalso;omega))|((first|refine zW.zr ?_|refine zW.zk ?_|refine zW.ze ?_|refine zW.zq ?_|(apply callW.mk_pu; (first | exact (fun _ => hG _) | exact (fun _ => zam _))) | (apply callW.za; (first | exact (hG _) | exact (zam _))) | ((first|apply zg0|apply zg1|apply zg2|apply zg3|apply zg4|apply zg5|apply zg6|apply zg7)<;>intro ht));all_goals try simp (disch:=first|omega|(simp only [lens,z7,z6,List.length_reverse,List.length_map,List.length_take,List.length_drop,zg,zm,zl,zn,zx];first|done|omega)) only [go_sem,reduceEqDiff,Nat.reduceBEq,reduceAdd,reduceMul,reduceSub,reduceLeDiff,reduceToNat,reducePow]))
    exact DownV.pure (G := []) hw (z13 _ rfl)
  | false =>
    rw [hgreat] at hG
    obtain ⟨hl60, hl300⟩ := zlk hgreat
    have hNew := fun Y => zh4 Y [120] (by simp)
    have P0 := zh3 [] [120]
    have hsl : ([120] : List UInt8).length < 1000000 := by simp
    repeat' (first|refine zW.zs ?_|refine zW.zb ?_|refine zW.zc ?_|refine zW.zt rfl ?_|refine zW.zf rfl ?_|(refine zW.zd rfl (fun ht => ?_) (fun ht => ?_)<;>try (exfalso;omega))|((first|refine zW.zr ?_|refine zW.zk ?_|refine zW.ze ?_|refine zW.zq ?_|(apply callW.mk_pu; (first | exact (fun _ => hG _) | exact (fun _ => hNew _))) | (apply callW.za; (first | exact (hG _) | exact (hNew _))) | ((first|apply zg0|apply zg1|apply zg2|apply zg3|apply zg4|apply zg5|apply zg6|apply zg7)<;>intro ht));all_goals try simp (disch:=first|omega|(simp only [lens,z7,z6,List.length_reverse,List.length_map,List.length_take,List.length_drop,zg,zm,zl,zn,zx];first|done|omega)) only [go_sem,reduceEqDiff,Nat.reduceBEq,reduceAdd,reduceMul,reduceSub,reduceLeDiff,reduceToNat,reducePow, r1]))
    simp only [List.nil_append, List.length_nil, Nat.zero_add] at P0 ⊢
    generalize ([120] : List UInt8) = seed at *
    generalize [some [z1f true seed (keyL seed)], some [pbC (.ptr 0 0 0) .nilsl .nilsl 0 .nilsl .nilsl]] = Y1 at *
    refine zW.loop (fun m O Y' => ∃ (i : Nat) (L : List (List UInt8)) (H : List Hdr) (own : List Nat), m + i = l.length /\ PubIs Y' 1 seed L H own /\ PubOk seed L H /\ L.length <= i /\ (∀ s ∈ L, s.length <= 300) /\ O 0 = y /\ O 3 = .ptr 1 0 0 /\ O 4 = .int .i64 H.length /\ O 5 = .int .i64 i) l.length ?_ ?_
    · exact ⟨0, [], [], _, by omega, P0, .nil _, by simp, by simp, by simp (disch:=first|omega|(simp only [lens,z7,z6,List.length_reverse,List.length_map,List.length_take,List.length_drop,zg,zm,zl,zn,zx];first|done|omega)) only [go_sem,reduceEqDiff,Nat.reduceBEq,reduceAdd,reduceMul,reduceSub,reduceLeDiff,reduceToNat,reducePow], by simp (disch:=first|omega|(simp only [lens,z7,z6,List.length_reverse,List.length_map,List.length_take,List.length_drop,zg,zm,zl,zn,zx];first|done|omega)) only [go_sem,reduceEqDiff,Nat.reduceBEq,reduceAdd,reduceMul,reduceSub,reduceLeDiff,reduceToNat,reducePow], by simp (disch:=first|omega|(simp only [lens,z7,z6,List.length_reverse,List.length_map,List.length_take,List.length_drop,zg,zm,zl,zn,zx];first|done|omega)) only [go_sem,reduceEqDiff,Nat.reduceBEq,reduceAdd,reduceMul,reduceSub,reduceLeDiff,reduceToNat,reducePow]; rfl, by simp (disch:=first|omega|(simp only [lens,z7,z6,List.length_reverse,List.length_map,List.length_take,List.length_drop,zg,zm,zl,zn,zx];first|done|omega)) only [go_sem,reduceEqDiff,Nat.reduceBEq,reduceAdd,reduceMul,reduceSub,reduceLeDiff,reduceToNat,reducePow]; rfl⟩
    · rintro m O Y' ⟨i, L, H, own, hm, hP, hk, hLi, hLs, q0, q3, q4, q5⟩
      by_cases hi : i < l.length
      · obtain ⟨ex, rfl⟩ := hy.vsl (by rw [List.length_map]; omega)
        obtain ⟨a, hal⟩ : ∃ a, l[i]? = some a := ⟨_, List.getElem?_eq_getElem hi⟩
        have ham : a ∈ l := List.mem_of_getElem? hal
        have hg := zeb hal
        obtain ⟨k0, k1⟩ := hok a ham
        have hs3 := hl300 a ham
        by_cases hk4 : a.k % 5 < 4
        · repeat' (first|refine zW.zs ?_|refine zW.zb ?_|refine zW.zc ?_|refine zW.zt rfl ?_|refine zW.zf rfl ?_|(refine zW.zd rfl (fun ht => ?_) (fun ht => ?_)<;>try (exfalso;omega))|((first|refine zW.zr ?_|refine zW.zk ?_|refine zW.ze ?_|refine zW.zq ?_|((first|apply zg0|apply zg1|apply zg2|apply zg3|apply zg4|apply zg5|apply zg6|apply zg7)<;>intro ht));all_goals try simp (disch:=first|omega|(simp only [lens,z7,z6,List.length_reverse,List.length_map,List.length_take,List.length_drop,zg,zm,zl,zn,zx];first|done|omega)) only [go_sem,reduceEqDiff,Nat.reduceBEq,reduceAdd,reduceMul,reduceSub,reduceLeDiff,reduceToNat,reducePow, q0, q3, q4, q5, r1, hg, hk4]))
          refine callW.mkP (caps := []) (zcl Y' 1 seed L H own a.s hP (by omega) (by omega)) (AppendP.is hP) ?_
          rintro v Y2 ⟨rfl, own2, fr, P2⟩
          have hL2 := zje L a.s
          have hok2 := apL_ok hk a.s
          have hLs2 : ∀ s ∈ apL L a.s, s.length <= 300 := fun s hs => by
            rcases zjf hs with h | ⟨rfl, _⟩
            · exact hLs s h
            · exact hs3
          generalize apL L a.s = L2 at *
          by_cases h2 : 200 < a.s.length
          · have e : apE a.s = 3 := by unfold apE; rw [if_pos h2]
            rw [e]
            have h2' : ¬ (a.s.length : Int) <= 200 := by omega
            simp (disch:=first|omega|(simp only [lens,z7,z6,List.length_reverse,List.length_map,List.length_take,List.length_drop,zg,zm,zl,zn,zx];first|done|omega)) only [go_sem,reduceEqDiff,Nat.reduceBEq,reduceAdd,reduceMul,reduceSub,reduceLeDiff,reduceToNat,reducePow, q0, q3, q4, q5, r1]
            repeat' (first|refine zW.zs ?_|refine zW.zb ?_|refine zW.zc ?_|refine zW.zt rfl ?_|refine zW.zf rfl ?_|(refine zW.zd rfl (fun ht => ?_) (fun ht => ?_)<;>try (exfalso;omega))|((first|refine zW.zr ?_|refine zW.zk ?_|refine zW.ze ?_|refine zW.zq ?_|((first|apply zg0|apply zg1|apply zg2|apply zg3|apply zg4|apply zg5|apply zg6|apply zg7)<;>intro ht));all_goals try simp (disch:=first|omega|(simp only [lens,z7,z6,List.length_reverse,List.length_map,List.length_take,List.length_drop,zg,zm,zl,zn,zx];first|done|omega)) only [go_sem,reduceEqDiff,Nat.reduceBEq,reduceAdd,reduceMul,reduceSub,reduceLeDiff,reduceToNat,reducePow, q0, q3, q4, q5, r1, hg, h2']))
            exact ⟨m - 1, by omega, i + 1, L2, H, own2, by omega, P2, hok2, by omega, hLs2, rfl, by simp⟩
          · have e : apE a.s = 0 := by unfold apE; rw [if_neg h2]
            rw [e]
            have h2' : (a.s.length : Int) <= 200 := by omega
            simp (disch:=first|omega|(simp only [lens,z7,z6,List.length_reverse,List.length_map,List.length_take,List.length_drop,zg,zm,zl,zn,zx];first|done|omega)) only [go_sem,reduceEqDiff,Nat.reduceBEq,reduceAdd,reduceMul,reduceSub,reduceLeDiff,reduceToNat,reducePow, q0, q3, q4, q5, r1]
            repeat' (first|refine zW.zs ?_|refine zW.zb ?_|refine zW.zc ?_|refine zW.zt rfl ?_|refine zW.zf rfl ?_|(refine zW.zd rfl (fun ht => ?_) (fun ht => ?_)<;>try (exfalso;omega))|((first|refine zW.zr ?_|refine zW.zk ?_|refine zW.ze ?_|refine zW.zq ?_|((first|apply zg0|apply zg1|apply zg2|apply zg3|apply zg4|apply zg5|apply zg6|apply zg7)<;>intro ht));all_goals try simp (disch:=first|omega|(simp only [lens,z7,z6,List.length_reverse,List.length_map,List.length_take,List.length_drop,zg,zm,zl,zn,zx];first|done|omega)) only [go_sem,reduceEqDiff,Nat.reduceBEq,reduceAdd,reduceMul,reduceSub,reduceLeDiff,reduceToNat,reducePow, q0, q3, q4, q5, r1, hg, h2']))
            exact ⟨m - 1, by omega, i + 1, L2, H, own2, by omega, P2, hok2, by omega, hLs2, rfl, by simp⟩
        · repeat' (first|refine zW.zs ?_|refine zW.zb ?_|refine zW.zc ?_|refine zW.zt rfl ?_|refine zW.zf rfl ?_|(refine zW.zd rfl (fun ht => ?_) (fun ht => ?_)<;>try (exfalso;omega))|((first|refine zW.zr ?_|refine zW.zk ?_|refine zW.ze ?_|refine zW.zq ?_|((first|apply zg0|apply zg1|apply zg2|apply zg3|apply zg4|apply zg5|apply zg6|apply zg7)<;>intro ht));all_goals try simp (disch:=first|omega|(simp only [lens,z7,z6,List.length_reverse,List.length_map,List.length_take,List.length_drop,zg,zm,zl,zn,zx];first|done|omega)) only [go_sem,reduceEqDiff,Nat.reduceBEq,reduceAdd,reduceMul,reduceSub,reduceLeDiff,reduceToNat,reducePow, q0, q3, q4, q5, r1, hg, hk4]))
          refine callW.mkP (caps := []) (zaa Y' 1 seed L H own hP hk (by omega) hsl) (PublishP.is hP) ?_
          rintro v Y2 ⟨rfl, own2, fr, P2⟩
          have hok2 := hk.pub
          have h8 := hk.len
          have hml := zx (mkH seed H.length L)
          have hzl := zqt
          have hcase : (puE L H = 0 /\ puH seed L H = H ++ [mkH seed H.length L] /\ puV seed L H = .tup [.agg (hdrC (mkH seed H.length L)), .int .i64 0]) \/ (puE L H = 85 /\ H.length = 8 /\ puH seed L H = H /\ puV seed L H = .tup [.agg sgZ, .int .i64 85]) \/ (puE L H = 83 /\ puH seed L H = H /\ puV seed L H = .tup [.agg sgZ, .int .i64 83]) := by
            unfold puH puV
            by_cases h1 : 8 <= H.length
            · have e : puE L H = 85 := by unfold puE; rw [if_pos h1]
              refine .inr (.inl ⟨e, by omega, ?_, ?_⟩) <;> rw [e, if_neg (by omega)]
            · by_cases h2 : (L.length : Int) = pubN H
              · have e : puE L H = 83 := by unfold puE; rw [if_neg h1, if_pos h2]
                refine .inr (.inr ⟨e, ?_, ?_⟩) <;> rw [e, if_neg (by omega)]
              · have e : puE L H = 0 := by unfold puE; rw [if_neg h1, if_neg h2]
                refine .inl ⟨e, ?_, ?_⟩ <;> rw [e, if_pos rfl]
          rcases hcase with ⟨_, eH, eV⟩ | ⟨_, e8, eH, eV⟩ | ⟨_, eH, eV⟩
          · rw [eV]
            rw [eH] at P2 hok2
            have hHl : (H ++ [mkH seed H.length L]).length = H.length + 1 := by simp
            generalize mkH seed H.length L = x at *
            generalize H ++ [x] = H2 at *
            simp (disch:=first|omega|(simp only [lens,z7,z6,List.length_reverse,List.length_map,List.length_take,List.length_drop,zg,zm,zl,zn,zx];first|done|omega)) only [go_sem,reduceEqDiff,Nat.reduceBEq,reduceAdd,reduceMul,reduceSub,reduceLeDiff,reduceToNat,reducePow, q0, q3, q4, q5, r1, hml]
            repeat' (first|refine zW.zs ?_|refine zW.zb ?_|refine zW.zc ?_|refine zW.zt rfl ?_|refine zW.zf rfl ?_|(refine zW.zd rfl (fun ht => ?_) (fun ht => ?_)<;>try (exfalso;omega))|((first|refine zW.zr ?_|refine zW.zk ?_|refine zW.ze ?_|refine zW.zq ?_|((first|apply zg0|apply zg1|apply zg2|apply zg3|apply zg4|apply zg5|apply zg6|apply zg7)<;>intro ht));all_goals try simp (disch:=first|omega|(simp only [lens,z7,z6,List.length_reverse,List.length_map,List.length_take,List.length_drop,zg,zm,zl,zn,zx];first|done|omega)) only [go_sem,reduceEqDiff,Nat.reduceBEq,reduceAdd,reduceMul,reduceSub,reduceLeDiff,reduceToNat,reducePow, q0, q3, q4, q5, r1, hml]))
            exact ⟨m - 1, by omega, i + 1, L, H2, own2, by omega, P2.ext ⟨_, rfl⟩, hok2, by omega, hLs, by rw [hHl]; simp, by simp⟩
          · rw [eV]
            rw [eH] at P2
            simp (disch:=first|omega|(simp only [lens,z7,z6,List.length_reverse,List.length_map,List.length_take,List.length_drop,zg,zm,zl,zn,zx];first|done|omega)) only [go_sem,reduceEqDiff,Nat.reduceBEq,reduceAdd,reduceMul,reduceSub,reduceLeDiff,reduceToNat,reducePow, q0, q3, q4, q5, r1, hzl, e8]
            repeat' (first|refine zW.zs ?_|refine zW.zb ?_|refine zW.zc ?_|refine zW.zt rfl ?_|refine zW.zf rfl ?_|(refine zW.zd rfl (fun ht => ?_) (fun ht => ?_)<;>try (exfalso;omega))|((first|refine zW.zr ?_|refine zW.zk ?_|refine zW.ze ?_|refine zW.zq ?_|((first|apply zg0|apply zg1|apply zg2|apply zg3|apply zg4|apply zg5|apply zg6|apply zg7)<;>intro ht));all_goals try simp (disch:=first|omega|(simp only [lens,z7,z6,List.length_reverse,List.length_map,List.length_take,List.length_drop,zg,zm,zl,zn,zx];first|done|omega)) only [go_sem,reduceEqDiff,Nat.reduceBEq,reduceAdd,reduceMul,reduceSub,reduceLeDiff,reduceToNat,reducePow, q0, q3, q4, q5, r1, hzl, e8]))
            exact ⟨m - 1, by omega, i + 1, L, H, own2, by omega, P2.ext ⟨_, rfl⟩, hk, by omega, hLs, by rw [e8], by simp⟩
          · rw [eV]
            rw [eH] at P2
            simp (disch:=first|omega|(simp only [lens,z7,z6,List.length_reverse,List.length_map,List.length_take,List.length_drop,zg,zm,zl,zn,zx];first|done|omega)) only [go_sem,reduceEqDiff,Nat.reduceBEq,reduceAdd,reduceMul,reduceSub,reduceLeDiff,reduceToNat,reducePow, q0, q3, q4, q5, r1, hzl]
            repeat' (first|refine zW.zs ?_|refine zW.zb ?_|refine zW.zc ?_|refine zW.zt rfl ?_|refine zW.zf rfl ?_|(refine zW.zd rfl (fun ht => ?_) (fun ht => ?_)<;>try (exfalso;omega))|((first|refine zW.zr ?_|refine zW.zk ?_|refine zW.ze ?_|refine zW.zq ?_|((first|apply zg0|apply zg1|apply zg2|apply zg3|apply zg4|apply zg5|apply zg6|apply zg7)<;>intro ht));all_goals try simp (disch:=first|omega|(simp only [lens,z7,z6,List.length_reverse,List.length_map,List.length_take,List.length_drop,zg,zm,zl,zn,zx];first|done|omega)) only [go_sem,reduceEqDiff,Nat.reduceBEq,reduceAdd,reduceMul,reduceSub,reduceLeDiff,reduceToNat,reducePow, q0, q3, q4, q5, r1, hzl]))
            exact ⟨m - 1, by omega, i + 1, L, H, own2, by omega, P2.ext ⟨_, rfl⟩, hk, by omega, hLs, rfl, by simp⟩
      · obtain rfl : i = l.length := by omega
        repeat' (first|refine zW.zs ?_|refine zW.zb ?_|refine zW.zc ?_|refine zW.zt rfl ?_|refine zW.zf rfl ?_|(refine zW.zd rfl (fun ht => ?_) (fun ht => ?_)<;>try (exfalso;omega))|((first|refine zW.zr ?_|refine zW.zk ?_|refine zW.ze ?_|refine zW.zq ?_|((first|apply zg0|apply zg1|apply zg2|apply zg3|apply zg4|apply zg5|apply zg6|apply zg7)<;>intro ht));all_goals try simp (disch:=first|omega|(simp only [lens,z7,z6,List.length_reverse,List.length_map,List.length_take,List.length_drop,zg,zm,zl,zn,zx];first|done|omega)) only [go_sem,reduceEqDiff,Nat.reduceBEq,reduceAdd,reduceMul,reduceSub,reduceLeDiff,reduceToNat,reducePow, q0, q3, q4, q5, r1]))
        refine ziy hw seed L H own Y' hP hk (by omega) hLs _ ?_ ?_
        · simp (disch:=first|omega|(simp only [lens,z7,z6,List.length_reverse,List.length_map,List.length_take,List.length_drop,zg,zm,zl,zn,zx];first|done|omega)) only [go_sem,reduceEqDiff,Nat.reduceBEq,reduceAdd,reduceMul,reduceSub,reduceLeDiff,reduceToNat,reducePow, q3]
        · simp (disch:=first|omega|(simp only [lens,z7,z6,List.length_reverse,List.length_map,List.length_take,List.length_drop,zg,zm,zl,zn,zx];first|done|omega)) only [go_sem,reduceEqDiff,Nat.reduceBEq,reduceAdd,reduceMul,reduceSub,reduceLeDiff,reduceToNat,reducePow, q4]
def z7m : Ty := .row [.int .u8, .str]
theorem zja {cs : List AV} (h : ShC z7m cs) : ∃ a : Act22, cs = ac22 a /\ a.Ok /\ a.s.length <= maxLen := by
  simp only [z7m, ShC, z5f] at h
  obtain ⟨A, B, rfl, hA, C, D, rfl, hC, rfl⟩ := h
  obtain ⟨k, rfl, k1, k2⟩ := hA
  obtain ⟨s, rfl, hs⟩ := hC
  simp only [IntKind.min, IntKind.max, IntKind.signed, IntKind.bits] at k1 k2
  simp at k1 k2
  exact ⟨⟨k, s⟩, rfl, ⟨k1, k2⟩, hs⟩
theorem zjb {x : AV} (h : ShC (.sl 2 z7m) [x]) : ∃ l : List Act22, SlV 2 (l.map ac22) x /\ l.length <= maxLen /\ ∀ a ∈ l, a.Ok := by
  simp only [ShC] at h
  rcases h with h | ⟨es, h, hl, _, h2⟩
  · cases h
    exact ⟨[], .inl ⟨rfl, rfl⟩, Nat.zero_le _, by simp⟩
  · cases h
    have : ∀ es : List (List AV), (∀ x ∈ es, ShC z7m x) -> ∃ l : List Act22, es = l.map ac22 /\ ∀ a ∈ l, a.Ok := by
      intro es
      induction es with
      | nil => intro _; exact ⟨[], rfl, by simp⟩
      | cons e es ih =>
        intro h
        obtain ⟨a, rfl, ha, _⟩ := zja (h e (by simp))
        obtain ⟨l, rfl, hl⟩ := ih fun x hx => h x (by simp [hx])
        exact ⟨a :: l, rfl, fun b hb => by rcases List.mem_cons.1 hb with rfl | h1; exact ha; exact hl b h1⟩
    obtain ⟨l, rfl, hok⟩ := this es h2
    exact ⟨l, .inr ⟨false, rfl⟩, by rwa [List.length_map] at hl, hok⟩
theorem PublishHeads_law (avs : List AV) (h : z6f [.sl 2 z7m] avs) : ACallsTo TC 5 avs [] (.bool true) [] := by
  simp only [z6f] at h
  obtain ⟨_, _, rfl, h1, rfl⟩ := h
  obtain ⟨l, hy, hl, hok⟩ := zjb (by simpa only [Sh] using h1)
  exact ziz l _ hy hok hl
end Am
end Go.Proofs.YtjgljhbmljgaeaaDoor
end
