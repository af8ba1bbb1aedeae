import Derived.Test.YtjgljhbmljgaeaaGreatDoorK31ffe1d10
import Derived.Test.YtjgljhbmljgaeaaGreatDoorK2f3b62dca
set_option linter.unusedSimpArgs false
set_option linter.unusedVariables false
open Nat (reduceEqDiff reduceAdd reduceMul reduceSub reduceLeDiff)
open Int (reduceToNat reducePow)
open Nat renaming reduceEqDiff -> nQ1, reduceBEq -> nQ2, reduceAdd -> nQ3, reduceMul -> nQ4, reduceSub -> nQ5, reduceLeDiff -> nQ6
open Int renaming reduceToNat -> nQ7, reducePow -> nQ8
open List renaming length_reverse -> lQr, length_map -> lQm, length_take -> lQt, length_drop -> lQd, length_set -> lQs
section
/- strings.Builder: the contracts of copyCheck and String over the abstract store. -/
namespace Go.Proofs
open Go.Shelf Go.RowKit
def Tryz.lays240_ren : Go.Shelf.Ren := ⟨fun | 240 => 126 | 276 => 137 | n => n, fun | 0 => 0 | 4 => 4 | 9 => 9 | 20 => 20 | 70 => 165 | 72 => 167 | 164 => 193 | 37 => 104 | n => n, fun | n => n⟩
theorem Tryz.lays240 : Go.Proofs.Lays.n240 Tryz.prog Tryz.lays240_ren := {
 mixed := by kernel_rfl
 f240 := Tryz.func126.trans (congrArg some (by kernel_rfl))
 f276 := Tryz.func137.trans (congrArg some (by kernel_rfl))
 t0 := Tryz.underlying0
 a0 := Tryz.isAgg0
 z0 := Tryz.sizeOf0
 v0 := Tryz.zeroValue0
 t4 := Tryz.underlying4
 a4 := Tryz.isAgg4
 z4 := Tryz.sizeOf4
 v4 := Tryz.zeroValue4
 t9 := Tryz.underlying9
 a9 := Tryz.isAgg9
 z9 := Tryz.sizeOf9
 v9 := Tryz.zeroValue9
 t20 := Tryz.underlying20
 a20 := Tryz.isAgg20
 z20 := Tryz.sizeOf20
 v20 := Tryz.zeroValue20
 t70 := Tryz.underlying165
 a70 := Tryz.isAgg165
 z70 := Tryz.sizeOf165
 v70 := Tryz.zeroValue165
 t72 := Tryz.underlying167
 a72 := Tryz.isAgg167
 z72 := Tryz.sizeOf167
 v72 := Tryz.zeroValue167
 t164 := Tryz.underlying193
 a164 := Tryz.isAgg193
 z164 := Tryz.sizeOf193
 v164 := Tryz.zeroValue193 }
theorem Tryz.x72_240 : Builder.X72 Tryz.prog Tryz.lays240_ren := {
 sizeBuilder := by kernel_rfl
 liesBuilder := by kernel_rfl }
section
variable {P : Program} {O : Ren}
set_option maxHeartbeats 1000000 in
set_option maxRecDepth 100000 in
theorem Tryz.string_ex (L : Lays.n169 P O) (X : Builder.Extra P O) (b g cap : Nat) (cur : Array Value) (p : Value) (fb fg : Nat × Nat) (l : List UInt8) (w : World) (h0 : l ≠ [])
  (hbk : w.heap[b]? = some (.cells #[p, .slice (some ⟨g, 0, none⟩) l.length cap] (O.t 72) fb)) (hg : w.heap[g]? = some (.cells cur (O.t 5) fg)) (hnc : l.length <= cap) (hcs : l.length <= cur.size) (hln : l.length <= 9223372036854775807)
  (hcl : ∀ j x, l[j]? = some x -> w.cell? ((⟨g, 0, none⟩ : Addr).add j) = some (.int .u8 x.toNat)) :
  Calls P (O.f 169) #[.pointer (some ⟨b, 0, none⟩)] w fun e w' => e = .returned (.string ⟨l.toArray⟩) /\ w' = w.drew.freeze ⟨g, 0, none⟩ l.length := by
 have hl0 : l.length ≠ 0 := by simpa using h0
 have c1 : w.drew.cell? ⟨b, 1, none⟩ = some (.slice (some ⟨g, 0, none⟩) l.length cap) := by
  have : w.drew.heap[b]? = some (.cells #[p, .slice (some ⟨g, 0, none⟩) l.length cap] (O.t 72) fb) := hbk
  rw [Lib.cell_of_heap this]; rfl
 have hSD : (Builtin.unsafeSliceData_ #[(O.t 37)] (O.t 127) #[.slice (some ⟨g, 0, none⟩) l.length cap]).run P w.drew = .ok (.pointer (some ⟨g, 0, none⟩)) w.drew :=
  Lib.run_unsafeSliceData_row _ _ _ _ _ _ (by omega)
 have hUS : (Builtin.unsafeString_ #[(O.t 127), (O.t 3)] (O.t 9) #[.pointer (some ⟨g, 0, none⟩), .int .i64 l.length]).run P w.drew = .ok (.string ⟨l.toArray⟩) (w.drew.freeze ⟨g, 0, none⟩ l.length) :=
  Lib.run_unsafeString_row w.drew (O.t 127) (O.t 3) (O.t 9) (O.t 5) L.t127 X.cellsByte g cur.size (by have hg' : w.drew.heap[g]? = some (.cells cur (O.t 5) fg) := hg; simp [World.shape?, hg']) l h0 hcs hln hcl
 have mixed := L.mixed
 have t72 := L.t72; have a72 := L.a72; have z72 := L.z72; have v72 := L.v72; have u72 := run_underlying L.t72
 have t70 := L.t70; have a70 := L.a70; have z70 := L.z70; have v70 := L.v70; have u70 := run_underlying L.t70
 have t37 := L.t37; have a37 := L.a37; have z37 := L.z37; have v37 := L.v37; have u37 := run_underlying L.t37
 have t127 := L.t127; have a127 := L.a127; have z127 := L.z127; have v127 := L.v127; have u127 := run_underlying L.t127
 have t3 := L.t3; have a3 := L.a3; have z3 := L.z3; have v3 := L.v3; have u3 := run_underlying L.t3
 have t9 := L.t9; have a9 := L.a9; have z9 := L.z9; have v9 := L.v9; have u9 := run_underlying L.t9
 have t5 := X.t5; have a5 := X.a5; have z5 := X.z5; have v5 := X.v5; have u5 := run_underlying X.t5
 clear hcl hcs hln hg hbk hnc
 go_enter L.f169, Body.n169_ntmps O
 go_wp2
 go_region_o
 all_goals (go_wp2; go_ret; exact ⟨rfl, rfl⟩)
end
end Go.Proofs
namespace Go.Proofs.YtjgljhbmljgaeaaGreatDoor
namespace Am
open Go.RowKit
section
variable {C : Ctx} {Z : Places} {Y : Store} {w w' : World}
theorem Rel.lose (h : Rel C Z Y w) {r : Nat} {pl : Place} (hr : Z[r]? = some (true, pl)) (hsz : w'.heap.size = w.heap.size) (hother : ∀ b, b ≠ pl.b -> w'.heap[b]? = w.heap[b]?) (ho : w'.os = w.os) (ht : w'.tape = w.tape) (hp : w'.output = w.output) :
  Step Z w (Z.set r (false, pl)) w' /\ Rel C (Z.set r (false, pl)) (Y.set r none) w' := by
 obtain ⟨k1, k2⟩ := h.kill hr
 have hrl : r < Z.length := (List.getElem?_eq_some_iff.1 hr).1
 have hs : Step Z w (Z.set r (false, pl)) w' := ⟨k1.keep, by omega, fun b _ hn => hother b fun e => hn r pl hr e.symm, fun q x hx => by
  rcases k1.new q x hx with h | h
  ·exact .inl h
  ·exact .inr h, ho, ht, hp⟩
 refine ⟨hs, by simp [h.len], fun q o hq => ?_, fun q hq => k2.dead q hq, fun q q' x x' h1 h2 h3 => k2.inj q q' x x' h1 h2 h3, fun g cs hg => (h.gl g cs hg).mono hs⟩
 by_cases e : r = q
 ·subst e
  rw [List.getElem?_set_self (by rw [<- h.len]; exact hrl)] at hq; cases hq
 ·rw [List.getElem?_set_ne e] at hq
  obtain ⟨x, h1, h2⟩ := h.alive q o hq
  exact ⟨x, by rw [List.getElem?_set_ne e]; exact h1, h2.mono hs (hother _ fun e' => e (h.inj r q pl x hr h1 e'.symm))⟩
theorem Rel.bld_at (hR : Rel C Z Y w) {r : Nat} {x : AV} (hr : Y[r]? = some (some [[.bld r, x]])) : ∃ (pl : Place) (v0 v1 : Value) (fz : Nat × Nat), Z[r]? = some (true, pl) /\ pl.base = 0 /\ pl.esz = 2 /\ w.heap[pl.b]? = some (.cells #[v0, v1] bldT fz) ∧
  (v0 = .pointer none \/ v0 = .pointer (some ⟨pl.b, 0, none⟩)) /\ VR Z w x v1 /\ (∀ k, k < 2 -> (decide (fz.1 <= k) && decide (k < fz.2)) = false) := by
 obtain ⟨pl, hpl, hok⟩ := hR.alive r _ hr
 obtain ⟨c, ty, fz, pre, mid, post, q1, q2, q3, q4, q5, q6⟩ := hok.ex
 simp only [List.flatten_cons, List.flatten_nil, List.append_nil, VRs] at q5
 obtain ⟨v0, _, rfl, ⟨k1, _⟩, v1, _, rfl, ⟨k2, _⟩, rfl⟩ := q5
 simp only [VR] at k1
 obtain ⟨fl, pl', hpl', ⟨e1, e2, e3, e4, e5⟩, k3⟩ := k1
 rw [hpl] at hpl'; cases hpl'
 have hty : ty = bldT := by
  obtain ⟨c0, fz0, h0⟩ := hok.tyk
  rw [q1] at h0; cases h0; exact e1
 have hpre : pre = [] := List.eq_nil_of_length_eq_zero (by omega)
 subst hpre
 have hlen : c.toList.length = 2 := by rw [Array.length_toList, q4, e5]
 have hpost : post = [] := by
  rw [q2] at hlen
  simpa using hlen
 subst hpost
 have hc : c = #[v0, v1] := by
  apply Array.ext'
  rw [q2]; rfl
 subst hc hty
 exact ⟨pl, v0, v1, fz, hpl, e2, e3, q1, k3, k2, fun k hk => q6 k hk⟩
end
theorem zru {Y : Store} {r : Nat} {x : Option AObj} (h : Y[r]? = some x) : Y.set r x = Y := by
 apply List.ext_getElem?
 intro i
 by_cases e : r = i
 ·subst e
  rw [List.getElem?_set_self (List.getElem?_eq_some_iff.1 h).1, h]
 ·rw [List.getElem?_set_ne e]
theorem zbz (Y : Store) (r : Nat) (x : AV) (hr : Y[r]? = some (some [[.bld r, x]])) : ACallsTo TC 126 [.ptr r 0 0] Y (.tup []) Y := by
 obtain ⟨e, hc⟩ := Option.isSome_iff_exists.1 (show (cFn TC 126).isSome = true by kernel_rfl)
 simp only [cFn, Option.bind_eq_some_iff] at hc
 obtain ⟨fn, hf, hc⟩ := hc
 split at hc
 ·cases hc
 ·rename_i hname
  simp only [Option.bind_eq_some_iff, Option.map_eq_some_iff] at hc
  obtain ⟨c, hb, _⟩ := hc
  intro Z w cargs hR ha
  left
  constructor
  ·have h1 : fn.name ≠ "runtime.NumGoroutine" := by simpa using hname
   simp [callFunc, hf, h1, hb]
  ·obtain ⟨pl, v0, v1, fz, hpl, hb0, hez, hw, hv0, hv1, hfz⟩ := hR.bld_at hr
   simp only [VRt, VR] at ha
   obtain ⟨_, _, rfl, ⟨fl, pl', hpl', rfl⟩, rfl⟩ := ha
   rw [hpl] at hpl'; cases hpl'
   have ea : pl.base + 0 * pl.esz + 0 = 0 := by rw [hb0]; omega
   rw [ea]
   have hcell : w.cell? ⟨pl.b, 0, none⟩ = some v0 := by rw [Lib.cell_of_heap hw]; rfl
   rcases hv0 with rfl | rfl
   ·refine (Any.Builder_copyCheck_fresh Tryz.lays240 Tryz.x72_240 pl.b w hcell (by simp [World.shape?, hw]; rfl) (by simp only [World.frozen?, hw]; exact hfz 0 (by omega))).mono ?_
    rintro e w' ⟨rfl, rfl⟩
    obtain ⟨w2, k1, k2, k3⟩ := hR.storeElem (i := 0) (off := 0) (vs := [.bld r]) (vals := [.pointer (some ⟨pl.b, 0, none⟩)]) hr hpl rfl (by simp) (VRs.one ⟨by
     simp only [VR]
     obtain ⟨pl2, hpl2, hok⟩ := hR.alive r _ hr
     rw [hpl] at hpl2; cases hpl2
     obtain ⟨c, ty, fz2, pre, mid, post, q1, q2, q3, q4, q5, q6⟩ := hok.ex
     simp only [List.flatten_cons, List.flatten_nil, List.append_nil, VRs, VR] at q5
     obtain ⟨u0, _, _, ⟨⟨fl3, pl3, hpl3, k, _⟩, _⟩, _⟩ := q5
     rw [hpl] at hpl3; cases hpl3
     exact ⟨true, pl, hpl, k, .inr rfl⟩, rfl⟩)
    rw [ea] at k1
    have e2 : w2 = w.setCell ⟨pl.b, 0, none⟩ (.pointer (some ⟨pl.b, 0, none⟩)) := by
     have hfr : w.frozen? ⟨pl.b, 0, none⟩ = false := by simp only [World.frozen?, hw]; exact hfz 0 (by omega)
     have hst : (store ⟨pl.b, 0, none⟩ (.pointer (some ⟨pl.b, 0, none⟩))).run TC.P w = .ok () (w.setCell ⟨pl.b, 0, none⟩ (.pointer (some ⟨pl.b, 0, none⟩))) := by
      rw [run_store TC.P w _ _ _ rfl, hcell]; simp [hfr]
     have := k1
     simp only [storeCells, z2o, Nat.add_zero, Sem.run_bind, hst, Result.andThen_ok, Sem.run_pure, Result.ok.injEq, true_and] at this
     exact this.symm
    rw [<- e2]
    have e3 : Y.set r (some ([[.bld r, x]].set 0 (z19 [.bld r, x] 0 [.bld r]))) = Y := by
     have : ([[AV.bld r, x]] : List (List AV)).set 0 (z19 [.bld r, x] 0 [.bld r]) = [[.bld r, x]] := by simp [z19]
     rw [this]
     exact zru hr
    rw [e3] at k3
    exact ⟨_, Z, rfl, k2, k3, by simp only [VR]; exact ⟨[], rfl, VRt.nil⟩⟩
   ·refine (Any.Builder_copyCheck_used Tryz.lays240 Tryz.x72_240 pl.b w hcell).mono ?_
    rintro e w' ⟨rfl, rfl⟩
    exact ⟨_, Z, rfl, Step.refl _ _, hR, by simp only [VR]; exact ⟨[], rfl, VRt.nil⟩⟩
theorem zbn (Y : Store) (r rb : Nat) (s : List UInt8) (h0 : s ≠ []) (hs : s.length <= 1073741824) (h1 : Y[r]? = some (some [[.bld r, .bsl rb s.length]])) (h2 : Y[rb]? = some (some (zh s))) :
  ACallsTo TC 112 [.ptr r 0 0] Y (.str s) (Y.set rb none) := by
 obtain ⟨e, hc⟩ := Option.isSome_iff_exists.1 (show (cFn TC 112).isSome = true by kernel_rfl)
 simp only [cFn, Option.bind_eq_some_iff] at hc
 obtain ⟨fn, hf, hc⟩ := hc
 split at hc
 ·cases hc
 ·rename_i hname
  simp only [Option.bind_eq_some_iff, Option.map_eq_some_iff] at hc
  obtain ⟨c, hb, _⟩ := hc
  intro Z w cargs hR ha
  left
  constructor
  ·have h1 : fn.name ≠ "runtime.NumGoroutine" := by simpa using hname
   simp [callFunc, hf, h1, hb]
  ·obtain ⟨pl, v0, v1, fz, hpl, hb0, hez, hw, hv0, hv1, hfz⟩ := hR.bld_at h1
   simp only [VRt, VR] at ha
   obtain ⟨_, _, rfl, ⟨fl, pl', hpl', rfl⟩, rfl⟩ := ha
   rw [hpl] at hpl'; cases hpl'
   have ea : pl.base + 0 * pl.esz + 0 = 0 := by rw [hb0]; omega
   rw [ea]
   simp only [VR] at hv1
   obtain ⟨fl2, pb, cap, hpb, ⟨t1, t2, t3⟩, rfl, hso⟩ := hv1
   obtain ⟨pb', hpb', hok⟩ := hR.alive rb _ h2
   rw [hpb] at hpb'; cases hpb'
   obtain ⟨cur, ty, fg, pre, mid, post, q1, q2, q3, q4, q5, q6⟩ := hok.ex
   have hty : ty = u8T := by
    obtain ⟨c0, fz0, h0⟩ := hok.tyk
    rw [q1] at h0; cases h0; exact t1
   subst hty
   have hpre : pre = [] := List.eq_nil_of_length_eq_zero (by omega)
   subst hpre
   rw [zbq] at q5
   have hml := q5.length
   rw [List.length_map] at hml
   have hcs : s.length <= cur.size := by
    rw [<- Array.length_toList, q2]; simp; omega
   refine (Tryz.string_ex Tryz.lays169 Tryz.Builder_Extra_169 pl.b pb.b cap cur v0 fz fg s w h0 hw q1 hso.le hcs (by omega) (fun j x hj => ?_)).mono ?_
   ·obtain ⟨v, k1, k2⟩ := q5.get (i := j) (a := B8 x) (by rw [List.getElem?_map, hj]; rfl)
    have hv := k2.1
    simp only [B8, VR] at hv
    rw [z2o, Nat.zero_add, Lib.cell_of_heap q1]
    show cur[j]? = _
    rw [<- Array.getElem?_toList, q2, List.nil_append, List.getElem?_append_left (by
     rcases Nat.lt_or_ge j mid.length with h | h
     ·exact h
     ·simp [List.getElem?_eq_none h] at k1), k1, hv]
   ·rintro e w' ⟨rfl, rfl⟩
    have hz : s.length ≠ 0 := by simpa using h0
    obtain ⟨k1, k2⟩ := hR.lose (w' := w.drew.freeze ⟨pb.b, 0, none⟩ s.length) hpb (by show (World.freeze w.drew _ _).heap.size = w.drew.heap.size; unfold World.freeze; rw [if_neg hz]; exact Array.size_modify) (fun b hb => by
     show (World.freeze w.drew _ _).heap[b]? = w.drew.heap[b]?
     unfold World.freeze
     rw [if_neg hz]
     simp only [Array.getElem?_modify]
     rw [if_neg (fun e => hb e.symm)]) (by unfold World.freeze; rw [if_neg hz]; rfl) (by unfold World.freeze; rw [if_neg hz]; rfl) (by unfold World.freeze; rw [if_neg hz]; rfl)
    exact ⟨_, _, rfl, k1, k2, by simp only [VR]⟩
end Am
end Go.Proofs.YtjgljhbmljgaeaaGreatDoor
end
namespace Go.Proofs.YtjgljhbmljgaeaaGreatDoor
namespace Am
section
theorem zjk {k : Nat} (l : List UInt8) : RLss k (zh l) := by
 induction l with
 | nil => simp [zh, RLss]
 | cons b l ih => simp only [zh, B8] at ih; simp [zh, RLss, B8, RLs, RL, ih]
def OwnB (Y Y' : Store) (v : AV) (b : List UInt8) : Prop := ∃ news j, Y' = Y ++ news /\ v = .sl (Y.length + j) 0 b.length none 1 /\ news[j]? = some (some (zh b))
theorem OwnB.down {Y Y' : Store} {v : AV} {b : List UInt8} (hw : Wf Y.length Y) (h : OwnB Y Y' v b) : DownV Y.length v Y' (.vsl 1 (zh b) false) Y := by
 obtain ⟨news, j, rfl, rfl, h⟩ := h
 have hl : (zh b).length = b.length := zl b
 have e : ((zh b).drop 0).take b.length = zh b := by rw [List.drop_zero, List.take_of_length_le (by omega)]
 have := DownV.froze (off := 0) (len := b.length) (esz := 1) (lim := none) hw h (by omega) (by rw [e]; exact zjk b)
 rw [e] at this
 exact this
theorem OwnB.app {Y Y' : Store} {r n : Nat} {b c : List UInt8} (h : OwnB Y Y' (.sl r 0 n none 1) b) : OwnB Y (Y'.set r none ++ [some (zh c)]) (.sl Y'.length 0 c.length none 1) c := by
 obtain ⟨news, j, rfl, e, h⟩ := h
 simp only [AV.sl.injEq, true_and, and_true] at e
 obtain ⟨rfl, rfl⟩ := e
 refine ⟨news.set j none ++ [some (zh c)], news.length, ?_, by simp, ?_⟩
 ·rw [List.set_append_right _ _ (by omega), Nat.add_sub_cancel_left, List.append_assoc]
 ·rw [List.getElem?_append_right (by simp)]; simp
theorem OwnB.get {Y Y' : Store} {v : AV} {b : List UInt8} (h : OwnB Y Y' v b) : ∃ r, v = .sl r 0 b.length none 1 /\ Y'[r]? = some (some (zh b)) := by
 obtain ⟨news, j, rfl, rfl, h⟩ := h
 exact ⟨_, rfl, by rw [List.getElem?_append_right (by omega), Nat.add_sub_cancel_left]; exact h⟩
theorem zf6 (b : List UInt8) (x : Nat) (m : Int) (h : m = ((x % 256 : Nat) : Int)) : zh b ++ [[AV.int .u8 m]] = zh (b ++ [UInt8.ofNat x]) := by
 subst h
 simp [zh, B8]
theorem zk5 (x : Nat) {j : Nat} (h : j < 8) : (be 8 x).take j ++ [UInt8.ofNat (x / 2 ^ (8 * (7 - j)))] = (be 8 x).take (j + 1) := by
 have e : be 8 x = [UInt8.ofNat (x / 256 ^ 7), UInt8.ofNat (x / 256 ^ 6), UInt8.ofNat (x / 256 ^ 5), UInt8.ofNat (x / 256 ^ 4), UInt8.ofNat (x / 256 ^ 3), UInt8.ofNat (x / 256 ^ 2), UInt8.ofNat (x / 256 ^ 1), UInt8.ofNat (x / 256 ^ 0)] := by
  simp only [z7z]
  rfl
 rw [e]
 have hj : j = 0 \/ j = 1 \/ j = 2 \/ j = 3 \/ j = 4 \/ j = 5 \/ j = 6 \/ j = 7 := by omega
 rcases hj with rfl | rfl | rfl | rfl | rfl | rfl | rfl | rfl <;> rfl
set_option maxHeartbeats 4000000 in
theorem pad_to (Y : Store) (s : List UInt8) (h : s.length < 1000000000) : ACallsTo TC 105 [.str s] Y (.vsl 1 (zh (padS s)) false) Y := by
 obtain ⟨z, hz⟩ : ∃ z : Nat, z = (119 - s.length % 64) % 64 := ⟨_, rfl⟩
 have hz64 : z < 64 := by rw [hz]; exact Nat.mod_lt _ (by decide)
 obtain ⟨P, hP⟩ : ∃ P, P = padS s := ⟨_, rfl⟩
 have hP2 : P = (s ++ 128 :: List.replicate z 0) ++ be 8 (s.length * 8) := by rw [hP, padS, hz]; simp
 rw [<- hP]
 refine ACallsTo.of_body qcok (by simp) fun hw _ => ?_
 repeat' (first|apply zs_|apply zb_|apply zc_|apply zt_ rfl|apply zf_ rfl|(refine zd_ rfl (fun ht => ?_) (fun ht => ?_)<;>try (exfalso;omega))|((first|apply zr_|apply zk_|apply ze_|apply zq_|((first|apply zg0|apply zg1|apply zg2|apply zg3|apply zg4|apply zg5|apply zg6|apply zg7)<;>intro ht));all_goals try simp (disch:=first|omega|(simp only [lens];first|done|omega)) only [go_sem,nQ1,nQ2,nQ3,nQ4,nQ5,nQ6,nQ7,nQ8]))
 refine zW.loop (fun m O Y' => ∃ k : Nat, m + k = z /\ O 0 = .str s /\ OwnB Y Y' (O 3) (s ++ 128 :: List.replicate k 0)) z ?_ ?_
 ·refine ⟨0, by omega, by simp (disch:=first|omega|(simp only [lens];first|done|omega)) only [go_sem,nQ1,nQ2,nQ3,nQ4,nQ5,nQ6,nQ7,nQ8],?_⟩
  simp (disch:=first|omega|(simp only [lens];first|done|omega)) only [go_sem,nQ1,nQ2,nQ3,nQ4,nQ5,nQ6,nQ7,nQ8]
  refine ⟨[none, some (zh (s ++ [128]))], 1, ?_, ?_, rfl⟩
  ·simp [zh, B8]
  ·simp
 ·rintro m O Y' ⟨k, hm, q0, hO⟩
  obtain ⟨r, q3, hg⟩ := hO.get
  have hb : (s ++ 128 :: List.replicate k 0).length = s.length + 1 + k := by simp; omega
  have hbe := zl (s ++ 128 :: List.replicate k 0)
  by_cases hk : k < z
  ·rw [q3] at hO
   rw [hb] at q3 hbe hO
   have e0 : zh (s ++ 128 :: List.replicate k 0) ++ [[AV.int .u8 0]] = zh (s ++ 128 :: List.replicate (k + 1) 0) := by
    rw [zf6 _ 0 0 (by simp), List.append_assoc, List.cons_append, List.replicate_succ']
    rfl
   have hO2 := hO.app (c := s ++ 128 :: List.replicate (k + 1) 0)
   have hc : (s ++ 128 :: List.replicate (k + 1) 0).length = s.length + 1 + k + 1 := by simp; omega
   rw [hc] at hO2
   generalize zh (s ++ 128 :: List.replicate k 0) = bb at *
   repeat' (first|apply zs_|apply zb_|apply zc_|apply zt_ rfl|apply zf_ rfl|(refine zd_ rfl (fun ht => ?_) (fun ht => ?_)<;>try (exfalso;omega))|((first|apply zr_|apply zk_|apply ze_|apply zq_|((first|apply zg0|apply zg1|apply zg2|apply zg3|apply zg4|apply zg5|apply zg6|apply zg7)<;>intro ht));all_goals try simp (disch:=first|omega|(simp only [lens];first|done|omega)) only [go_sem,nQ1,nQ2,nQ3,nQ4,nQ5,nQ6,nQ7,nQ8,q0,q3,hg,hbe,e0]))
   exact ⟨z - (k + 1), by omega, k + 1, by omega, hO2⟩
  ·obtain rfl : k = z := by omega
   obtain ⟨N, hN⟩ : ∃ N, N = s.length * 8 := ⟨_, rfl⟩
   have hN2 : (s.length : Int) * 8 = N := by omega
   have hb8 : (be 8 N).length = 8 := z34 _ _
   rw [<- hN] at hP2
   rw [hb] at q3 hbe
   have h56 : ((s.length : Int) + 1 + k) % 64 = 56 := by omega
   generalize hB : s ++ 128 :: List.replicate k 0 = B at *
   repeat' (first|apply zs_|apply zb_|apply zc_|apply zt_ rfl|apply zf_ rfl|(refine zd_ rfl (fun ht => ?_) (fun ht => ?_)<;>try (exfalso;omega))|((first|apply zr_|apply zk_|apply ze_|apply zq_|((first|apply zg0|apply zg1|apply zg2|apply zg3|apply zg4|apply zg5|apply zg6|apply zg7)<;>intro ht));all_goals try simp (disch:=first|omega|(simp only [lens];first|done|omega)) only [go_sem,nQ1,nQ2,nQ3,nQ4,nQ5,nQ6,nQ7,nQ8,q0,q3,h56,hN2,Int.natCast_add,Int.natCast_one]))
   refine zW.loop (fun m O Y' => ∃ j : Nat, m + j = 8 /\ O 4 = .int .u64 N /\ O 5 = .int .i64 (7 - j) /\ OwnB Y Y' (O 3) (B ++ (be 8 N).take j)) 8 ?_ ?_
   ·refine ⟨0, by omega, by simp (disch:=first|omega|(simp only [lens];first|done|omega)) only [go_sem,nQ1,nQ2,nQ3,nQ4,nQ5,nQ6,nQ7,nQ8],by simp (disch:=first|omega|(simp only [lens];first|done|omega)) only [go_sem,nQ1,nQ2,nQ3,nQ4,nQ5,nQ6,nQ7,nQ8]; rfl,?_⟩
    simp (disch:=first|omega|(simp only [lens];first|done|omega)) only [go_sem,nQ1,nQ2,nQ3,nQ4,nQ5,nQ6,nQ7,nQ8,q3]
    rw [q3] at hO
    exact hO
   ·clear q0 q3 hO hg
    rintro m O Y' ⟨j, hm, q4, q5, hO⟩
    obtain ⟨r, q3, hg⟩ := hO.get
    have hl : (B ++ (be 8 N).take j).length = s.length + 1 + k + j := by rw [List.length_append, hb, List.length_take, hb8]; omega
    have hbe := zl (B ++ (be 8 N).take j)
    by_cases hj : j < 8
    ·rw [q3] at hO
     rw [hl] at q3 hbe hO
     have hO2 := hO.app (c := B ++ (be 8 N).take (j + 1))
     have hc : (B ++ (be 8 N).take (j + 1)).length = s.length + 1 + k + j + 1 := by rw [List.length_append, hb, List.length_take, hb8]; omega
     rw [hc] at hO2
     have hs : (8 * (7 - (j : Int))).toNat = 8 * (7 - j) := by omega
     have e0 : zh (B ++ (be 8 N).take j) ++ [[AV.int .u8 ((N : Int) / 2 ^ (8 * (7 - j)) % 256)]] = zh (B ++ (be 8 N).take (j + 1)) := by
      rw [zf6 _ (N / 2 ^ (8 * (7 - j))) _ (by rw [Int.natCast_emod, Int.natCast_ediv, Int.natCast_pow]; rfl), List.append_assoc, zk5 N hj]
     generalize zh (B ++ (be 8 N).take j) = bb at *
     repeat' (first|apply zs_|apply zb_|apply zc_|apply zt_ rfl|apply zf_ rfl|(refine zd_ rfl (fun ht => ?_) (fun ht => ?_)<;>try (exfalso;omega))|((first|apply zr_|apply zk_|apply ze_|apply zq_|((first|apply zg0|apply zg1|apply zg2|apply zg3|apply zg4|apply zg5|apply zg6|apply zg7)<;>intro ht));all_goals try simp (disch:=first|omega|(simp only [lens];first|done|omega)) only [go_sem,nQ1,nQ2,nQ3,nQ4,nQ5,nQ6,nQ7,nQ8,q3,q4,q5,hg,hbe,hs,e0]))
     exact ⟨8 - (j + 1), by omega, j + 1, by omega, by rw [show (7 : Int) - ((j + 1 : Nat) : Int) = 7 - j - 1 by omega], hO2⟩
    ·obtain rfl : j = 8 := by omega
     have e8 : B ++ (be 8 N).take 8 = P := by rw [List.take_of_length_le (by omega)]; exact hP2.symm
     rw [e8] at hO q3
     repeat' (first|apply zs_|apply zb_|apply zc_|apply zt_ rfl|apply zf_ rfl|(refine zd_ rfl (fun ht => ?_) (fun ht => ?_)<;>try (exfalso;omega))|((first|apply zr_|apply zk_|apply ze_|apply zq_|((first|apply zg0|apply zg1|apply zg2|apply zg3|apply zg4|apply zg5|apply zg6|apply zg7)<;>intro ht));all_goals try simp (disch:=first|omega|(simp only [lens];first|done|omega)) only [go_sem,nQ1,nQ2,nQ3,nQ4,nQ5,nQ6,nQ7,nQ8,q3,q5]))
     rw [q3] at hO
     exact hO.down hw
end
section
def z32 : List AV := zx (List.replicate 32 0)
def mkS (G : Store) (u : V8) (cells : List AV) : Store := G ++ [some [z32], some [gl_sha_rounds], some [u.c8], some [cells]]
def Rk (O : Env) (a : Nat) (p : List UInt8) (n : Nat) : Prop :=
 O 2 = .ptr a 0 0 /\ O 3 = .ptr (a + 1) 0 0 /\ O 4 = .ptr (a + 2) 0 0 /\ O 5 = .vsl 1 (zh p) false /\ O 6 = .ptr (a + 3) 0 0 /\ O 7 = .int .i64 n
theorem zfg {w : List W} {x : W} {n : Nat} {rest : List AV} (h : w.length = n) (hr : 0 < rest.length) : (ws w ++ rest).take n ++ AV.int .u32 x.toNat :: (ws w ++ rest).drop (n + 1) = ws (w ++ [x]) ++ rest.drop 1 := by
 have hl : (ws w).length = n := by rw [z3o, h]
 rw [List.take_append_of_le_length (by omega), List.take_of_length_le (by omega), List.drop_append, List.drop_of_length_le (by omega), hl]
 rw [show n + 1 - n = 1 by omega, List.nil_append]
 simp [ws, wc]
theorem ztg {p : List UInt8} {n i : Nat} (h : n + 4 * i + 4 <= p.length) (hi : i < 16) :
  ((p.getD (n + 4 * i) 0).toNat : Int) * 16777216 + (p.getD (n + 4 * i + 1) 0).toNat * 65536 + (p.getD (n + 4 * i + 2) 0).toNat * 256 + (p.getD (n + 4 * i + 3) 0).toNat = ((zn ((p.drop n).take 64) i).toNat : Int) := by
 have e : ((((p.drop n).take 64).drop (4 * i)).take 4) = [p.getD (n + 4 * i) 0, p.getD (n + 4 * i + 1) 0, p.getD (n + 4 * i + 2) 0, p.getD (n + 4 * i + 3) 0] := by
  rw [List.drop_take, List.take_take, List.drop_drop, show min 4 (64 - 4 * i) = 4 by omega]
  obtain ⟨A, hA⟩ : ∃ A, A = p.drop (n + 4 * i) := ⟨_, rfl⟩
  have g : ∀ k, p.getD (n + 4 * i + k) 0 = A.getD k 0 := by
   intro k
   rw [hA, List.getD_eq_getElem?_getD, List.getD_eq_getElem?_getD, List.getElem?_drop]
  have g0 := g 0
  rw [Nat.add_zero] at g0
  rw [g0, g 1, g 2, g 3, <- hA]
  have hl : 4 <= A.length := by rw [hA, List.length_drop]; omega
  match A, hl with
  | a :: b :: c :: d :: A, _ => rfl
 unfold zn
 rw [e]
 generalize p.getD (n + 4 * i) 0 = a
 generalize p.getD (n + 4 * i + 1) 0 = b
 generalize p.getD (n + 4 * i + 2) 0 = c
 generalize p.getD (n + 4 * i + 3) 0 = d
 have h1 := a.toNat_lt
 have h2 := b.toNat_lt
 have h3 := c.toNat_lt
 have h4 := d.toNat_lt
 simp only [getS, val, List.take_of_length_le (show [a, b, c, d].length <= 8 by simp), List.foldl_cons, List.foldl_nil, BitVec.toNat_ofNat]
 omega
section
variable {k : Nat} {Q : AExit -> Env -> Store -> Prop} {O : Env} {G : Store} {u : V8} {p : List UInt8} {n : Nat}
set_option maxHeartbeats 4000000 in
theorem zra {cells : List AV} (K : Rk O G.length p n) (hp : n + 64 <= p.length) (hpl : p.length < 2000000000) (hc : cells.length = 64)
  (hQ : ∀ O' rest, rest.length = 48 -> Rk O' G.length p n -> Q .normal O' (mkS G u (ws (zy ((p.drop n).take 64) 16) ++ rest))) : zW TC 252 k qac21 Q O (mkS G u cells) := by
 obtain ⟨k2, k3, k4, k5, k6, k7⟩ := K
 obtain ⟨q, hq⟩ : ∃ q, q = (p.drop n).take 64 := ⟨_, rfl⟩
 rw [<- hq] at hQ
 repeat' (first|apply zs_|apply zb_|apply zc_|apply zt_ rfl|apply zf_ rfl|(refine zd_ rfl (fun ht => ?_) (fun ht => ?_)<;>try (exfalso;omega))|((first|apply zr_|apply zk_|apply ze_|apply zq_|((first|apply zg0|apply zg1|apply zg2|apply zg3|apply zg4|apply zg5|apply zg6|apply zg7)<;>intro ht));all_goals try simp (disch:=first|omega|(simp only [lens];first|done|omega)) only [go_sem,nQ1,nQ2,nQ3,nQ4,nQ5,nQ6,nQ7,nQ8]))
 refine zW.loop (fun m O Y' => ∃ (i : Nat) (rest : List AV), m + i = 16 /\ rest.length = 64 - i /\ Rk O G.length p n /\ O 8 = .int .i64 i /\ Y' = mkS G u (ws (zy q i) ++ rest)) 16 ?_ ?_
 ·exact ⟨0, cells, by omega, hc, ⟨by simp (disch:=first|omega|(simp only [lens];first|done|omega)) only [go_sem,nQ1,nQ2,nQ3,nQ4,nQ5,nQ6,nQ7,nQ8,k2],by simp (disch:=first|omega|(simp only [lens];first|done|omega)) only [go_sem,nQ1,nQ2,nQ3,nQ4,nQ5,nQ6,nQ7,nQ8,k3],by simp (disch:=first|omega|(simp only [lens];first|done|omega)) only [go_sem,nQ1,nQ2,nQ3,nQ4,nQ5,nQ6,nQ7,nQ8,k4],by simp (disch:=first|omega|(simp only [lens];first|done|omega)) only [go_sem,nQ1,nQ2,nQ3,nQ4,nQ5,nQ6,nQ7,nQ8,k5],by simp (disch:=first|omega|(simp only [lens];first|done|omega)) only [go_sem,nQ1,nQ2,nQ3,nQ4,nQ5,nQ6,nQ7,nQ8,k6],by simp (disch:=first|omega|(simp only [lens];first|done|omega)) only [go_sem,nQ1,nQ2,nQ3,nQ4,nQ5,nQ6,nQ7,nQ8,k7]⟩,by simp (disch:=first|omega|(simp only [lens];first|done|omega)) only [go_sem,nQ1,nQ2,nQ3,nQ4,nQ5,nQ6,nQ7,nQ8]; rfl,rfl⟩
 ·rintro m O Y' ⟨i, rest, hm, hr, ⟨q2, q3, q4, q5, q6, q7⟩, q8, rfl⟩
  by_cases hi : i < 16
  ·have hwd := ztg (p := p) (n := n) (i := i) (by omega) hi
   rw [<- hq] at hwd
   have hset := zfg (x := zn q i) (rest := rest) (z3v q i) (by omega)
   have hlen : (ws (zy q i) ++ rest).length = 64 := by rw [List.length_append, z3o, z3v, hr]; omega
   have hsc : zy q (i + 1) = zy q i ++ [zn q i] := by rw [zy, z2m, z3v, if_pos hi]
   have n0 : ((n : Int) + 4 * i).toNat = n + 4 * i := by omega
   have n1 : ((n : Int) + 4 * i + 1).toNat = n + 4 * i + 1 := by omega
   have n2 : ((n : Int) + 4 * i + 2).toNat = n + 4 * i + 2 := by omega
   have n3 : ((n : Int) + 4 * i + 3).toNat = n + 4 * i + 3 := by omega
   have b0 := (p.getD (n + 4 * i) 0).toNat_lt
   have b1 := (p.getD (n + 4 * i + 1) 0).toNat_lt
   have b2 := (p.getD (n + 4 * i + 2) 0).toNat_lt
   have b3 := (p.getD (n + 4 * i + 3) 0).toNat_lt
   have g0 := zg8 (s := p) (i := n + 4 * i) (by omega)
   have e0 := z82 (s := p) (i := n + 4 * i) (by omega)
   have e1 := z82 (s := p) (i := n + 4 * i + 1) (by omega)
   have e2 := z82 (s := p) (i := n + 4 * i + 2) (by omega)
   have e3 := z82 (s := p) (i := n + 4 * i + 3) (by omega)
   have hpb := zl p
   unfold mkS
   generalize p.getD (n + 4 * i) 0 = x0 at *
   generalize p.getD (n + 4 * i + 1) 0 = x1 at *
   generalize p.getD (n + 4 * i + 2) 0 = x2 at *
   generalize p.getD (n + 4 * i + 3) 0 = x3 at *
   generalize hpb2 : zh p = pb at *
   generalize hcc : ws (zy q i) ++ rest = cc at *
   repeat' (first | refine zs_ ?_ | refine zb_ ?_ | refine zc_ ?_ | refine zt_ rfl ?_ | refine zf_ rfl ?_ | (refine zd_ rfl (fun ht => ?_) (fun ht => ?_) <;> try (exfalso; omega)) | ((first | refine zW.regS ?_ | refine zk_ ?_ | refine ze_ ?_ | refine zq_ ?_ | ((first|apply zg0|apply zg1|apply zg2|apply zg3|apply zg4|apply zg5|apply zg6|apply zg7)<;>intro ht));all_goals try simp (disch:=first|omega|(simp only [lens];first|done|omega)) only [go_sem,nQ1,nQ2,nQ3,nQ4,nQ5,nQ6,nQ7,nQ8,q2,q3,q4,q5,q6,q7,q8,hlen,n0,n1,n2,n3,e0,e1,e2,e3]))
   refine ⟨16 - (i + 1), by omega, i + 1, rest.drop 1, by omega, by rw [List.length_drop]; omega, ⟨by simp (disch:=first|omega|(simp only [lens];first|done|omega)) only [go_sem,nQ1,nQ2,nQ3,nQ4,nQ5,nQ6,nQ7,nQ8,q2],by simp (disch:=first|omega|(simp only [lens];first|done|omega)) only [go_sem,nQ1,nQ2,nQ3,nQ4,nQ5,nQ6,nQ7,nQ8,q3],by simp (disch:=first|omega|(simp only [lens];first|done|omega)) only [go_sem,nQ1,nQ2,nQ3,nQ4,nQ5,nQ6,nQ7,nQ8,q4],(by simp (disch:=first|omega|(simp only [lens];first|done|omega)) only [go_sem,nQ1,nQ2,nQ3,nQ4,nQ5,nQ6,nQ7,nQ8,q5]; rw [hpb2]),by simp (disch:=first|omega|(simp only [lens];first|done|omega)) only [go_sem,nQ1,nQ2,nQ3,nQ4,nQ5,nQ6,nQ7,nQ8,q6],by simp (disch:=first|omega|(simp only [lens];first|done|omega)) only [go_sem,nQ1,nQ2,nQ3,nQ4,nQ5,nQ6,nQ7,nQ8,q7]⟩,by simp,?_⟩
   rw [hwd, hset, hsc]
  ·obtain rfl : i = 16 := by omega
   repeat' (first|apply zs_|apply zb_|apply zc_|apply zt_ rfl|apply zf_ rfl|(refine zd_ rfl (fun ht => ?_) (fun ht => ?_)<;>try (exfalso;omega))|((first|apply zr_|apply zk_|apply ze_|apply zq_|((first|apply zg0|apply zg1|apply zg2|apply zg3|apply zg4|apply zg5|apply zg6|apply zg7)<;>intro ht));all_goals try simp (disch:=first|omega|(simp only [lens];first|done|omega)) only [go_sem,nQ1,nQ2,nQ3,nQ4,nQ5,nQ6,nQ7,nQ8,q8]))
   exact hQ _ rest (by omega) ⟨by simp (disch:=first|omega|(simp only [lens];first|done|omega)) only [go_sem,nQ1,nQ2,nQ3,nQ4,nQ5,nQ6,nQ7,nQ8,q2],by simp (disch:=first|omega|(simp only [lens];first|done|omega)) only [go_sem,nQ1,nQ2,nQ3,nQ4,nQ5,nQ6,nQ7,nQ8,q3],by simp (disch:=first|omega|(simp only [lens];first|done|omega)) only [go_sem,nQ1,nQ2,nQ3,nQ4,nQ5,nQ6,nQ7,nQ8,q4],by simp (disch:=first|omega|(simp only [lens];first|done|omega)) only [go_sem,nQ1,nQ2,nQ3,nQ4,nQ5,nQ6,nQ7,nQ8,q5],by simp (disch:=first|omega|(simp only [lens];first|done|omega)) only [go_sem,nQ1,nQ2,nQ3,nQ4,nQ5,nQ6,nQ7,nQ8,q6],by simp (disch:=first|omega|(simp only [lens];first|done|omega)) only [go_sem,nQ1,nQ2,nQ3,nQ4,nQ5,nQ6,nQ7,nQ8,q7]⟩
set_option maxHeartbeats 4000000 in
theorem zr9 {q : List UInt8} {rest : List AV} (K : Rk O G.length p n) (hr : rest.length = 48)
  (hQ : ∀ O', Rk O' G.length p n -> Q .normal O' (mkS G u (ws (zy q 64)))) : zW TC 252 k qac34 Q O (mkS G u (ws (zy q 16) ++ rest)) := by
 obtain ⟨R, hR⟩ : ∃ R, R = zy q 64 := ⟨_, rfl⟩
 rw [<- hR] at hQ
 obtain ⟨k2, k3, k4, k5, k6, k7⟩ := K
 repeat' (first|apply zs_|apply zb_|apply zc_|apply zt_ rfl|apply zf_ rfl|(refine zd_ rfl (fun ht => ?_) (fun ht => ?_)<;>try (exfalso;omega))|((first|apply zr_|apply zk_|apply ze_|apply zq_|((first|apply zg0|apply zg1|apply zg2|apply zg3|apply zg4|apply zg5|apply zg6|apply zg7)<;>intro ht));all_goals try simp (disch:=first|omega|(simp only [lens];first|done|omega)) only [go_sem,nQ1,nQ2,nQ3,nQ4,nQ5,nQ6,nQ7,nQ8]))
 refine zW.loop (fun m O Y' => ∃ (i : Nat) (rest : List AV), m + i = 64 /\ 16 <= i /\ rest.length = 64 - i /\ Rk O G.length p n /\ O 10 = .int .i64 i /\ Y' = mkS G u (ws (zy q i) ++ rest)) 48 ?_ ?_
 ·exact ⟨16, rest, by omega, by omega, hr, ⟨by simp (disch:=first|omega|(simp only [lens];first|done|omega)) only [go_sem,nQ1,nQ2,nQ3,nQ4,nQ5,nQ6,nQ7,nQ8,k2],by simp (disch:=first|omega|(simp only [lens];first|done|omega)) only [go_sem,nQ1,nQ2,nQ3,nQ4,nQ5,nQ6,nQ7,nQ8,k3],by simp (disch:=first|omega|(simp only [lens];first|done|omega)) only [go_sem,nQ1,nQ2,nQ3,nQ4,nQ5,nQ6,nQ7,nQ8,k4],by simp (disch:=first|omega|(simp only [lens];first|done|omega)) only [go_sem,nQ1,nQ2,nQ3,nQ4,nQ5,nQ6,nQ7,nQ8,k5],by simp (disch:=first|omega|(simp only [lens];first|done|omega)) only [go_sem,nQ1,nQ2,nQ3,nQ4,nQ5,nQ6,nQ7,nQ8,k6],by simp (disch:=first|omega|(simp only [lens];first|done|omega)) only [go_sem,nQ1,nQ2,nQ3,nQ4,nQ5,nQ6,nQ7,nQ8,k7]⟩,by simp (disch:=first|omega|(simp only [lens];first|done|omega)) only [go_sem,nQ1,nQ2,nQ3,nQ4,nQ5,nQ6,nQ7,nQ8]; rfl,rfl⟩
 ·clear hr
  rintro m O Y' ⟨i, rest, hm, h16, hr, ⟨q2, q3, q4, q5, q6, q7⟩, q10, rfl⟩
  have hsl := z3v q i
  by_cases hi : i < 64
  ·have hset := zfg (x := z2m q (zy q i)) (rest := rest) hsl (by omega)
   have hlen : (ws (zy q i) ++ rest).length = 64 := by rw [List.length_append, z3o, z3v, hr]; omega
   have hsc : zy q (i + 1) = zy q i ++ [z2m q (zy q i)] := by rw [zy]
   have en : z2m q (zy q i) = wat (zy q i) (i - 16) + wat (zy q i) (i - 7) + ss0 (wat (zy q i) (i - 15)) + ss1 (wat (zy q i) (i - 2)) := by rw [z2m, if_neg (by omega), hsl]
   have hwi : ∀ j, j < i -> (ws (zy q i) ++ rest)[j]? = some (.int .u32 (wat (zy q i) j).toNat) := by
    intro j hj
    rw [List.getElem?_append_left (by rw [z3o]; omega), z7j (by omega)]
   have g16 := hwi (i - 16) (by omega)
   have g7 := hwi (i - 7) (by omega)
   have g15 := hwi (i - 15) (by omega)
   have g2 := hwi (i - 2) (by omega)
   have t16 : ((i : Int) - 16).toNat = i - 16 := by omega
   have t7 : ((i : Int) - 7).toNat = i - 7 := by omega
   have t15 : ((i : Int) - 15).toNat = i - 15 := by omega
   have t2 : ((i : Int) - 2).toNat = i - 2 := by omega
   have r7 : 32 - (7 : Int).toNat = 25 := rfl
   clear hwi
   generalize z2m q (zy q i) = nx at *
   generalize wat (zy q i) (i - 16) = w16 at *
   generalize wat (zy q i) (i - 7) = w7 at *
   generalize wat (zy q i) (i - 15) = w15 at *
   generalize wat (zy q i) (i - 2) = w2 at *
   unfold mkS
   generalize hpb2 : zh p = pb at *
   generalize hcc : ws (zy q i) ++ rest = cc at *
   repeat' (first | refine zs_ ?_ | refine zb_ ?_ | refine zc_ ?_ | refine zt_ rfl ?_ | refine zf_ rfl ?_ | (refine zd_ rfl (fun ht => ?_) (fun ht => ?_) <;> try (exfalso; omega)) | ((first | refine zW.regS ?_ | refine zk_ ?_ | refine ze_ ?_ | refine zq_ ?_ | (apply callW.mk_pu; (first | exact (fun _ => zba _ _ _ (by omega)))) | (apply callW.za; (first | exact (zba _ _ _ (by omega)))) | ((first|apply zg0|apply zg1|apply zg2|apply zg3|apply zg4|apply zg5|apply zg6|apply zg7)<;>intro ht));all_goals try simp (disch:=first|omega|(simp only [lens];first|done|omega)) only [go_sem,nQ1,nQ2,nQ3,nQ4,nQ5,nQ6,nQ7,nQ8,q2,q3,q4,q5,q6,q7,q10,hlen,g16,g7,g15,g2,t16,t7,t15,t2]))
   refine ⟨64 - (i + 1), by omega, i + 1, rest.drop 1, by omega, by omega, by rw [List.length_drop]; omega, ⟨by simp (disch:=first|omega|(simp only [lens];first|done|omega)) only [go_sem,nQ1,nQ2,nQ3,nQ4,nQ5,nQ6,nQ7,nQ8,q2],by simp (disch:=first|omega|(simp only [lens];first|done|omega)) only [go_sem,nQ1,nQ2,nQ3,nQ4,nQ5,nQ6,nQ7,nQ8,q3],by simp (disch:=first|omega|(simp only [lens];first|done|omega)) only [go_sem,nQ1,nQ2,nQ3,nQ4,nQ5,nQ6,nQ7,nQ8,q4],(by simp (disch:=first|omega|(simp only [lens];first|done|omega)) only [go_sem,nQ1,nQ2,nQ3,nQ4,nQ5,nQ6,nQ7,nQ8,q5]; rw [hpb2]),by simp (disch:=first|omega|(simp only [lens];first|done|omega)) only [go_sem,nQ1,nQ2,nQ3,nQ4,nQ5,nQ6,nQ7,nQ8,q6],by simp (disch:=first|omega|(simp only [lens];first|done|omega)) only [go_sem,nQ1,nQ2,nQ3,nQ4,nQ5,nQ6,nQ7,nQ8,q7]⟩,by simp,?_⟩
   rw [hsc, <- hset, en]
   have ec : ∀ s t : W, w16 + s + w7 + t = w16 + w7 + s + t := fun s t => by rw [BitVec.add_assoc w16 s w7, BitVec.add_comm s w7, <- BitVec.add_assoc w16 w7 s]
   rw [ec]
   rfl
  ·obtain rfl : i = 64 := by omega
   have hr0 : rest = [] := List.eq_nil_of_length_eq_zero (by omega)
   rw [hr0, <- hR, List.append_nil]
   clear hsl hR
   repeat' (first|apply zs_|apply zb_|apply zc_|apply zt_ rfl|apply zf_ rfl|(refine zd_ rfl (fun ht => ?_) (fun ht => ?_)<;>try (exfalso;omega))|((first|apply zr_|apply zk_|apply ze_|apply zq_|((first|apply zg0|apply zg1|apply zg2|apply zg3|apply zg4|apply zg5|apply zg6|apply zg7)<;>intro ht));all_goals try simp (disch:=first|omega|(simp only [lens];first|done|omega)) only [go_sem,nQ1,nQ2,nQ3,nQ4,nQ5,nQ6,nQ7,nQ8,q10]))
   exact hQ _ ⟨by simp (disch:=first|omega|(simp only [lens];first|done|omega)) only [go_sem,nQ1,nQ2,nQ3,nQ4,nQ5,nQ6,nQ7,nQ8,q2],by simp (disch:=first|omega|(simp only [lens];first|done|omega)) only [go_sem,nQ1,nQ2,nQ3,nQ4,nQ5,nQ6,nQ7,nQ8,q3],by simp (disch:=first|omega|(simp only [lens];first|done|omega)) only [go_sem,nQ1,nQ2,nQ3,nQ4,nQ5,nQ6,nQ7,nQ8,q4],by simp (disch:=first|omega|(simp only [lens];first|done|omega)) only [go_sem,nQ1,nQ2,nQ3,nQ4,nQ5,nQ6,nQ7,nQ8,q5],by simp (disch:=first|omega|(simp only [lens];first|done|omega)) only [go_sem,nQ1,nQ2,nQ3,nQ4,nQ5,nQ6,nQ7,nQ8,q6],by simp (disch:=first|omega|(simp only [lens];first|done|omega)) only [go_sem,nQ1,nQ2,nQ3,nQ4,nQ5,nQ6,nQ7,nQ8,q7]⟩
end
end
section
theorem k_get {i : Nat} (h : i < 64) : gl_sha_rounds[i]? = some (.int .u32 (kAt i).toNat) := by
 have := zgk h
 rwa [List.getElem?_drop, Nat.add_zero] at this
section
variable {k : Nat} {Q : AExit -> Env -> Store -> Prop} {O : Env} {G : Store} {u : V8} {p : List UInt8} {n : Nat}
set_option maxHeartbeats 8000000 in
theorem zr8 {q : List UInt8} (K : Rk O G.length p n)
  (hQ : ∀ O', Rk O' G.length p n -> Q .normal O' (mkS G (mixS u q) (ws (zy q 64)))) : zW TC 252 k qac53 Q O (mkS G u (ws (zy q 64))) := by
 obtain ⟨R, hR⟩ : ∃ R, R = zy q 64 := ⟨_, rfl⟩
 have hRl : R.length = 64 := by rw [hR, z3v]
 have hwR : (ws R).length = 64 := by rw [z3o, hRl]
 have hst : ∀ n, rnds q u (n + 1) = rnd (rnds q u n) (kAt n) (wat R n) := fun n => by rw [rnds, hR]
 obtain ⟨U, hU⟩ : ∃ U, U = rnds q u 64 := ⟨_, rfl⟩
 have hmix : mixS u q = U.add u := by rw [mixS, hU]
 rw [hmix] at hQ
 rw [<- hR] at hQ ⊢
 obtain ⟨k2, k3, k4, k5, k6, k7⟩ := K
 unfold mkS
 refine zs_ ?_
 (refine zW.regS ?_; (simp (disch:=first|omega|(simp only [lens];first|done|omega)) only [go_sem,nQ1,nQ2,nQ3,nQ4,nQ5,nQ6,nQ7,nQ8,k4,V8.c8]))
 (refine zW.slots [2, 3, 4, 5, 6, 7, 13, 14, 15, 16, 17, 18, 19, 20] ?_; intro O1 hs; simp (disch:=first|omega|(simp only [lens];first|done|omega)) only [go_sem,nQ1,nQ2,nQ3,nQ4,nQ5,nQ6,nQ7,nQ8,k2,k3,k4,k5,k6,k7] at hs; obtain ⟨s2,s3,s4,s5,s6,s7,s13,s14,s15,s16,s17,s18,s19,s20⟩ := hs)
 refine zs_ ?_
 refine zs_ ?_
 (refine zW.regS ?_; (simp (disch:=first|omega|(simp only [lens];first|done|omega)) only [go_sem,nQ1,nQ2,nQ3,nQ4,nQ5,nQ6,nQ7,nQ8]))
 refine zb_ ?_
 refine zW.loop (fun m O Y' => ∃ i : Nat, m + i = 64 /\ Rk O G.length p n /\ O 21 = .int .i64 i /\ O 13 = .int .u32 (rnds q u i).a.toNat /\ O 14 = .int .u32 (rnds q u i).b.toNat /\ O 15 = .int .u32 (rnds q u i).c.toNat /\ O 16 = .int .u32 (rnds q u i).d.toNat ∧
  O 17 = .int .u32 (rnds q u i).e.toNat /\ O 18 = .int .u32 (rnds q u i).f.toNat /\ O 19 = .int .u32 (rnds q u i).g.toNat /\ O 20 = .int .u32 (rnds q u i).h.toNat /\ Y' = mkS G u (ws R)) 64 ?_ ?_
 ·exact ⟨0, by omega, ⟨by simp (disch:=first|omega|(simp only [lens];first|done|omega)) only [go_sem,nQ1,nQ2,nQ3,nQ4,nQ5,nQ6,nQ7,nQ8,s2],by simp (disch:=first|omega|(simp only [lens];first|done|omega)) only [go_sem,nQ1,nQ2,nQ3,nQ4,nQ5,nQ6,nQ7,nQ8,s3],by simp (disch:=first|omega|(simp only [lens];first|done|omega)) only [go_sem,nQ1,nQ2,nQ3,nQ4,nQ5,nQ6,nQ7,nQ8,s4],by simp (disch:=first|omega|(simp only [lens];first|done|omega)) only [go_sem,nQ1,nQ2,nQ3,nQ4,nQ5,nQ6,nQ7,nQ8,s5],by simp (disch:=first|omega|(simp only [lens];first|done|omega)) only [go_sem,nQ1,nQ2,nQ3,nQ4,nQ5,nQ6,nQ7,nQ8,s6],by simp (disch:=first|omega|(simp only [lens];first|done|omega)) only [go_sem,nQ1,nQ2,nQ3,nQ4,nQ5,nQ6,nQ7,nQ8,s7]⟩,by simp (disch:=first|omega|(simp only [lens];first|done|omega)) only [go_sem,nQ1,nQ2,nQ3,nQ4,nQ5,nQ6,nQ7,nQ8]; rfl,by simp (disch:=first|omega|(simp only [lens];first|done|omega)) only [go_sem,nQ1,nQ2,nQ3,nQ4,nQ5,nQ6,nQ7,nQ8,s13]; rfl,by simp (disch:=first|omega|(simp only [lens];first|done|omega)) only [go_sem,nQ1,nQ2,nQ3,nQ4,nQ5,nQ6,nQ7,nQ8,s14]; rfl,by simp (disch:=first|omega|(simp only [lens];first|done|omega)) only [go_sem,nQ1,nQ2,nQ3,nQ4,nQ5,nQ6,nQ7,nQ8,s15]; rfl,by simp (disch:=first|omega|(simp only [lens];first|done|omega)) only [go_sem,nQ1,nQ2,nQ3,nQ4,nQ5,nQ6,nQ7,nQ8,s16]; rfl,by simp (disch:=first|omega|(simp only [lens];first|done|omega)) only [go_sem,nQ1,nQ2,nQ3,nQ4,nQ5,nQ6,nQ7,nQ8,s17]; rfl,by simp (disch:=first|omega|(simp only [lens];first|done|omega)) only [go_sem,nQ1,nQ2,nQ3,nQ4,nQ5,nQ6,nQ7,nQ8,s18]; rfl,by simp (disch:=first|omega|(simp only [lens];first|done|omega)) only [go_sem,nQ1,nQ2,nQ3,nQ4,nQ5,nQ6,nQ7,nQ8,s19]; rfl,by simp (disch:=first|omega|(simp only [lens];first|done|omega)) only [go_sem,nQ1,nQ2,nQ3,nQ4,nQ5,nQ6,nQ7,nQ8,s20]; rfl,rfl⟩
 ·clear s2 s3 s4 s5 s6 s7 s13 s14 s15 s16 s17 s18 s19 s20
  rintro m O Y' ⟨i, hm, ⟨q2, q3, q4, q5, q6, q7⟩, q21, q13, q14, q15, q16, q17, q18, q19, q20, rfl⟩
  by_cases hi : i < 64
  ·have hk := k_get hi
   have hw := z7j (w := R) (i := i) (by omega)
   have hst := hst i
   generalize rnds q u i = v at *
   obtain ⟨a, b, c, d, e, f, g, h⟩ := v
   simp only at q13 q14 q15 q16 q17 q18 q19 q20
   generalize kAt i = kk at *
   generalize wat R i = ww at *
   generalize hpb : zh p = pb at *
   unfold mkS
   refine zs_ ?_
   refine zs_ ?_
   (refine zW.regS ?_; (simp (disch:=first|omega|(simp only [lens];first|done|omega)) only [go_sem,nQ1,nQ2,nQ3,nQ4,nQ5,nQ6,nQ7,nQ8,q21]))
   refine zt_ rfl ?_
   refine zk_ ?_
   simp (disch:=first|omega|(simp only [lens];first|done|omega)) only [go_sem,nQ1,nQ2,nQ3,nQ4,nQ5,nQ6,nQ7,nQ8]
   refine zs_ ?_
   refine zb_ ?_
   refine zs_ ?_
   (refine zW.regS ?_; (simp (disch:=first|omega|(simp only [lens];first|done|omega)) only [go_sem,nQ1,nQ2,nQ3,nQ4,nQ5,nQ6,nQ7,nQ8,q3,q6,q17,q18,q19,q20,q21,hwR,hk,hw,z8d]); repeat' (apply callW.za; (first | exact (zba _ _ _ (by omega))); all_goals try (simp (disch:=first|omega|(simp only [lens];first|done|omega)) only [go_sem,nQ1,nQ2,nQ3,nQ4,nQ5,nQ6,nQ7,nQ8,q3,q6,q17,q18,q19,q20,q21,hwR,hk,hw,z8d])))
   (refine zW.slots [2, 3, 4, 5, 6, 7, 13, 14, 15, 16, 17, 18, 19, 20, 21, 22] ?_; intro O2 hs; simp (disch:=first|omega|(simp only [lens];first|done|omega)) only [go_sem,nQ1,nQ2,nQ3,nQ4,nQ5,nQ6,nQ7,nQ8,q2,q3,q4,q5,q6,q7,q13,q14,q15,q16,q17,q18,q19,q20,q21] at hs; obtain ⟨s2,s3,s4,s5,s6,s7,s13,s14,s15,s16,s17,s18,s19,s20,s21,s22⟩ := hs)
   refine zs_ ?_
   (refine zW.regS ?_; (simp (disch:=first|omega|(simp only [lens];first|done|omega)) only [go_sem,nQ1,nQ2,nQ3,nQ4,nQ5,nQ6,nQ7,nQ8,s13,s14,s15]); repeat' (apply callW.za; (first | exact (zba _ _ _ (by omega))); all_goals try (simp (disch:=first|omega|(simp only [lens];first|done|omega)) only [go_sem,nQ1,nQ2,nQ3,nQ4,nQ5,nQ6,nQ7,nQ8,s13,s14,s15])))
   (refine zW.slots [2, 3, 4, 5, 6, 7, 13, 14, 15, 16, 17, 18, 19, 20, 21, 22, 23] ?_; intro O3 hs; simp (disch:=first|omega|(simp only [lens];first|done|omega)) only [go_sem,nQ1,nQ2,nQ3,nQ4,nQ5,nQ6,nQ7,nQ8,s2,s3,s4,s5,s6,s7,s13,s14,s15,s16,s17,s18,s19,s20,s21,s22] at hs; obtain ⟨s2,s3,s4,s5,s6,s7,s13,s14,s15,s16,s17,s18,s19,s20,s21,s22,s23⟩ := hs)
   (refine zW.regS ?_; (simp (disch:=first|omega|(simp only [lens];first|done|omega)) only [go_sem,nQ1,nQ2,nQ3,nQ4,nQ5,nQ6,nQ7,nQ8,s13,s14,s15,s16,s17,s18,s19,s22,s23]))
   (refine zW.slots [2, 3, 4, 5, 6, 7, 13, 14, 15, 16, 17, 18, 19, 20, 21] ?_; intro O4 hs; simp (disch:=first|omega|(simp only [lens];first|done|omega)) only [go_sem,nQ1,nQ2,nQ3,nQ4,nQ5,nQ6,nQ7,nQ8,s2,s3,s4,s5,s6,s7,s21] at hs; obtain ⟨s2,s3,s4,s5,s6,s7,s13,s14,s15,s16,s17,s18,s19,s20,s21⟩ := hs)
   (refine zW.regS ?_; (simp (disch:=first|omega|(simp only [lens];first|done|omega)) only [go_sem,nQ1,nQ2,nQ3,nQ4,nQ5,nQ6,nQ7,nQ8,s21]))
   refine ⟨64 - (i + 1), by omega, i + 1, by omega, ⟨s2, s3, s4, by rw [hpb]; exact s5, s6, s7⟩, by simp, ?_⟩
   rw [hst]
   simp only [rnd, bs1, chW, bs0, majW]
   exact ⟨s13, s14, s15, s16, s17, s18, s19, s20⟩
  ·obtain rfl : i = 64 := by omega
   rw [<- hU] at q13 q14 q15 q16 q17 q18 q19 q20
   clear hst hU hmix
   obtain ⟨a, b, c, d, e, f, g, h⟩ := U
   obtain ⟨a', b', c', d', e', f', g', h'⟩ := u
   simp only at q13 q14 q15 q16 q17 q18 q19 q20
   unfold mkS
   unfold mkS at hQ
   simp only [V8.add, V8.c8] at hQ
   simp only [V8.c8]
   generalize hpb : zh p = pb at *
   refine zs_ ?_
   refine zs_ ?_
   (refine zW.regS ?_; (simp (disch:=first|omega|(simp only [lens];first|done|omega)) only [go_sem,nQ1,nQ2,nQ3,nQ4,nQ5,nQ6,nQ7,nQ8,q21]))
   refine zf_ rfl ?_
   refine ze_ ?_
   simp (disch:=first|omega|(simp only [lens];first|done|omega)) only [go_sem,nQ1,nQ2,nQ3,nQ4,nQ5,nQ6,nQ7,nQ8]
   (refine zW.regS ?_; (simp (disch:=first|omega|(simp only [lens];first|done|omega)) only [go_sem,nQ1,nQ2,nQ3,nQ4,nQ5,nQ6,nQ7,nQ8,q4,q13,q14,q15,q16,q17,q18,q19,q20]))
   rw [BitVec.add_comm a' a, BitVec.add_comm b' b, BitVec.add_comm c' c, BitVec.add_comm d' d, BitVec.add_comm e' e, BitVec.add_comm f' f, BitVec.add_comm g' g, BitVec.add_comm h' h]
   exact hQ _ ⟨by simp (disch:=first|omega|(simp only [lens];first|done|omega)) only [go_sem,nQ1,nQ2,nQ3,nQ4,nQ5,nQ6,nQ7,nQ8,q2],by simp (disch:=first|omega|(simp only [lens];first|done|omega)) only [go_sem,nQ1,nQ2,nQ3,nQ4,nQ5,nQ6,nQ7,nQ8,q3],by simp (disch:=first|omega|(simp only [lens];first|done|omega)) only [go_sem,nQ1,nQ2,nQ3,nQ4,nQ5,nQ6,nQ7,nQ8,q4],(by simp (disch:=first|omega|(simp only [lens];first|done|omega)) only [go_sem,nQ1,nQ2,nQ3,nQ4,nQ5,nQ6,nQ7,nQ8,q5]; rw [hpb]),by simp (disch:=first|omega|(simp only [lens];first|done|omega)) only [go_sem,nQ1,nQ2,nQ3,nQ4,nQ5,nQ6,nQ7,nQ8,q6],by simp (disch:=first|omega|(simp only [lens];first|done|omega)) only [go_sem,nQ1,nQ2,nQ3,nQ4,nQ5,nQ6,nQ7,nQ8,q7]⟩
end
end
section
theorem sum_r1 {C : Ctx} {K : Env -> Store -> Prop} {H : Hist} {O : Env} {Y : Store} : zu C K qar1 H O Y = zu C K (qar1.drop 1) H (upd O 26 (.agg gl_sha_rounds)) Y := by kernel_rfl
theorem zlx {l : List W} {i : Nat} (h : i < 4 * l.length) : (l.flatMap fun x => be 4 x.toNat)[i]? = (be 4 (wat l (i / 4)).toNat)[i % 4]? := by
 induction l generalizing i with
 | nil => simp at h
 | cons x l ih =>
  have hb : (be 4 x.toNat).length = 4 := z34 _ _
  rw [List.flatMap_cons]
  by_cases hi : i < 4
  ·rw [List.getElem?_append_left (by omega), Nat.div_eq_of_lt hi, Nat.mod_eq_of_lt hi]; rfl
  ·simp only [List.length_cons] at h
   rw [List.getElem?_append_right (by omega), hb, ih (by omega), show i / 4 = (i - 4) / 4 + 1 by omega, show (i - 4) % 4 = i % 4 by omega]
   rfl
theorem zk4 (x : Nat) {j : Nat} (h : j < 4) : (be 4 x)[j]? = some (UInt8.ofNat (x / 2 ^ (24 - 8 * j))) := by
 have e : be 4 x = [UInt8.ofNat (x / 256 ^ 3), UInt8.ofNat (x / 256 ^ 2), UInt8.ofNat (x / 256 ^ 1), UInt8.ofNat (x / 256 ^ 0)] := by
  simp only [z7z]
  rfl
 rw [e]
 have hj : j = 0 \/ j = 1 \/ j = 2 \/ j = 3 := by omega
 rcases hj with rfl | rfl | rfl | rfl <;> rfl
theorem zow (v : V8) {i : Nat} (h : i < 32) : (outV v)[i]? = some (UInt8.ofNat ((wat v.l (i / 4)).toNat / 2 ^ (24 - 8 * (i % 4)))) := by
 unfold outV
 rw [zlx (by simp [V8.l]; omega), zk4 _ (Nat.mod_lt _ (by decide))]
def z3t (v : V8) (i : Nat) : List AV := zx ((outV v).take i) ++ List.replicate (32 - i) (.int .u8 0)
theorem zo4 (v : V8) {i : Nat} (h : i <= 32) : (z3t v i).length = 32 := by simp [z3t, z11, z4a]; omega
theorem zo5 (v : V8) {i : Nat} (h : i < 32) {b : Int} (hb : b = (((wat v.l (i / 4)).toNat / 2 ^ (24 - 8 * (i % 4)) % 256 : Nat) : Int)) :
  (z3t v i).take i ++ AV.int .u8 b :: (z3t v i).drop (i + 1) = z3t v (i + 1) := by
 have h1 : (zx ((outV v).take i)).length = i := by rw [z11, List.length_take, z4a]; omega
 have hg := zow v h
 have hs : (outV v).take (i + 1) = (outV v).take i ++ [UInt8.ofNat ((wat v.l (i / 4)).toNat / 2 ^ (24 - 8 * (i % 4)))] := by
  rw [List.take_add_one, hg]; rfl
 unfold z3t
 rw [List.take_append_of_le_length (by omega), List.take_of_length_le (by omega), List.drop_append, List.drop_of_length_le (by omega), h1, show i + 1 - i = 1 by omega, List.nil_append, hs]
 rw [List.drop_replicate, show 32 - i - 1 = 32 - (i + 1) by omega]
 simp [zx, hb]
set_option maxHeartbeats 8000000 in
theorem z77 (Y : Store) (s : List UInt8) (h : s.length < 900000000) : ACallsTo TC 76 [.str s] Y (.agg (zx (shaS s))) Y := by
 obtain ⟨p, hp⟩ : ∃ p, p = padS s := ⟨_, rfl⟩
 obtain ⟨hp1, hp2⟩ := zh9 s
 rw [<- hp] at hp1 hp2
 obtain ⟨N, hN⟩ : ∃ N, p.length = 64 * N := ⟨p.length / 64, by omega⟩
 obtain ⟨V, hV⟩ : ∃ V, V = blocks N v0 p := ⟨_, rfl⟩
 have hS : shaS s = outV V := by
  unfold shaS
  rw [<- hp, hV]
  have : p.length / 64 = N := by omega
  rw [this]
 rw [hS]
 have hf := fun Y => pad_to Y s (by omega)
 rw [<- hp] at hf
 refine ACallsTo.of_body qaok (by simp) fun hw _ => ?_
 refine zs_ ?_
 refine zr_ ?_
 simp (disch:=first|omega|(simp only [lens];first|done|omega)) only [go_sem,nQ1,nQ2,nQ3,nQ4,nQ5,nQ6,nQ7,nQ8]
 refine zs_ ?_
 refine zr_ ?_
 rw [sum_r1]
 simp (disch:=first|omega|(simp only [lens];first|done|omega)) only [go_sem,nQ1,nQ2,nQ3,nQ4,nQ5,nQ6,nQ7,nQ8,z8d]
 refine zs_ ?_
 refine zr_ ?_
 simp (disch:=first|omega|(simp only [lens];first|done|omega)) only [go_sem,nQ1,nQ2,nQ3,nQ4,nQ5,nQ6,nQ7,nQ8]
 refine zs_ ?_
 repeat' (first|apply zs_|apply zb_|apply zc_|apply zt_ rfl|apply zf_ rfl|(refine zd_ rfl (fun ht => ?_) (fun ht => ?_)<;>try (exfalso;omega))|((first|apply zr_|apply zk_|apply ze_|apply zq_|(apply callW.mk_pu; (first | exact (fun _ => hf _))) | (apply callW.za; (first | exact (hf _))) | ((first|apply zg0|apply zg1|apply zg2|apply zg3|apply zg4|apply zg5|apply zg6|apply zg7)<;>intro ht));all_goals try simp (disch:=first|omega|(simp only [lens];first|done|omega)) only [go_sem,nQ1,nQ2,nQ3,nQ4,nQ5,nQ6,nQ7,nQ8]))
 refine zW.loop (fun m O Y' => ∃ (u : V8) (n : Nat) (cells : List AV), n + 64 * m = p.length /\ Rk O Y.length p n /\ cells.length = 64 /\ blocks m u (p.drop n) = V /\ Y' = mkS Y u cells) N ?_ ?_
 ·exact ⟨v0, 0, List.replicate 64 (.int .u32 0), by omega, ⟨by simp (disch:=first|omega|(simp only [lens];first|done|omega)) only [go_sem,nQ1,nQ2,nQ3,nQ4,nQ5,nQ6,nQ7,nQ8],by simp (disch:=first|omega|(simp only [lens];first|done|omega)) only [go_sem,nQ1,nQ2,nQ3,nQ4,nQ5,nQ6,nQ7,nQ8],by simp (disch:=first|omega|(simp only [lens];first|done|omega)) only [go_sem,nQ1,nQ2,nQ3,nQ4,nQ5,nQ6,nQ7,nQ8],by simp (disch:=first|omega|(simp only [lens];first|done|omega)) only [go_sem,nQ1,nQ2,nQ3,nQ4,nQ5,nQ6,nQ7,nQ8],by simp (disch:=first|omega|(simp only [lens];first|done|omega)) only [go_sem,nQ1,nQ2,nQ3,nQ4,nQ5,nQ6,nQ7,nQ8],by simp (disch:=first|omega|(simp only [lens];first|done|omega)) only [go_sem,nQ1,nQ2,nQ3,nQ4,nQ5,nQ6,nQ7,nQ8]; rfl⟩,rfl,by rw [List.drop_zero]; exact hV.symm,rfl⟩
 ·rintro m O Y' ⟨u, n, cells, hn, ⟨q2, q3, q4, q5, q6, q7⟩, hc, hb, rfl⟩
  have hpb := zl p
  cases m with
  | succ m =>
   refine zs_ ?_
   refine zs_ ?_
   (refine zW.regS ?_; (simp (disch:=first|omega|(simp only [lens];first|done|omega)) only [go_sem,nQ1,nQ2,nQ3,nQ4,nQ5,nQ6,nQ7,nQ8,q5,q7,hpb]))
   refine zt_ rfl ?_
   refine zk_ ?_
   simp (disch:=first|omega|(simp only [lens];first|done|omega)) only [go_sem,nQ1,nQ2,nQ3,nQ4,nQ5,nQ6,nQ7,nQ8]
   refine zs_ ?_
   refine zb_ ?_
   refine zs_ ?_
   refine zra (p := p) (n := n) (u := u) (cells := cells) ⟨by simp (disch:=first|omega|(simp only [lens];first|done|omega)) only [go_sem,nQ1,nQ2,nQ3,nQ4,nQ5,nQ6,nQ7,nQ8,q2],by simp (disch:=first|omega|(simp only [lens];first|done|omega)) only [go_sem,nQ1,nQ2,nQ3,nQ4,nQ5,nQ6,nQ7,nQ8,q3],by simp (disch:=first|omega|(simp only [lens];first|done|omega)) only [go_sem,nQ1,nQ2,nQ3,nQ4,nQ5,nQ6,nQ7,nQ8,q4],by simp (disch:=first|omega|(simp only [lens];first|done|omega)) only [go_sem,nQ1,nQ2,nQ3,nQ4,nQ5,nQ6,nQ7,nQ8,q5],by simp (disch:=first|omega|(simp only [lens];first|done|omega)) only [go_sem,nQ1,nQ2,nQ3,nQ4,nQ5,nQ6,nQ7,nQ8,q6],by simp (disch:=first|omega|(simp only [lens];first|done|omega)) only [go_sem,nQ1,nQ2,nQ3,nQ4,nQ5,nQ6,nQ7,nQ8,q7]⟩ (by omega) (by omega) hc ?_
   intro O1 rest hr K1
   refine zs_ ?_
   refine zr9 K1 hr ?_
   intro O2 K2
   refine zr8 K2 ?_
   intro O3 ⟨t2, t3, t4, t5, t6, t7⟩
   simp only [z25, blkQ]
   (refine zW.regS ?_; (simp (disch:=first|omega|(simp only [lens];first|done|omega)) only [go_sem,nQ1,nQ2,nQ3,nQ4,nQ5,nQ6,nQ7,nQ8,t7]))
   refine ⟨m, by omega, mixS u ((p.drop n).take 64), n + 64, ws (zy ((p.drop n).take 64) 64), by omega, ⟨by simp (disch:=first|omega|(simp only [lens];first|done|omega)) only [go_sem,nQ1,nQ2,nQ3,nQ4,nQ5,nQ6,nQ7,nQ8,t2],by simp (disch:=first|omega|(simp only [lens];first|done|omega)) only [go_sem,nQ1,nQ2,nQ3,nQ4,nQ5,nQ6,nQ7,nQ8,t3],by simp (disch:=first|omega|(simp only [lens];first|done|omega)) only [go_sem,nQ1,nQ2,nQ3,nQ4,nQ5,nQ6,nQ7,nQ8,t4],by simp (disch:=first|omega|(simp only [lens];first|done|omega)) only [go_sem,nQ1,nQ2,nQ3,nQ4,nQ5,nQ6,nQ7,nQ8,t5],by simp (disch:=first|omega|(simp only [lens];first|done|omega)) only [go_sem,nQ1,nQ2,nQ3,nQ4,nQ5,nQ6,nQ7,nQ8,t6],by simp (disch:=first|omega|(simp only [lens];first|done|omega)) only [go_sem,nQ1,nQ2,nQ3,nQ4,nQ5,nQ6,nQ7,nQ8]; rw [Int.natCast_add]; rfl⟩,by rw [z3o,z3v],?_,rfl⟩
   rw [<- hb, blocks, List.drop_drop]
  | zero =>
   have hd : p.drop n = [] := List.drop_of_length_le (by omega)
   rw [hd] at hb
   have hu : u = V := hb
   subst hu
   clear hb hd hV
   unfold mkS
   repeat' (first|apply zs_|apply zb_|apply zc_|apply zt_ rfl|apply zf_ rfl|(refine zd_ rfl (fun ht => ?_) (fun ht => ?_)<;>try (exfalso;omega))|((first|apply zr_|apply zk_|apply ze_|apply zq_|((first|apply zg0|apply zg1|apply zg2|apply zg3|apply zg4|apply zg5|apply zg6|apply zg7)<;>intro ht));all_goals try simp (disch:=first|omega|(simp only [lens];first|done|omega)) only [go_sem,nQ1,nQ2,nQ3,nQ4,nQ5,nQ6,nQ7,nQ8,q5,q7,hpb]))
   refine zW.loop (fun m O Y' => ∃ i : Nat, m + i = 32 /\ O 2 = .ptr Y.length 0 0 /\ O 4 = .ptr (Y.length + 2) 0 0 /\ O 24 = .ptr (Y.length + 4) 0 0 /\ O 25 = .int .i64 i /\ Y' = Y ++ [some [z32], some [gl_sha_rounds], some [u.c8], some [cells], some [z3t u i]]) 32 ?_ ?_
   ·exact ⟨0, by omega, by simp (disch:=first|omega|(simp only [lens];first|done|omega)) only [go_sem,nQ1,nQ2,nQ3,nQ4,nQ5,nQ6,nQ7,nQ8,q2],by simp (disch:=first|omega|(simp only [lens];first|done|omega)) only [go_sem,nQ1,nQ2,nQ3,nQ4,nQ5,nQ6,nQ7,nQ8,q4],by simp (disch:=first|omega|(simp only [lens];first|done|omega)) only [go_sem,nQ1,nQ2,nQ3,nQ4,nQ5,nQ6,nQ7,nQ8],by simp (disch:=first|omega|(simp only [lens];first|done|omega)) only [go_sem,nQ1,nQ2,nQ3,nQ4,nQ5,nQ6,nQ7,nQ8]; rfl,rfl⟩
   ·clear q2 q3 q4 q5 q6 q7
    rintro m O Y' ⟨i, hm, q2, q4, q24, q25, rfl⟩
    have hlen := zo4 u (i := i) (by omega)
    have h8 : u.c8.length = 8 := rfl
    have hz : z32.length = 32 := rfl
    by_cases hi : i < 32
    ·have hst := zo5 u hi (b := ((((wat u.l (i / 4)).toNat / 2 ^ (24 - 8 * (i % 4)) % 256 : Nat)) : Int)) rfl
     have hw := z7j (w := u.l) (i := i / 4) (by simp [V8.l]; omega)
     rw [ws_l] at hw
     generalize wat u.l (i / 4) = x at *
     generalize z3t u i = cc at *
     have hd4 : ((i : Int) / 4).toNat = i / 4 := by omega
     have hsh : (24 - 8 * ((i : Int) % 4)).toNat = 24 - 8 * (i % 4) := by omega
     repeat' (first | refine zs_ ?_ | refine zb_ ?_ | refine zc_ ?_ | refine zt_ rfl ?_ | refine zf_ rfl ?_ | (refine zd_ rfl (fun ht => ?_) (fun ht => ?_) <;> try (exfalso; omega)) | ((first | refine zW.regS ?_ | refine zk_ ?_ | refine ze_ ?_ | refine zq_ ?_ | ((first|apply zg0|apply zg1|apply zg2|apply zg3|apply zg4|apply zg5|apply zg6|apply zg7)<;>intro ht));all_goals try simp (disch:=first|omega|(simp only [lens];first|done|omega)) only [go_sem,nQ1,nQ2,nQ3,nQ4,nQ5,nQ6,nQ7,nQ8,q2,q4,q24,q25,hlen,h8,hw,hd4,hsh]))
     refine ⟨32 - (i + 1), by omega, i + 1, by omega, by simp, ?_⟩
     rw [BitVec.toNat_ushiftRight, Nat.shiftRight_eq_div_pow, <- hst, Int.natCast_emod]
     rfl
    ·obtain rfl : i = 32 := by omega
     have e32 : z3t u 32 = zx (outV u) := by
      unfold z3t
      rw [List.take_of_length_le (by rw [z4a]; decide)]
      exact List.append_nil _
     have hd : List.drop 32 z32 = [] := rfl
     have hl : (zx (outV u)).length = 32 := by rw [z11, z4a]
     rw [e32] at *
     repeat' (first|apply zs_|apply zb_|apply zc_|apply zt_ rfl|apply zf_ rfl|(refine zd_ rfl (fun ht => ?_) (fun ht => ?_)<;>try (exfalso;omega))|((first|apply zr_|apply zk_|apply ze_|apply zq_|((first|apply zg0|apply zg1|apply zg2|apply zg3|apply zg4|apply zg5|apply zg6|apply zg7)<;>intro ht));all_goals try simp (disch:=first|omega|(simp only [lens];first|done|omega)) only [go_sem,nQ1,nQ2,nQ3,nQ4,nQ5,nQ6,nQ7,nQ8,q2,q4,q24,q25,hl,h8,hd,hz]))
     exact DownV.pure hw (z2x (z2c _))
end
section
set_option maxRecDepth 10000
@[go_sem] def qhr0 : List AIns := [
 ⟨some 1,none,.no,.box (.t 0)⟩,
 ⟨some 2,none,.no,.alloc zZ0⟩]
@[go_sem] def qhr1 : List AIns := [
 ⟨some 4,none,.no,.load false 1 (.t 1)⟩,
 ⟨some 5,none,.no,.lenSl (.t 4)⟩,
 ⟨some 6,none,.no,.bin .eql .none (.t 5) (.v (.int .i64 0))⟩]
@[go_sem] def qhr2 : List AIns := [
 ⟨some 7,none,.no,.call (.v (.fn 72 [])) [(.v (.str []))]⟩,
 ⟨none,none,.no,.store 32 (.t 2) (.t 7)⟩]
def qhc3 : ACode := .seq (.reg qhr2) .ret
def qhc4 : ACode := .cond (.t 6) qhc3 .skip
def qhc5 : ACode := .seq (.reg qhr1) qhc4
@[go_sem] def qhr6 : List AIns := [
 ⟨some 3,none,.no,.alloc [.nilfn]⟩]
@[go_sem] def qhr7 : List AIns := [
 ⟨some 8,none,.no,.mkfn 77 [(.t 1), (.t 3)]⟩,
 ⟨none,none,.no,.store 1 (.t 3) (.t 8)⟩]
@[go_sem] def qhr8 : List AIns := [
 ⟨some 9,none,.no,.load false 1 (.t 3)⟩,
 ⟨some 10,none,.no,.load false 1 (.t 1)⟩,
 ⟨some 11,none,.no,.lenSl (.t 10)⟩,
 ⟨some 12,none,.no,.call (.t 9) [(.v (.int .i64 0)), (.t 11)]⟩,
 ⟨none,none,.no,.store 32 (.t 2) (.t 12)⟩]
def qhc9 : ACode := .seq (.reg qhr8) .ret
def qhc10 : ACode := .seq (.reg qhr7) qhc9
def qhc11 : ACode := .seq (.reg qhr6) qhc10
def qhc12 : ACode := .seq qhc5 qhc11
def qhc13 : ACode := .seq (.reg qhr0) qhc12
theorem qhok : cFn TC 45 = some (13, [.c 2 true 32], qhc13) := by kernel_rfl
@[go_sem] def qir0 : List AIns := [
 ⟨some 2,none,.no,.box (.t 0)⟩,
 ⟨some 3,none,.no,.box (.t 1)⟩,
 ⟨some 4,none,.no,.alloc zZ0⟩]
@[go_sem] def qir1 : List AIns := [
 ⟨some 5, none, .rd, .load true 32 (.t 2)⟩,
 ⟨some 6, none, .ef, .call (.v (.fn 99 [])) [(.t 5)]⟩,
 ⟨some 7,none,.no,.bin .add .none (.v (.str [1])) (.t 6)⟩,
 ⟨some 8, none, .rd, .load true 32 (.t 3)⟩,
 ⟨some 9,none,.no,.call (.v (.fn 99 [])) [(.t 8)]⟩,
 ⟨some 10,none,.no,.bin .add .none (.t 7) (.t 9)⟩,
 ⟨some 11,none,.no,.call (.v (.fn 72 [])) [(.t 10)]⟩,
 ⟨none,none,.no,.store 32 (.t 4) (.t 11)⟩]
def qic2 : ACode := .seq (.reg qir1) .ret
def qic3 : ACode := .seq (.reg qir0) qic2
theorem qiok : cFn TC 78 = some (12, [.c 4 true 32], qic3) := by kernel_rfl
@[go_sem] def qjr0 : List AIns := [
 ⟨some 2,none,.no,.mv (.v (.int .i64 0))⟩]
@[go_sem] def qjr1 : List AIns := [
 ⟨some 4,none,.no,.mv (.t 0)⟩,
 ⟨some 5,none,.no,.bin .lss .none (.t 4) (.v (.int .i64 2))⟩]
@[go_sem] def qjr2 : List AIns := [
 ⟨some 2,none,.no,.mv (.v (.int .i64 0))⟩]
def qjc3 : ACode := .seq (.reg qjr2) .ret
def qjc4 : ACode := .cond (.t 5) qjc3 .skip
def qjc5 : ACode := .seq (.reg qjr1) qjc4
@[go_sem] def qjr6 : List AIns := [
 ⟨some 3,none,.no,.mv (.v (.int .i64 1))⟩]
@[go_sem] def qjr7 : List AIns := [
 ⟨some 6,none,.no,.mv (.t 3)⟩,
 ⟨some 7,none,.no,.mv (.t 0)⟩,
 ⟨some 8,none,.no,.mv (.t 3)⟩,
 ⟨some 9,none,.no,.bin .sub .none (.t 7) (.t 8)⟩,
 ⟨some 10,none,.no,.bin .lss .none (.t 6) (.t 9)⟩]
def qjc8 : ACode := .cond (.t 10) .skip (.exit 0)
def qjc9 : ACode := .seq (.reg qjr7) qjc8
@[go_sem] def qjr10 : List AIns := [
 ⟨some 11,none,.no,.mv (.t 3)⟩,
 ⟨some 12,none,.no,.bin .mul .none (.t 11) (.v (.int .i64 2))⟩,
 ⟨some 3,none,.no,.mv (.t 12)⟩]
def qjc11 : ACode := .block 1 (.reg qjr10)
def qjc12 : ACode := .seq qjc9 qjc11
def qjc13 : ACode := .loop qjc12
@[go_sem] def qjr14 : List AIns := [
 ⟨some 13,none,.no,.mv (.t 3)⟩,
 ⟨some 2,none,.no,.mv (.t 13)⟩]
def qjc15 : ACode := .seq (.reg qjr14) .ret
def qjc16 : ACode := .seq (.block 0 qjc13) qjc15
def qjc17 : ACode := .seq (.reg qjr6) qjc16
def qjc18 : ACode := .seq qjc5 qjc17
def qjc19 : ACode := .seq (.reg qjr0) qjc18
theorem qjok : cFn TC 74 = some (14, [.t 2], qjc19) := by kernel_rfl
@[go_sem] def qkr0 : List AIns := [
 ⟨some 6,none,.no,.alloc zZ0⟩]
@[go_sem] def qkr1 : List AIns := [
 ⟨some 8,none,.no,.mv (.t 1)⟩,
 ⟨some 9,none,.no,.mv (.t 0)⟩,
 ⟨some 10,none,.no,.bin .sub .none (.t 8) (.t 9)⟩,
 ⟨some 11,none,.no,.call (.v (.fn 74 [])) [(.t 10)]⟩,
 ⟨some 7,none,.no,.mv (.t 11)⟩]
@[go_sem] def qkr2 : List AIns := [
 ⟨some 12,none,.no,.mv (.t 7)⟩,
 ⟨some 13,none,.no,.bin .eql .none (.t 12) (.v (.int .i64 0))⟩]
@[go_sem] def qkr3 : List AIns := [
 ⟨some 14,none,.no,.load false 1 (.t 2)⟩,
 ⟨some 15,none,.no,.mv (.t 0)⟩,
 ⟨some 16,none,.no,.iaSl 32 (.t 14) (.t 15)⟩,
 ⟨some 17,none,.no,.load true 32 (.t 16)⟩,
 ⟨none,none,.no,.store 32 (.t 6) (.t 17)⟩]
def qkc4 : ACode := .seq (.reg qkr3) .ret
def qkc5 : ACode := .cond (.t 13) qkc4 .skip
def qkc6 : ACode := .seq (.reg qkr2) qkc5
@[go_sem] def qkr7 : List AIns := [
 ⟨some 18, none, .rd, .load false 1 (.t 3)⟩,
 ⟨some 19,none,.no,.mv (.t 0)⟩,
 ⟨some 20,none,.no,.mv (.t 0)⟩,
 ⟨some 21,none,.no,.mv (.t 7)⟩,
 ⟨some 22,none,.no,.bin .add .none (.t 20) (.t 21)⟩,
 ⟨some 23, none, .ef, .call (.t 18) [(.t 19), (.t 22)]⟩,
 ⟨some 24, none, .rd, .load false 1 (.t 3)⟩,
 ⟨some 25,none,.no,.mv (.t 0)⟩,
 ⟨some 26,none,.no,.mv (.t 7)⟩,
 ⟨some 27,none,.no,.bin .add .none (.t 25) (.t 26)⟩,
 ⟨some 28,none,.no,.mv (.t 1)⟩,
 ⟨some 29,none,.no,.call (.t 24) [(.t 27), (.t 28)]⟩,
 ⟨some 30,none,.no,.call (.v (.fn 78 [])) [(.t 23), (.t 29)]⟩,
 ⟨none,none,.no,.store 32 (.t 6) (.t 30)⟩]
def qkc8 : ACode := .seq (.reg qkr7) .ret
def qkc9 : ACode := .seq qkc6 qkc8
def qkc10 : ACode := .seq (.reg qkr1) qkc9
def qkc11 : ACode := .seq (.reg qkr0) qkc10
theorem qkok : cFn TC 77 = some (31, [.c 6 true 32], qkc11) := by kernel_rfl
@[go_sem] def qlr0 : List AIns := [
 ⟨some 2,none,.no,.alloc zZ0⟩]
@[go_sem] def qlr1 : List AIns := [
 ⟨some 4,none,.no,.mv (.t 0)⟩,
 ⟨some 5,none,.no,.lenSl (.t 4)⟩,
 ⟨some 6,none,.no,.bin .eql .none (.t 5) (.v (.int .i64 0))⟩]
@[go_sem] def qlr2 : List AIns := [
 ⟨some 7,none,.no,.call (.v (.fn 76 [])) [(.v (.str []))]⟩,
 ⟨none,none,.no,.store 32 (.t 2) (.t 7)⟩]
def qlc3 : ACode := .seq (.reg qlr2) .ret
def qlc4 : ACode := .cond (.t 6) qlc3 .skip
def qlc5 : ACode := .seq (.reg qlr1) qlc4
@[go_sem] def qlr6 : List AIns := [
 ⟨some 8,none,.no,.mv (.t 0)⟩,
 ⟨some 9,none,.no,.lenSl (.t 8)⟩,
 ⟨some 10,none,.no,.bin .eql .none (.t 9) (.v (.int .i64 1))⟩]
@[go_sem] def qlr7 : List AIns := [
 ⟨some 11,none,.no,.mv (.t 0)⟩,
 ⟨some 12,none,.no,.iaSl 32 (.t 11) (.v (.int .i64 0))⟩,
 ⟨some 13,none,.no,.load true 32 (.t 12)⟩,
 ⟨none,none,.no,.store 32 (.t 2) (.t 13)⟩]
def qlc8 : ACode := .seq (.reg qlr7) .ret
def qlc9 : ACode := .cond (.t 10) qlc8 .skip
def qlc10 : ACode := .seq (.reg qlr6) qlc9
@[go_sem] def qlr11 : List AIns := [
 ⟨some 14,none,.no,.mv (.t 0)⟩,
 ⟨some 15,none,.no,.lenSl (.t 14)⟩,
 ⟨some 16,none,.no,.call (.v (.fn 55 [])) [(.t 15)]⟩,
 ⟨some 3,none,.no,.mv (.t 16)⟩]
@[go_sem] def qlr12 : List AIns := [
 ⟨some 17,none,.no,.mv (.t 0)⟩,
 ⟨some 18,none,.no,.mv (.t 3)⟩,
 ⟨some 19,none,.no,.slice (.sl 32) (.t 17) none (some (.t 18)) none⟩,
 ⟨some 20,none,.no,.call (.v (.fn 56 [])) [(.t 19)]⟩,
 ⟨some 21,none,.no,.mv (.t 0)⟩,
 ⟨some 22,none,.no,.mv (.t 3)⟩,
 ⟨some 23,none,.no,.slice (.sl 32) (.t 21) (some (.t 22)) none none⟩,
 ⟨some 24,none,.no,.call (.v (.fn 56 [])) [(.t 23)]⟩,
 ⟨some 25,none,.no,.call (.v (.fn 88 [])) [(.t 20), (.t 24)]⟩,
 ⟨none,none,.no,.store 32 (.t 2) (.t 25)⟩]
def qlc13 : ACode := .seq (.reg qlr12) .ret
def qlc14 : ACode := .seq (.reg qlr11) qlc13
def qlc15 : ACode := .seq qlc10 qlc14
def qlc16 : ACode := .seq qlc5 qlc15
def qlc17 : ACode := .seq (.reg qlr0) qlc16
theorem qlok : cFn TC 56 = some (26, [.c 2 true 32], qlc17) := by kernel_rfl
@[go_sem] def qmr0 : List AIns := [
 ⟨some 2,none,.no,.box (.t 0)⟩,
 ⟨some 3,none,.no,.box (.t 1)⟩,
 ⟨some 4,none,.no,.alloc zZ0⟩]
@[go_sem] def qmr1 : List AIns := [
 ⟨some 5, none, .rd, .load true 32 (.t 2)⟩,
 ⟨some 6, none, .ef, .call (.v (.fn 102 [])) [(.t 5)]⟩,
 ⟨some 7,none,.no,.bin .add .none (.v (.str [1])) (.t 6)⟩,
 ⟨some 8, none, .rd, .load true 32 (.t 3)⟩,
 ⟨some 9,none,.no,.call (.v (.fn 102 [])) [(.t 8)]⟩,
 ⟨some 10,none,.no,.bin .add .none (.t 7) (.t 9)⟩,
 ⟨some 11,none,.no,.call (.v (.fn 76 [])) [(.t 10)]⟩,
 ⟨none,none,.no,.store 32 (.t 4) (.t 11)⟩]
def qmc2 : ACode := .seq (.reg qmr1) .ret
def qmc3 : ACode := .seq (.reg qmr0) qmc2
theorem qmok : cFn TC 88 = some (12, [.c 4 true 32], qmc3) := by kernel_rfl
@[go_sem] def qnr0 : List AIns := [
 ⟨some 1,none,.no,.box (.t 0)⟩,
 ⟨some 2,none,.no,.mv (.v (.str []))⟩]
@[go_sem] def qnr1 : List AIns := [
 ⟨some 3,none,.no,.mv (.v .nilsl)⟩]
@[go_sem] def qnr2 : List AIns := [
 ⟨some 4,none,.no,.mv (.v (.int .i64 0))⟩]
@[go_sem] def qnr3 : List AIns := [
 ⟨some 5,none,.no,.mv (.t 4)⟩,
 ⟨some 6,none,.no,.bin .lss .none (.t 5) (.v (.int .i64 32))⟩]
def qnc4 : ACode := .cond (.t 6) .skip (.exit 0)
def qnc5 : ACode := .seq (.reg qnr3) qnc4
@[go_sem] def qnr6 : List AIns := [
 ⟨some 9,none,.no,.mv (.t 3)⟩,
 ⟨some 10,none,.no,.mv (.t 4)⟩,
 ⟨some 11,none,.no,.iaArr 32 1 (.t 1) (.t 10)⟩,
 ⟨some 12,none,.no,.load false 1 (.t 11)⟩,
 ⟨some 13,none,.no,.lit 1 [(.t 12)]⟩,
 ⟨some 14,none,.no,.appB (.t 9) (.t 13)⟩,
 ⟨some 3,none,.no,.mv (.t 14)⟩]
@[go_sem] def qnr7 : List AIns := [
 ⟨some 7,none,.no,.mv (.t 4)⟩,
 ⟨some 8,none,.no,.bin .add .none (.t 7) (.v (.int .i64 1))⟩,
 ⟨some 4,none,.no,.mv (.t 8)⟩]
def qnc8 : ACode := .seq (.block 1 (.reg qnr6)) (.reg qnr7)
def qnc9 : ACode := .seq qnc5 qnc8
def qnc10 : ACode := .loop qnc9
def qnc11 : ACode := .block 0 qnc10
def qnc12 : ACode := .seq (.reg qnr2) qnc11
@[go_sem] def qnr13 : List AIns := [
 ⟨some 15,none,.no,.mv (.t 3)⟩,
 ⟨some 16,none,.no,.conv .str (.t 15)⟩,
 ⟨some 2,none,.no,.mv (.t 16)⟩]
def qnc14 : ACode := .seq (.reg qnr13) .ret
def qnc15 : ACode := .seq qnc12 qnc14
def qnc16 : ACode := .seq (.reg qnr1) qnc15
def qnc17 : ACode := .seq (.reg qnr0) qnc16
theorem qnok : cFn TC 102 = some (17, [.t 2], qnc17) := by kernel_rfl
@[go_sem] def qor0 : List AIns := [
 ⟨some 1,none,.no,.box (.t 0)⟩,
 ⟨some 2,none,.no,.mv (.v (.str []))⟩]
@[go_sem] def qor1 : List AIns := [
 ⟨some 3,none,.no,.slice (.arr 32 1) (.t 1) none none none⟩,
 ⟨some 4,none,.no,.conv .str (.t 3)⟩,
 ⟨some 2,none,.no,.mv (.t 4)⟩]
def qoc2 : ACode := .seq (.reg qor1) .ret
def qoc3 : ACode := .seq (.reg qor0) qoc2
theorem qook : cFn TC 99 = some (5, [.t 2], qoc3) := by kernel_rfl
@[go_sem] def qpr0 : List AIns := [
 ⟨some 2,none,.no,.mv (.v (.int .i64 0))⟩]
@[go_sem] def qpr1 : List AIns := [
 ⟨some 3,none,.no,.mv (.v (.int .i64 0))⟩]
@[go_sem] def qpr2 : List AIns := [
 ⟨some 4,none,.no,.mv (.v (.int .i64 1))⟩]
@[go_sem] def qpr3 : List AIns := [
 ⟨some 5,none,.no,.mv (.t 4)⟩,
 ⟨some 6,none,.no,.mv (.t 0)⟩,
 ⟨some 7,none,.no,.bin .lss .none (.t 5) (.t 6)⟩,
 ⟨some 8,none,.no,.mv (.t 7)⟩,
 ⟨some 9, some (8, true), .no, .mv (.t 4)⟩,
 ⟨some 10, some (8, true), .no, .bin .gtr .none (.t 9) (.v (.int .i64 0))⟩,
 ⟨some 11,none,.no,.pick (.t 8) (.t 10) (.v (.bool false))⟩]
def qpc4 : ACode := .cond (.t 11) .skip (.exit 0)
def qpc5 : ACode := .seq (.reg qpr3) qpc4
@[go_sem] def qpr6 : List AIns := [
 ⟨some 14,none,.no,.mv (.t 4)⟩,
 ⟨some 3,none,.no,.mv (.t 14)⟩]
@[go_sem] def qpr7 : List AIns := [
 ⟨some 12,none,.no,.mv (.t 4)⟩,
 ⟨some 13,none,.no,.bin .mul .none (.t 12) (.v (.int .i64 2))⟩,
 ⟨some 4,none,.no,.mv (.t 13)⟩]
def qpc8 : ACode := .seq (.block 1 (.reg qpr6)) (.reg qpr7)
def qpc9 : ACode := .seq qpc5 qpc8
def qpc10 : ACode := .loop qpc9
def qpc11 : ACode := .block 0 qpc10
def qpc12 : ACode := .seq (.reg qpr2) qpc11
@[go_sem] def qpr13 : List AIns := [
 ⟨some 15,none,.no,.mv (.t 3)⟩,
 ⟨some 2,none,.no,.mv (.t 15)⟩]
def qpc14 : ACode := .seq (.reg qpr13) .ret
def qpc15 : ACode := .seq qpc12 qpc14
def qpc16 : ACode := .seq (.reg qpr1) qpc15
def qpc17 : ACode := .seq (.reg qpr0) qpc16
theorem qpok : cFn TC 55 = some (16, [.t 2], qpc17) := by kernel_rfl
end
section
theorem zdr (s : List UInt8) : (shaS s).length = 32 := z4a _
def z2v (a b : List UInt8) : List UInt8 := shaS (1 :: (a ++ b))
theorem zaf (a b : List UInt8) : (z2v a b).length = 32 := zdr _
theorem zby : ∀ (l : List UInt8), chunk 1 l.length (zx l) = zh l
 | [] => rfl
 | b :: l => by
  have := zby l
  simp only [zx, zh] at this
  simp [zx, zh, chunk, B8] at this ⊢
  exact this
theorem z88 (Y : Store) (h : List UInt8) (hl : h.length = 32) : ACallsTo TC 99 [.agg (zx h)] Y (.str h) Y := by
 refine ACallsTo.of_body qook (by simp) fun hw _ => ?_
 have h1 := z11 h
 have hc := zby h
 rw [hl] at h1 hc
 repeat' (first|apply zs_|apply zb_|apply zc_|apply zt_ rfl|apply zf_ rfl|(refine zd_ rfl (fun ht => ?_) (fun ht => ?_)<;>try (exfalso;omega))|((first|apply zr_|apply zk_|apply ze_|apply zq_|((first|apply zg0|apply zg1|apply zg2|apply zg3|apply zg4|apply zg5|apply zg6|apply zg7)<;>intro ht));all_goals try simp (disch:=first|omega|(simp only [lens];first|done|omega)) only [go_sem,nQ1,nQ2,nQ3,nQ4,nQ5,nQ6,nQ7,nQ8,h1,hc]))
 exact DownV.pure hw (z14 _ rfl)
def OwnN (sz : Nat) (G Y' : Store) (v : AV) (es : List (List AV)) : Prop :=
 ∃ news, Y' = G ++ news /\ ((es = [] /\ v = .nilsl) \/ ∃ j, es ≠ [] /\ v = .sl (G.length + j) 0 es.length none sz /\ news[j]? = some (some es))
theorem OwnN.len {sz : Nat} {G Y' : Store} {v : AV} {es : List (List AV)} (h : OwnN sz G Y' v es) : z1j v = some (.int .i64 es.length) := by
 obtain ⟨news, rfl, ⟨rfl, rfl⟩ | ⟨j, _, rfl, h⟩⟩ := h <;> rfl
theorem OwnN.appB {sz : Nat} {G Y' : Store} {v : AV} {es ys : List (List AV)} (h : OwnN sz G Y' v es) : z2f Y' v ys = aApp Y' 1 v ys := by
 obtain ⟨news, rfl, ⟨rfl, rfl⟩ | ⟨j, _, rfl, h⟩⟩ := h <;> rfl
theorem OwnN.nil {sz : Nat} {G news : Store} : OwnN sz G (G ++ news) .nilsl [] := ⟨news, rfl, .inl ⟨rfl, rfl⟩⟩
theorem OwnN.ext {sz : Nat} {G Y' : Store} {v : AV} {es : List (List AV)} (h : OwnN sz G Y' v es) : ∃ news, Y' = G ++ news := by
 obtain ⟨news, h, _⟩ := h; exact ⟨news, h⟩
theorem OwnN.more {sz : Nat} {G Y' : Store} {v : AV} {es : List (List AV)} (h : OwnN sz G Y' v es) (y : Store) : OwnN sz G (Y' ++ y) v es := by
 obtain ⟨news, rfl, h | ⟨j, h0, rfl, h⟩⟩ := h
 ·exact ⟨news ++ y, by rw [List.append_assoc], .inl h⟩
 ·exact ⟨news ++ y, by rw [List.append_assoc], .inr ⟨j, h0, rfl, by rw [List.getElem?_append_left (List.getElem?_eq_some_iff.1 h).1]; exact h⟩⟩
theorem OwnN.app {sz : Nat} {G Y' : Store} {v : AV} {es ys : List (List AV)} (h : OwnN sz G Y' v es) (h0 : ys.length ≠ 0) (hl : es.length + ys.length <= 1073741824) :
  ∃ v' Y'', aApp Y' sz v ys = some (v', Y'') /\ OwnN sz G Y'' v' (es ++ ys) := by
 have hne : es ++ ys ≠ [] := fun e => h0 (by rw [(List.append_eq_nil_iff.1 e).2]; rfl)
 obtain ⟨news, rfl, ⟨rfl, rfl⟩ | ⟨j, _, rfl, h⟩⟩ := h
 ·refine ⟨_, _, by rw [z9r, if_neg h0, if_pos (by simpa using hl)], news ++ [some ys], by rw [List.append_assoc], .inr ⟨news.length, hne, by simp, by rw [List.getElem?_append_right (Nat.le_refl _)]; simp⟩⟩
 ·have hj := (List.getElem?_eq_some_iff.1 h).1
  have hg : (G ++ news)[G.length + j]? = some (some es) := by rw [List.getElem?_append_right (by omega), Nat.add_sub_cancel_left]; exact h
  refine ⟨.sl (G ++ news).length 0 (es.length + ys.length) none sz, (G ++ news).set (G.length + j) none ++ [some (es ++ ys)], ?_, news.set j none ++ [some (es ++ ys)], ?_, .inr ⟨news.length, hne, by simp, by rw [List.getElem?_append_right (by simp)]; simp⟩⟩
  ·rw [z7w, if_neg h0, hg]
   simp only
   rw [if_pos ⟨trivial, by omega, by omega⟩, if_neg (by omega), List.drop_zero, List.take_of_length_le (Nat.le_refl _)]
  ·rw [List.set_append_right _ _ (by omega), Nat.add_sub_cancel_left, List.append_assoc]
theorem OwnN.sl {sz : Nat} {G Y' : Store} {v : AV} {es : List (List AV)} (h : OwnN sz G Y' v es) (h0 : es ≠ []) : ∃ r, v = .sl r 0 es.length none sz /\ Y'[r]? = some (some es) /\ G.length <= r := by
 obtain ⟨news, rfl, ⟨rfl, rfl⟩ | ⟨j, _, rfl, h⟩⟩ := h
 ·exact absurd rfl h0
 ·exact ⟨_, rfl, by rw [List.getElem?_append_right (by omega), Nat.add_sub_cancel_left]; exact h, by omega⟩
def SlV (sz : Nat) (es : List (List AV)) (x : AV) : Prop := (x = .nilsl /\ es = []) \/ ∃ ex, x = .vsl sz es ex
theorem SlV.len {sz : Nat} {es : List (List AV)} {x : AV} (h : SlV sz es x) : z1j x = some (.int .i64 es.length) := by
 rcases h with ⟨rfl, rfl⟩ | ⟨ex, rfl⟩ <;> rfl
theorem SlV.vsl {sz : Nat} {es : List (List AV)} {x : AV} (h : SlV sz es x) (h0 : 0 < es.length) : ∃ ex, x = .vsl sz es ex := by
 rcases h with ⟨rfl, rfl⟩ | h
 ·simp at h0
 ·exact h
def z12 (sz : Nat) (es : List (List AV)) : AV := if es = [] then .nilsl else .vsl sz es false
theorem z3d (sz : Nat) (es : List (List AV)) : SlV sz es (z12 sz es) := by
 unfold z12
 split
 ·rename_i h; exact .inl ⟨rfl, h⟩
 ·exact .inr ⟨false, rfl⟩
def ownV (Y : Store) (sz : Nat) (es : List (List AV)) : AV := if es = [] then .nilsl else .sl Y.length 0 es.length none sz
def ownS (Y : Store) (es : List (List AV)) : Store := if es = [] then Y else Y ++ [some es]
theorem z6z (Y : Store) (sz : Nat) (es : List (List AV)) : OwnN sz Y (ownS Y es) (ownV Y sz es) es := by
 unfold ownV ownS
 by_cases h : es = []
 ·rw [if_pos h, if_pos h]; exact ⟨[], by simp, .inl ⟨h, rfl⟩⟩
 ·rw [if_neg h, if_neg h]; exact ⟨[some es], rfl, .inr ⟨0, h, rfl, rfl⟩⟩
theorem OwnN.froze {sz : Nat} {Y Y' : Store} {v : AV} {es : List (List AV)} (hw : Wf Y.length Y) (h : OwnN sz Y Y' v es) (hr : RLss Y.length es) : DownV Y.length v Y' (z12 sz es) Y := by
 unfold z12
 obtain ⟨news, rfl, ⟨rfl, rfl⟩ | ⟨j, h0, rfl, h⟩⟩ := h
 ·rw [if_pos rfl]; exact DownV.pure hw (z14 _ rfl)
 ·have e : (es.drop 0).take es.length = es := by rw [List.drop_zero, List.take_of_length_le (Nat.le_refl _)]
  have := DownV.froze (off := 0) (len := es.length) (esz := sz) (lim := none) hw h (by omega) (by rw [e]; exact hr)
  rw [e] at this
  rw [if_neg h0]; exact this
theorem OwnN.own {sz : Nat} {Y Y' : Store} {v : AV} {es : List (List AV)} (hw : Wf Y.length Y) (h : OwnN sz Y Y' v es) (hr : RLss Y.length es) : DownV Y.length v Y' (ownV Y sz es) (ownS Y es) := by
 unfold ownV ownS
 obtain ⟨news, rfl, ⟨rfl, rfl⟩ | ⟨j, h0, rfl, h⟩⟩ := h
 ·rw [if_pos rfl, if_pos rfl]; exact DownV.pure hw (z14 _ rfl)
 ·rw [if_neg h0, if_neg h0]; exact DownV.own (off := 0) (len := es.length) (esz := sz) (lim := none) hw h hr
theorem zkb {l : List UInt8} {i : Nat} (h : i < l.length) : (zx l)[i]? = some (.int .u8 (l.getD i 0).toNat) := by
 simp [zx, List.getD_eq_getElem?_getD, List.getElem?_eq_getElem h]
set_option maxHeartbeats 4000000 in
theorem z8u (Y : Store) (h : List UInt8) (hl : h.length = 32) : ACallsTo TC 102 [.agg (zx h)] Y (.str h) Y := by
 refine ACallsTo.of_body qnok (by simp) fun hw _ => ?_
 have h1 := z11 h
 rw [hl] at h1
 repeat' (first|apply zs_|apply zb_|apply zc_|apply zt_ rfl|apply zf_ rfl|(refine zd_ rfl (fun ht => ?_) (fun ht => ?_)<;>try (exfalso;omega))|((first|apply zr_|apply zk_|apply ze_|apply zq_|((first|apply zg0|apply zg1|apply zg2|apply zg3|apply zg4|apply zg5|apply zg6|apply zg7)<;>intro ht));all_goals try simp (disch:=first|omega|(simp only [lens];first|done|omega)) only [go_sem,nQ1,nQ2,nQ3,nQ4,nQ5,nQ6,nQ7,nQ8,h1]))
 refine zW.loop (fun m O Y' => ∃ i : Nat, m + i = 32 /\ O 1 = .ptr Y.length 0 0 /\ O 4 = .int .i64 i /\ OwnN 1 (Y ++ [some [zx h]]) Y' (O 3) (zh (h.take i))) 32 ?_ ?_
 ·refine ⟨0, by omega, by simp (disch:=first|omega|(simp only [lens];first|done|omega)) only [go_sem,nQ1,nQ2,nQ3,nQ4,nQ5,nQ6,nQ7,nQ8],by simp (disch:=first|omega|(simp only [lens];first|done|omega)) only [go_sem,nQ1,nQ2,nQ3,nQ4,nQ5,nQ6,nQ7,nQ8]; rfl,?_⟩
  simp (disch:=first|omega|(simp only [lens];first|done|omega)) only [go_sem,nQ1,nQ2,nQ3,nQ4,nQ5,nQ6,nQ7,nQ8]
  have := OwnN.nil (sz := 1) (G := Y ++ [some [zx h]]) (news := [])
  rwa [List.append_nil] at this
 ·rintro m O Y' ⟨i, hm, q1, q4, hO⟩
  by_cases hi : i < 32
  ·have hg := zkb (l := h) (i := i) (by omega)
   have hs : h.take (i + 1) = h.take i ++ [h.getD i 0] := by
    rw [List.take_add_one, List.getD_eq_getElem?_getD, List.getElem?_eq_getElem (by omega)]; rfl
   obtain ⟨v', Y2, he, hO2⟩ := hO.app (ys := zh [h.getD i 0]) (by simp [zh]) (by simp [zl]; omega)
   have ho : Y'[Y.length]? = some (some [zx h]) := by
    obtain ⟨news, rfl, _⟩ := hO
    rw [List.append_assoc, List.getElem?_append_right (Nat.le_refl _), Nat.sub_self]; rfl
   have hb : zh [h.getD i 0] = [[.int .u8 (h.getD i 0).toNat]] := rfl
   rw [hb] at he
   rw [<- hO.appB] at he
   generalize h.getD i 0 = x at *
   generalize hv : O 3 = v at *
   repeat' (first|apply zs_|apply zb_|apply zc_|apply zt_ rfl|apply zf_ rfl|(refine zd_ rfl (fun ht => ?_) (fun ht => ?_)<;>try (exfalso;omega))|((first|apply zr_|apply zk_|apply ze_|apply zq_|((first|apply zg0|apply zg1|apply zg2|apply zg3|apply zg4|apply zg5|apply zg6|apply zg7)<;>intro ht));all_goals try simp (disch:=first|omega|(simp only [lens];first|done|omega)) only [go_sem,nQ1,nQ2,nQ3,nQ4,nQ5,nQ6,nQ7,nQ8,q1,q4,hv,ho,h1,hg,he]))
   refine ⟨32 - (i + 1), by omega, i + 1, by omega, by simp, ?_⟩
   rw [hs, <- z81]
   exact hO2
  ·obtain rfl : i = 32 := by omega
   rw [List.take_of_length_le (by omega)] at hO
   obtain ⟨r, q3, hg, _⟩ := hO.sl (by intro e; have := zl h; rw [e] at this; simp at this; omega)
   rw [zl] at q3
   repeat' (first|apply zs_|apply zb_|apply zc_|apply zt_ rfl|apply zf_ rfl|(refine zd_ rfl (fun ht => ?_) (fun ht => ?_)<;>try (exfalso;omega))|((first|apply zr_|apply zk_|apply ze_|apply zq_|((first|apply zg0|apply zg1|apply zg2|apply zg3|apply zg4|apply zg5|apply zg6|apply zg7)<;>intro ht));all_goals try simp (disch:=first|omega|(simp only [lens];first|done|omega)) only [go_sem,nQ1,nQ2,nQ3,nQ4,nQ5,nQ6,nQ7,nQ8,q1,q4,q3,hg]))
   obtain ⟨news, rfl, _⟩ := hO
   rw [List.append_assoc]
   exact DownV.pure hw (z14 _ rfl)
theorem ze6 (Y : Store) (a b : List UInt8) (ha : a.length = 32) (hb : b.length = 32) : ACallsTo TC 78 [.agg (zx a), .agg (zx b)] Y (.agg (zx (z2v a b))) Y := by
 refine ACallsTo.of_body qiok (by simp) fun hw _ => ?_
 have h1 := z11 a
 have h2 := z11 b
 have h3 := z11 (z2v a b)
 rw [ha] at h1
 rw [hb] at h2
 rw [zaf] at h3
 obtain ⟨n, hn⟩ : ∃ n, n = z2v a b := ⟨_, rfl⟩
 have hs : ∀ Y, ACallsTo TC 72 [.str (1 :: (a ++ b))] Y (.agg (zx n)) Y := fun Y => by rw [hn]; exact z7d Y _ (by simp; omega)
 rw [<- hn] at h3 ⊢
 repeat' (first | refine zs_ ?_ | refine zb_ ?_ | refine zc_ ?_ | refine zt_ rfl ?_ | refine zf_ rfl ?_ | (refine zd_ rfl (fun ht => ?_) (fun ht => ?_) <;> try (exfalso; omega)) | ((first | refine zW.regS ?_ | refine zk_ ?_ | refine ze_ ?_ | refine zq_ ?_ | (apply callW.mk_pu; (first | exact (fun _ => z88 _ _ ha) | exact (fun _ => z88 _ _ hb) | exact (fun _ => hs _))) | (apply callW.za; (first | exact (z88 _ _ ha) | exact (z88 _ _ hb) | exact (hs _))) | ((first|apply zg0|apply zg1|apply zg2|apply zg3|apply zg4|apply zg5|apply zg6|apply zg7)<;>intro ht));all_goals try simp (disch:=first|omega|(simp only [lens];first|done|omega)) only [go_sem,nQ1,nQ2,nQ3,nQ4,nQ5,nQ6,nQ7,nQ8,h1,h2,h3]))
 exact DownV.pure hw (z2x (z2c _))
theorem zhu (Y : Store) (a b : List UInt8) (ha : a.length = 32) (hb : b.length = 32) : ACallsTo TC 88 [.agg (zx a), .agg (zx b)] Y (.agg (zx (z2v a b))) Y := by
 refine ACallsTo.of_body qmok (by simp) fun hw _ => ?_
 have h1 := z11 a
 have h2 := z11 b
 have h3 := z11 (z2v a b)
 rw [ha] at h1
 rw [hb] at h2
 rw [zaf] at h3
 obtain ⟨n, hn⟩ : ∃ n, n = z2v a b := ⟨_, rfl⟩
 have hs : ∀ Y, ACallsTo TC 76 [.str (1 :: (a ++ b))] Y (.agg (zx n)) Y := fun Y => by rw [hn]; exact z77 Y _ (by simp; omega)
 rw [<- hn] at h3 ⊢
 repeat' (first | refine zs_ ?_ | refine zb_ ?_ | refine zc_ ?_ | refine zt_ rfl ?_ | refine zf_ rfl ?_ | (refine zd_ rfl (fun ht => ?_) (fun ht => ?_) <;> try (exfalso; omega)) | ((first | refine zW.regS ?_ | refine zk_ ?_ | refine ze_ ?_ | refine zq_ ?_ | (apply callW.mk_pu; (first | exact (fun _ => z8u _ _ ha) | exact (fun _ => z8u _ _ hb) | exact (fun _ => hs _))) | (apply callW.za; (first | exact (z8u _ _ ha) | exact (z8u _ _ hb) | exact (hs _))) | ((first|apply zg0|apply zg1|apply zg2|apply zg3|apply zg4|apply zg5|apply zg6|apply zg7)<;>intro ht));all_goals try simp (disch:=first|omega|(simp only [lens];first|done|omega)) only [go_sem,nQ1,nQ2,nQ3,nQ4,nQ5,nQ6,nQ7,nQ8,h1,h2,h3]))
 exact DownV.pure hw (z2x (z2c _))
end
section
def z13 (n : Nat) : Nat := if n < 2 then 0 else 2 ^ Nat.log2 (n - 1)
theorem zb5 {n : Nat} (h : 2 <= n) : z13 n < n /\ n <= 2 * z13 n /\ 0 < z13 n := by
 unfold z13
 rw [if_neg (by omega)]
 have h1 := Nat.log2_self_le (n := n - 1) (by omega)
 have h2 := Nat.lt_log2_self (n := n - 1)
 rw [Nat.pow_succ] at h2
 have h3 : 0 < 2 ^ Nat.log2 (n - 1) := Nat.pow_pos (by decide)
 omega
theorem zb6 {n j : Nat} (h1 : 2 ^ j < n) (h2 : n <= 2 ^ (j + 1)) : z13 n = 2 ^ j := by
 have h3 : 0 < 2 ^ j := Nat.pow_pos (by decide)
 unfold z13
 rw [if_neg (by omega)]
 have h4 := Nat.log2_self_le (n := n - 1) (by omega)
 have h5 := Nat.lt_log2_self (n := n - 1)
 congr 1
 generalize Nat.log2 (n - 1) = i at *
 have a1 : 2 ^ j < 2 ^ (i + 1) := by omega
 have a2 : 2 ^ i < 2 ^ (j + 1) := by omega
 have b1 := (Nat.pow_lt_pow_iff_right (by decide : 1 < 2)).1 a1
 have b2 := (Nat.pow_lt_pow_iff_right (by decide : 1 < 2)).1 a2
 omega
theorem ze7 (Y : Store) (n : Nat) (h : n < 1000000000000) : ACallsTo TC 74 [.int .i64 n] Y (.int .i64 (z13 n)) Y := by
 refine ACallsTo.of_body qjok (by simp) fun hw _ => ?_
 by_cases h2 : n < 2
 ·have e : z13 n = 0 := by unfold z13; rw [if_pos h2]
  rw [e]
  repeat' (first|apply zs_|apply zb_|apply zc_|apply zt_ rfl|apply zf_ rfl|(refine zd_ rfl (fun ht => ?_) (fun ht => ?_)<;>try (exfalso;omega))|((first|apply zr_|apply zk_|apply ze_|apply zq_|((first|apply zg0|apply zg1|apply zg2|apply zg3|apply zg4|apply zg5|apply zg6|apply zg7)<;>intro ht));all_goals try simp (disch:=first|omega|(simp only [lens];first|done|omega)) only [go_sem,nQ1,nQ2,nQ3,nQ4,nQ5,nQ6,nQ7,nQ8]))
  exact DownV.same hw (z14 _ rfl)
 ·repeat' (first|apply zs_|apply zb_|apply zc_|apply zt_ rfl|apply zf_ rfl|(refine zd_ rfl (fun ht => ?_) (fun ht => ?_)<;>try (exfalso;omega))|((first|apply zr_|apply zk_|apply ze_|apply zq_|((first|apply zg0|apply zg1|apply zg2|apply zg3|apply zg4|apply zg5|apply zg6|apply zg7)<;>intro ht));all_goals try simp (disch:=first|omega|(simp only [lens];first|done|omega)) only [go_sem,nQ1,nQ2,nQ3,nQ4,nQ5,nQ6,nQ7,nQ8]))
  refine zW.loop (fun m O Y' => ∃ j : Nat, m = n - 2 ^ j /\ 2 ^ j < n /\ O 0 = .int .i64 n /\ O 3 = .int .i64 ((2 ^ j : Nat) : Int) /\ Y' = Y) (n - 1) ?_ ?_
  ·exact ⟨0, rfl, by omega, by simp (disch:=first|omega|(simp only [lens];first|done|omega)) only [go_sem,nQ1,nQ2,nQ3,nQ4,nQ5,nQ6,nQ7,nQ8],by simp (disch:=first|omega|(simp only [lens];first|done|omega)) only [go_sem,nQ1,nQ2,nQ3,nQ4,nQ5,nQ6,nQ7,nQ8]; rfl,rfl⟩
  ·rintro m O Y' ⟨j, hm, hj, q0, q3, rfl⟩
   have hp : 0 < 2 ^ j := Nat.pow_pos (by decide)
   have hs : 2 ^ (j + 1) = 2 ^ j * 2 := Nat.pow_succ ..
   generalize hk : 2 ^ j = k at *
   by_cases hc : (k : Int) < n - k
   ·repeat' (first|apply zs_|apply zb_|apply zc_|apply zt_ rfl|apply zf_ rfl|(refine zd_ rfl (fun ht => ?_) (fun ht => ?_)<;>try (exfalso;omega))|((first|apply zr_|apply zk_|apply ze_|apply zq_|((first|apply zg0|apply zg1|apply zg2|apply zg3|apply zg4|apply zg5|apply zg6|apply zg7)<;>intro ht));all_goals try simp (disch:=first|omega|(simp only [lens];first|done|omega)) only [go_sem,nQ1,nQ2,nQ3,nQ4,nQ5,nQ6,nQ7,nQ8,q0,q3]))
    exact ⟨n - k * 2, by omega, j + 1, by rw [hs], by omega, by rw [hs]; rfl⟩
   ·have e : z13 n = k := by rw [<- hk]; exact zb6 (by omega) (by omega)
    rw [e]
    repeat' (first|apply zs_|apply zb_|apply zc_|apply zt_ rfl|apply zf_ rfl|(refine zd_ rfl (fun ht => ?_) (fun ht => ?_)<;>try (exfalso;omega))|((first|apply zr_|apply zk_|apply ze_|apply zq_|((first|apply zg0|apply zg1|apply zg2|apply zg3|apply zg4|apply zg5|apply zg6|apply zg7)<;>intro ht));all_goals try simp (disch:=first|omega|(simp only [lens];first|done|omega)) only [go_sem,nQ1,nQ2,nQ3,nQ4,nQ5,nQ6,nQ7,nQ8,q0,q3]))
    exact DownV.same hw (z14 _ rfl)
theorem zhv (Y : Store) (n : Nat) (h : n < 1000000000000) : ACallsTo TC 55 [.int .i64 n] Y (.int .i64 (z13 n)) Y := by
 refine ACallsTo.of_body qpok (by simp) fun hw _ => ?_
 repeat' (first|apply zs_|apply zb_|apply zc_|apply zt_ rfl|apply zf_ rfl|(refine zd_ rfl (fun ht => ?_) (fun ht => ?_)<;>try (exfalso;omega))|((first|apply zr_|apply zk_|apply ze_|apply zq_|((first|apply zg0|apply zg1|apply zg2|apply zg3|apply zg4|apply zg5|apply zg6|apply zg7)<;>intro ht));all_goals try simp (disch:=first|omega|(simp only [lens];first|done|omega)) only [go_sem,nQ1,nQ2,nQ3,nQ4,nQ5,nQ6,nQ7,nQ8]))
 refine zW.loop (fun m O Y' => ∃ j k : Nat, m = n - 2 ^ j /\ ((j = 0 /\ k = 0) \/ (k < n /\ 2 ^ j = k * 2 /\ ∃ i, k = 2 ^ i)) /\ O 0 = .int .i64 n /\ O 3 = .int .i64 k /\ O 4 = .int .i64 ((2 ^ j : Nat) : Int) /\ Y' = Y) (n - 1) ?_ ?_
 ·exact ⟨0, 0, rfl, .inl ⟨rfl, rfl⟩, by simp (disch:=first|omega|(simp only [lens];first|done|omega)) only [go_sem,nQ1,nQ2,nQ3,nQ4,nQ5,nQ6,nQ7,nQ8],by simp (disch:=first|omega|(simp only [lens];first|done|omega)) only [go_sem,nQ1,nQ2,nQ3,nQ4,nQ5,nQ6,nQ7,nQ8]; rfl,by simp (disch:=first|omega|(simp only [lens];first|done|omega)) only [go_sem,nQ1,nQ2,nQ3,nQ4,nQ5,nQ6,nQ7,nQ8]; rfl,rfl⟩
 ·rintro m O Y' ⟨j, k, hm, hk, q0, q3, q4, rfl⟩
  have hp : 0 < 2 ^ j := Nat.pow_pos (by decide)
  have hs : 2 ^ (j + 1) = 2 ^ j * 2 := Nat.pow_succ ..
  by_cases hc : 2 ^ j < n
  ·generalize hmm : 2 ^ j = mm at *
   repeat' (first|apply zs_|apply zb_|apply zc_|apply zt_ rfl|apply zf_ rfl|(refine zd_ rfl (fun ht => ?_) (fun ht => ?_)<;>try (exfalso;omega))|((first|apply zr_|apply zk_|apply ze_|apply zq_|((first|apply zg0|apply zg1|apply zg2|apply zg3|apply zg4|apply zg5|apply zg6|apply zg7)<;>intro ht));all_goals try simp (disch:=first|omega|(simp only [lens];first|done|omega)) only [go_sem,nQ1,nQ2,nQ3,nQ4,nQ5,nQ6,nQ7,nQ8,q0,q3,q4]))
   clear hk
   exact ⟨n - mm * 2, by omega, j + 1, mm, by rw [hs], .inr ⟨hc, hs, j, hmm.symm⟩, rfl, by rw [hs]; rfl⟩
  ·have e : z13 n = k := by
    rcases hk with ⟨rfl, rfl⟩ | ⟨h1, h2, i, rfl⟩
    ·unfold z13; rw [if_pos (by simp at hc; omega)]
    ·exact zb6 h1 (by rw [Nat.pow_succ]; omega)
   rw [e]
   clear e hk hs
   generalize hmm : 2 ^ j = mm at *
   repeat' (first|apply zs_|apply zb_|apply zc_|apply zt_ rfl|apply zf_ rfl|(refine zd_ rfl (fun ht => ?_) (fun ht => ?_)<;>try (exfalso;omega))|((first|apply zr_|apply zk_|apply ze_|apply zq_|((first|apply zg0|apply zg1|apply zg2|apply zg3|apply zg4|apply zg5|apply zg6|apply zg7)<;>intro ht));all_goals try simp (disch:=first|omega|(simp only [lens];first|done|omega)) only [go_sem,nQ1,nQ2,nQ3,nQ4,nQ5,nQ6,nQ7,nQ8,q0,q3,q4]))
   exact DownV.same hw (z14 _ rfl)
def z6e : Nat -> List (List UInt8) -> List UInt8
 | 0, _ => []
 | _ + 1, [] => shaS []
 | _ + 1, [h] => h
 | f + 1, a :: b :: l => z2v (z6e f ((a :: b :: l).take (z13 (l.length + 2)))) (z6e f ((a :: b :: l).drop (z13 (l.length + 2))))
theorem zax : ∀ (f g : Nat) (l : List (List UInt8)), l.length < f -> l.length < g -> z6e f l = z6e g l
 | 0, _, _, h, _ => by omega
 | _ + 1, 0, _, _, h => by omega
 | f + 1, g + 1, [], _, _ => rfl
 | f + 1, g + 1, [_], _, _ => rfl
 | f + 1, g + 1, a :: b :: l, h, h' => by
  obtain ⟨s1, s2, s3⟩ := zb5 (n := l.length + 2) (by omega)
  simp only [List.length_cons] at h h'
  simp only [z6e]
  rw [zax f g ((a :: b :: l).take (z13 (l.length + 2))) (by rw [List.length_take]; simp; omega) (by rw [List.length_take]; simp; omega),
   zax f g ((a :: b :: l).drop (z13 (l.length + 2))) (by rw [List.length_drop]; simp; omega) (by rw [List.length_drop]; simp; omega)]
def z1o (l : List (List UInt8)) : List UInt8 := z6e (l.length + 1) l
theorem zdl : z1o [] = shaS [] := rfl
theorem zrf (h : List UInt8) : z1o [h] = h := rfl
theorem zay {l : List (List UInt8)} (h : 2 <= l.length) : z1o l = z2v (z1o (l.take (z13 l.length))) (z1o (l.drop (z13 l.length))) := by
 match l, h with
 | a :: b :: l, _ =>
  obtain ⟨s1, s2, s3⟩ := zb5 (n := l.length + 2) (by omega)
  unfold z1o
  simp only [z6e, List.length_cons]
  congr 1
  ·refine zax _ _ _ ?_ (Nat.lt_succ_self _)
   rw [List.length_take]
   simp only [List.length_cons]
   omega
  ·refine zax _ _ _ ?_ (Nat.lt_succ_self _)
   rw [List.length_drop]
   simp only [List.length_cons]
   omega
def H32 (l : List (List UInt8)) : Prop := ∀ h ∈ l, h.length = 32
theorem H32.take {l : List (List UInt8)} (h : H32 l) (n : Nat) : H32 (l.take n) := fun x hx => h x (List.mem_of_mem_take hx)
theorem H32.drop {l : List (List UInt8)} (h : H32 l) (n : Nat) : H32 (l.drop n) := fun x hx => h x (List.mem_of_mem_drop hx)
theorem z58 {l : List (List UInt8)} (h : H32 l) : (z1o l).length = 32 := by
 match l, h with
 | [], _ => exact zdr _
 | [x], h => exact h x (by simp)
 | a :: b :: l, _ => rw [zay (by simp)]; exact zaf _ _
end
section
def z1l (l : List (List UInt8)) : List (List AV) := l.map zx
theorem zch (l : List (List UInt8)) : (z1l l).length = l.length := by simp [z1l]
theorem zmj (l : List (List UInt8)) (n : Nat) : (z1l l).take n = z1l (l.take n) := by simp [z1l, List.map_take]
theorem zmi (l : List (List UInt8)) (n : Nat) : (z1l l).drop n = z1l (l.drop n) := by simp [z1l, List.map_drop]
theorem hrows_nil {l : List (List UInt8)} : z1l l = [] ↔ l = [] := by simp [z1l]
theorem zav {k : Nat} : ∀ (l : List (List UInt8)), RLss k (z1l l)
 | [] => by simp [z1l, RLss]
 | h :: l => by have := zav (k := k) l; simp only [z1l] at this; simp [z1l, RLss, this, z2c]
set_option maxHeartbeats 4000000 in
theorem zjo (hs : List (List UInt8)) (hH : H32 hs) (hl : hs.length < 1000000000) (ex : Bool) (r1 r3 : Nat) :
  ∀ (d : Nat) (Y : Store) (a : Nat), 0 < d -> a + d <= hs.length -> Y[r1]? = some (some [[.vsl 32 (z1l hs) ex]]) -> Y[r3]? = some (some [[.fn 77 [.ptr r1 0 0, .ptr r3 0 0]]]) ->
   ACallsTo TC 77 [.int .i64 a, .int .i64 ((a + d : Nat) : Int), .ptr r1 0 0, .ptr r3 0 0] Y (.agg (zx (z1o ((hs.drop a).take d)))) Y := by
 intro d
 induction d using Nat.strongRecOn with
 | _ d ih =>
  intro Y a h0 had hg1 hg3
  have hr1 := (List.getElem?_eq_some_iff.1 hg1).1
  have hr3 := (List.getElem?_eq_some_iff.1 hg3).1
  obtain ⟨L, hL⟩ : ∃ L, L = (hs.drop a).take d := ⟨_, rfl⟩
  have hLl : L.length = d := by rw [hL, List.length_take, List.length_drop]; omega
  have hLH : H32 L := by rw [hL]; exact (hH.drop a).take d
  have hn := z58 hLH
  have hc := z11 (z1o L)
  rw [hn] at hc
  rw [<- hL]
  have hsub : ((a + d : Nat) : Int) - a = d := by omega
  by_cases h1 : d = 1
  ·have e0 : z13 d = 0 := by unfold z13; rw [if_pos (by omega)]
   have hsp := fun Y => ze7 Y d (by omega)
   rw [e0] at hsp
   obtain ⟨x, hx⟩ : ∃ x, hs[a]? = some x := ⟨_, List.getElem?_eq_getElem (by omega)⟩
   have hgr : (z1l hs)[a]? = some (zx x) := by simp [z1l, hx]
   have eL : z1o L = x := by
    have : L = [x] := by
     rw [hL, h1]
     apply List.ext_getElem?
     intro i
     cases i with
     | zero => simp [List.getElem?_take, List.getElem?_drop, hx]
     | succ i => simp [List.getElem?_take]
    rw [this]; rfl
   rw [eL] at hc ⊢
   have hrl := zch hs
   clear eL
   generalize z1l hs = rows at *
   refine ACallsTo.of_body qkok (by simp) fun hw _ => ?_
   repeat' (first|apply zs_|apply zb_|apply zc_|apply zt_ rfl|apply zf_ rfl|(refine zd_ rfl (fun ht => ?_) (fun ht => ?_)<;>try (exfalso;omega))|((first|apply zr_|apply zk_|apply ze_|apply zq_|(apply callW.mk_pu; (first | exact (fun _ => hsp _))) | (apply callW.za; (first | exact (hsp _))) | ((first|apply zg0|apply zg1|apply zg2|apply zg3|apply zg4|apply zg5|apply zg6|apply zg7)<;>intro ht));all_goals try simp (disch:=first|omega|(simp only [lens];first|done|omega)) only [go_sem,nQ1,nQ2,nQ3,nQ4,nQ5,nQ6,nQ7,nQ8,hsub,hg1,hgr,hc]))
   exact DownV.pure hw (z2x (z2c _))
  ·obtain ⟨s1, s2, s3⟩ := zb5 (n := d) (by omega)
   have hsp := fun Y => ze7 Y d (by omega)
   have eL := zay (l := L) (by omega)
   rw [hLl] at eL
   have t1 : L.take (z13 d) = (hs.drop a).take (z13 d) := by rw [hL, List.take_take, Nat.min_eq_left (by omega)]
   have t2 : L.drop (z13 d) = (hs.drop (a + z13 d)).take (d - z13 d) := by rw [hL, List.drop_take, List.drop_drop]
   generalize hk : z13 d = k at *
   have i1 := fun y => ih k (by omega) (Y ++ y) a (by omega) (by omega) (by rw [gapp hr1]; exact hg1) (by rw [gapp hr3]; exact hg3)
   have i2 := fun y => ih (d - k) (by omega) (Y ++ y) (a + k) (by omega) (by omega) (by rw [gapp hr1]; exact hg1) (by rw [gapp hr3]; exact hg3)
   rw [<- t1] at i1
   rw [<- t2] at i2
   rw [show a + k + (d - k) = a + d by omega] at i2
   have n1 := z58 (hLH.take k)
   have n2 := z58 (hLH.drop k)
   have e1 : ((a : Int) + k) = ((a + k : Nat) : Int) := by omega
   rw [eL] at hc ⊢
   generalize z1o (L.take k) = A at *
   generalize z1o (L.drop k) = B at *
   have k0 : ¬ (k : Int) = 0 := by omega
   refine ACallsTo.of_body qkok (by simp) fun hw _ => ?_
   repeat' (first | refine zs_ ?_ | refine zb_ ?_ | refine zc_ ?_ | refine zt_ rfl ?_ | refine zf_ rfl ?_ | (refine zd_ rfl (fun ht => ?_) (fun ht => ?_) <;> try (exfalso; omega)) | ((first | refine zW.regS ?_ | refine zk_ ?_ | refine ze_ ?_ | refine zq_ ?_ | (apply callW.mk_pu; (first | exact (fun _ => hsp _) | exact (fun _ => i1 _) | exact (fun _ => i2 _) | exact (fun _ => ze6 _ _ _ n1 n2))) | (apply callW.za; (first | exact (hsp _) | exact (i1 _) | exact (i2 _) | exact (ze6 _ _ _ n1 n2))) | ((first|apply zg0|apply zg1|apply zg2|apply zg3|apply zg4|apply zg5|apply zg6|apply zg7)<;>intro ht));all_goals try simp (disch:=first|omega|(simp only [lens];first|done|omega)) only [go_sem,nQ1,nQ2,nQ3,nQ4,nQ5,nQ6,nQ7,nQ8,hsub,hg1,hg3,hc,e1]))
   exact DownV.pure hw (z2x (z2c _))
theorem zt7 (Y : Store) (hs : List (List UInt8)) (x : AV) (hx : SlV 32 (z1l hs) x) (hH : H32 hs) (hl : hs.length < 1000000000) : ACallsTo TC 45 [x] Y (.agg (zx (z1o hs))) Y := by
 have hc := z11 (z1o hs)
 rw [z58 hH] at hc
 have hrl := zch hs
 by_cases h0 : hs = []
 ·subst h0
  have hx' := hx.len
  unfold z1j at hx'
  refine ACallsTo.of_body qhok (by simp) fun hw _ => ?_
  rw [zdl] at hc ⊢
  rcases hx with ⟨rfl, h⟩ | ⟨ex, rfl⟩
  ·repeat' (first|apply zs_|apply zb_|apply zc_|apply zt_ rfl|apply zf_ rfl|(refine zd_ rfl (fun ht => ?_) (fun ht => ?_)<;>try (exfalso;omega))|((first|apply zr_|apply zk_|apply ze_|apply zq_|(apply callW.mk_pu; (first | exact (fun _ => z7d _ [] (by simp)))) | (apply callW.za; (first | exact (z7d _ [] (by simp)))) | ((first|apply zg0|apply zg1|apply zg2|apply zg3|apply zg4|apply zg5|apply zg6|apply zg7)<;>intro ht));all_goals try simp (disch:=first|omega|(simp only [lens];first|done|omega)) only [go_sem,nQ1,nQ2,nQ3,nQ4,nQ5,nQ6,nQ7,nQ8,hc]))
   exact DownV.pure hw (z2x (z2c _))
  ·repeat' (first|apply zs_|apply zb_|apply zc_|apply zt_ rfl|apply zf_ rfl|(refine zd_ rfl (fun ht => ?_) (fun ht => ?_)<;>try (exfalso;omega))|((first|apply zr_|apply zk_|apply ze_|apply zq_|(apply callW.mk_pu; (first | exact (fun _ => z7d _ [] (by simp)))) | (apply callW.za; (first | exact (z7d _ [] (by simp)))) | ((first|apply zg0|apply zg1|apply zg2|apply zg3|apply zg4|apply zg5|apply zg6|apply zg7)<;>intro ht));all_goals try simp (disch:=first|omega|(simp only [lens];first|done|omega)) only [go_sem,nQ1,nQ2,nQ3,nQ4,nQ5,nQ6,nQ7,nQ8,hc,hrl]))
   exact DownV.pure hw (z2x (z2c _))
 ·have hpos : 0 < hs.length := List.length_pos_iff.2 h0
  obtain ⟨ex, rfl⟩ := hx.vsl (by rw [hrl]; exact hpos)
  have h1 := zjo hs hH hl ex Y.length (Y.length + 2) hs.length
  refine ACallsTo.of_body qhok (by simp) fun hw _ => ?_
  have h1 := fun Y' => h1 Y' 0 hpos (by omega)
  simp only [Nat.zero_add, List.drop_zero, List.take_length] at h1
  generalize z1o hs = R at *
  generalize z1l hs = rows at *
  repeat' (first|apply zs_|apply zb_|apply zc_|apply zt_ rfl|apply zf_ rfl|(refine zd_ rfl (fun ht => ?_) (fun ht => ?_)<;>try (exfalso;omega))|((first|apply zr_|apply zk_|apply ze_|apply zq_|(apply callW.mk_pu; (first | exact (fun _ => h1 _ (by simp) (by simp)))) | (apply callW.za; (first | exact (h1 _ (by simp) (by simp)))) | ((first|apply zg0|apply zg1|apply zg2|apply zg3|apply zg4|apply zg5|apply zg6|apply zg7)<;>intro ht));all_goals try simp (disch:=first|omega|(simp only [lens];first|done|omega)) only [go_sem,nQ1,nQ2,nQ3,nQ4,nQ5,nQ6,nQ7,nQ8,hc,hrl]))
  exact DownV.pure hw (z2x (z2c _))
set_option maxHeartbeats 4000000 in
theorem zr6 (f : Nat) : ∀ (Y : Store) (hs : List (List UInt8)) (ex : Bool), hs.length < f -> H32 hs -> hs.length < 1000000000 -> ACallsTo TC 56 [.vsl 32 (z1l hs) ex] Y (.agg (zx (z1o hs))) Y := by
 induction f with
 | zero => intro Y hs ex h; omega
 | succ f ih =>
  intro Y hs ex hf hH hl
  have hc := z11 (z1o hs)
  rw [z58 hH] at hc
  have hrl := zch hs
  by_cases h0 : hs.length = 0
  ·obtain rfl : hs = [] := List.eq_nil_of_length_eq_zero h0
   rw [zdl] at hc ⊢
   refine ACallsTo.of_body qlok (by simp) fun hw _ => ?_
   repeat' (first|apply zs_|apply zb_|apply zc_|apply zt_ rfl|apply zf_ rfl|(refine zd_ rfl (fun ht => ?_) (fun ht => ?_)<;>try (exfalso;omega))|((first|apply zr_|apply zk_|apply ze_|apply zq_|(apply callW.mk_pu; (first | exact (fun _ => z77 _ [] (by simp)))) | (apply callW.za; (first | exact (z77 _ [] (by simp)))) | ((first|apply zg0|apply zg1|apply zg2|apply zg3|apply zg4|apply zg5|apply zg6|apply zg7)<;>intro ht));all_goals try simp (disch:=first|omega|(simp only [lens];first|done|omega)) only [go_sem,nQ1,nQ2,nQ3,nQ4,nQ5,nQ6,nQ7,nQ8,hc,hrl]))
   exact DownV.pure hw (z2x (z2c _))
  ·by_cases h1 : hs.length = 1
   ·obtain ⟨x, rfl⟩ := List.length_eq_one_iff.1 h1
    rw [zrf] at hc ⊢
    refine ACallsTo.of_body qlok (by simp) fun hw _ => ?_
    simp only [z1l, List.map_cons, List.map_nil]
    repeat' (first|apply zs_|apply zb_|apply zc_|apply zt_ rfl|apply zf_ rfl|(refine zd_ rfl (fun ht => ?_) (fun ht => ?_)<;>try (exfalso;omega))|((first|apply zr_|apply zk_|apply ze_|apply zq_|((first|apply zg0|apply zg1|apply zg2|apply zg3|apply zg4|apply zg5|apply zg6|apply zg7)<;>intro ht));all_goals try simp (disch:=first|omega|(simp only [lens];first|done|omega)) only [go_sem,nQ1,nQ2,nQ3,nQ4,nQ5,nQ6,nQ7,nQ8,hc]))
    exact DownV.pure hw (z2x (z2c _))
   ·obtain ⟨s1, s2, s3⟩ := zb5 (n := hs.length) (by omega)
    have hsp := fun Y => zhv Y hs.length (by omega)
    have eL := zay (l := hs) (by omega)
    have n1 := z58 (hH.take (z13 hs.length))
    have n2 := z58 (hH.drop (z13 hs.length))
    have i1 := fun Y ex => ih Y (hs.take (z13 hs.length)) ex (by rw [List.length_take]; omega) (hH.take _) (by rw [List.length_take]; omega)
    have i2 := fun Y ex => ih Y (hs.drop (z13 hs.length)) ex (by rw [List.length_drop]; omega) (hH.drop _) (by rw [List.length_drop]; omega)
    rw [eL] at hc ⊢
    have tk := zmj hs (z13 hs.length)
    have dk := zmi hs (z13 hs.length)
    generalize z1o (hs.take (z13 hs.length)) = A at *
    generalize z1o (hs.drop (z13 hs.length)) = B at *
    generalize z1l (hs.take (z13 hs.length)) = ra at *
    generalize z1l (hs.drop (z13 hs.length)) = rb at *
    generalize z1l hs = rows at *
    generalize z13 hs.length = k at *
    have k0 : ¬ (hs.length : Int) = 0 := by omega
    have k1 : ¬ (hs.length : Int) = 1 := by omega
    refine ACallsTo.of_body qlok (by simp) fun hw _ => ?_
    repeat' (first | refine zs_ ?_ | refine zb_ ?_ | refine zc_ ?_ | refine zt_ rfl ?_ | refine zf_ rfl ?_ | (refine zd_ rfl (fun ht => ?_) (fun ht => ?_) <;> try (exfalso; omega)) | ((first | refine zW.regS ?_ | refine zk_ ?_ | refine ze_ ?_ | refine zq_ ?_ | (apply callW.mk_pu; (first | exact (fun _ => hsp _) | exact (fun _ => i1 _ _) | exact (fun _ => i2 _ _) | exact (fun _ => zhu _ _ _ n1 n2))) | (apply callW.za; (first | exact (hsp _) | exact (i1 _ _) | exact (i2 _ _) | exact (zhu _ _ _ n1 n2))) | ((first|apply zg0|apply zg1|apply zg2|apply zg3|apply zg4|apply zg5|apply zg6|apply zg7)<;>intro ht));all_goals try simp (disch:=first|omega|(simp only [lens];first|done|omega)) only [go_sem,nQ1,nQ2,nQ3,nQ4,nQ5,nQ6,nQ7,nQ8,hc,hrl,tk,dk]))
    exact DownV.pure hw (z2x (z2c _))
theorem zr5 (Y : Store) (hs : List (List UInt8)) (x : AV) (hx : SlV 32 (z1l hs) x) (hH : H32 hs) (hl : hs.length < 1000000000) : ACallsTo TC 56 [x] Y (.agg (zx (z1o hs))) Y := by
 rcases hx with ⟨rfl, h⟩ | ⟨ex, rfl⟩
 ·obtain rfl := hrows_nil.1 h
  have hc := z11 (z1o [])
  rw [z58 hH] at hc
  rw [zdl] at hc ⊢
  refine ACallsTo.of_body qlok (by simp) fun hw _ => ?_
  repeat' (first|apply zs_|apply zb_|apply zc_|apply zt_ rfl|apply zf_ rfl|(refine zd_ rfl (fun ht => ?_) (fun ht => ?_)<;>try (exfalso;omega))|((first|apply zr_|apply zk_|apply ze_|apply zq_|(apply callW.mk_pu; (first | exact (fun _ => z77 _ [] (by simp)))) | (apply callW.za; (first | exact (z77 _ [] (by simp)))) | ((first|apply zg0|apply zg1|apply zg2|apply zg3|apply zg4|apply zg5|apply zg6|apply zg7)<;>intro ht));all_goals try simp (disch:=first|omega|(simp only [lens];first|done|omega)) only [go_sem,nQ1,nQ2,nQ3,nQ4,nQ5,nQ6,nQ7,nQ8,hc]))
  exact DownV.pure hw (z2x (z2c _))
 ·exact zr6 (hs.length + 1) Y hs ex (by omega) hH hl
end
section
def RdSl (Y : Store) (sz : Nat) (es : List (List AV)) (x : AV) : Prop :=
 SlV sz es x \/ ∃ r off lim o, x = .sl r off es.length lim sz /\ Y[r]? = some (some o) /\ off + es.length <= o.length /\ (o.drop off).take es.length = es
theorem RdSl.of {Y : Store} {sz : Nat} {es : List (List AV)} {x : AV} (h : SlV sz es x) : RdSl Y sz es x := .inl h
theorem OwnN.rd {sz : Nat} {G Y' : Store} {v : AV} {es : List (List AV)} (h : OwnN sz G Y' v es) : RdSl Y' sz es v := by
 by_cases h0 : es = []
 ·obtain ⟨news, rfl, ⟨rfl, rfl⟩ | ⟨j, h1, _⟩⟩ := h
  ·exact .inl (.inl ⟨rfl, rfl⟩)
  ·exact absurd h0 h1
 ·obtain ⟨r, rfl, hg, _⟩ := h.sl h0
  exact .inr ⟨r, 0, none, es, rfl, hg, by omega, by rw [List.drop_zero, List.take_of_length_le (Nat.le_refl _)]⟩
theorem RdSl.app {Y y : Store} {sz : Nat} {es : List (List AV)} {x : AV} (h : RdSl Y sz es x) : RdSl (Y ++ y) sz es x := by
 rcases h with h | ⟨r, off, lim, o, rfl, hg, h1, h2⟩
 ·exact .inl h
 ·exact .inr ⟨r, off, lim, o, rfl, by rw [gapp (List.getElem?_eq_some_iff.1 hg).1]; exact hg, h1, h2⟩
theorem RdSl.len {Y : Store} {sz : Nat} {es : List (List AV)} {x : AV} (h : RdSl Y sz es x) : z1j x = some (.int .i64 es.length) := by
 rcases h with h | ⟨r, off, lim, o, rfl, _⟩
 ·exact h.len
 ·rfl
theorem RdSl.lend {Y : Store} {sz : Nat} {es : List (List AV)} {x : AV} (h : RdSl Y sz es x) (hr : RLss 0 es) : ∃ x0, SlV sz es x0 /\ DR (z3f Y) x0 x := by
 rcases h with h | ⟨r, off, lim, o, rfl, hg, h1, h2⟩
 ·refine ⟨x, h, DR.refl (k := 0) (by omega) x ?_⟩
  rcases h with ⟨rfl, _⟩ | ⟨ex, rfl⟩
  ·simp [RL]
  ·simpa only [RL] using hr
 ·refine ⟨.vsl sz es false, .inr ⟨false, rfl⟩, ?_⟩
  simp only [DR, z3f]
  exact .inr (.inl ⟨r, off, lim, o, rfl, trivial, hg, h1, by simp, by rw [h2]; exact DRss.refl (k := 0) (by omega) es hr⟩)
theorem znj {Y : Store} {r i off cap esz : Nat} {o es : List (List AV)} {cs rest : List AV} (hg : Y[r]? = some (some o)) (hi : o[i]? = some cs) (ho : off <= cs.length) (hd : cs.drop off = es.flatten ++ rest) (he : ∀ e ∈ es, e.length = esz) (hn : es.length ≠ 0) (hr : RLss 0 es) :
  DR (z3f Y) (.vsl esz es false) (.asl r i off es.length cap esz) := by
 simp only [DR, z3f]
 exact .inr (.inr ⟨r, i, off, cap, o, cs, es, rest, rfl, trivial, hg, hi, ho, hd, he, hn, by simp, DRss.refl (k := 0) (by omega) es hr⟩)
theorem rl0 {a : AV} (h : RL 0 a) (Y : Store) : DR (z3f Y) a a := DR.refl (k := 0) (by omega) a h
theorem drs1 {D : DC} {a b : AV} (h : DR D a b) : DRs D [a] [b] := by simp only [DRs]; exact ⟨b, [], rfl, h, rfl⟩
theorem drsc {D : DC} {a b : AV} {l m : List AV} (h : DR D a b) (h2 : DRs D l m) : DRs D (a :: l) (b :: m) := by simp only [DRs]; exact ⟨b, m, rfl, h, h2⟩
theorem zds (k : Nat) : ∀ (l : List UInt8), shs k (zx l) = zx l
 | [] => rfl
 | b :: l => by have := zds k l; simp only [zx] at this; simp [zx, shs, sh, this]
theorem zid (k : Nat) (l : List UInt8) : sh k (.agg (zx l)) = .agg (zx l) := by simp only [sh, zds]
theorem z5v (k : Nat) : shS k [] = [] := rfl
theorem zt6 (Y : Store) (hs : List (List UInt8)) (x : AV) (hx : RdSl Y 32 (z1l hs) x) (hH : H32 hs) (hl : hs.length < 1000000000) : ACallsTo TC 45 [x] Y (.agg (zx (z1o hs))) Y := by
 obtain ⟨x0, h0, hd⟩ := hx.lend (zav hs)
 have := ACallsTo.lend glok (zt7 [] hs x0 h0 hH hl) (drs1 hd)
 rwa [zid, z5v, List.append_nil] at this
theorem zr4 (Y : Store) (hs : List (List UInt8)) (x : AV) (hx : RdSl Y 32 (z1l hs) x) (hH : H32 hs) (hl : hs.length < 1000000000) : ACallsTo TC 56 [x] Y (.agg (zx (z1o hs))) Y := by
 obtain ⟨x0, h0, hd⟩ := hx.lend (zav hs)
 have := ACallsTo.lend glok (zr5 [] hs x0 h0 hH hl) (drs1 hd)
 rwa [zid, z5v, List.append_nil] at this
theorem zfq : ∀ (a b : List UInt8), z1q (zx a) (zx b) = decide (a = b)
 | [], [] => rfl
 | [], _ :: _ => rfl
 | _ :: _, [] => rfl
 | a :: l, b :: m => by
  have ih := zfq l m
  simp only [zx, List.map_cons, z1q, z67] at ih ⊢
  rw [ih, Bool.eq_iff_iff]
  simp [<- UInt8.toNat_inj]
  intro _
  omega
theorem zgm : ∀ (l : List UInt8), (zx l).map z1f = List.replicate l.length (some (LK.i .u8))
 | [] => rfl
 | _ :: l => by have := zgm l; simp only [zx] at this; simp [zx, z1f, this, List.replicate_succ]
theorem znb {l : List UInt8} (h : l.length = 32) : (zx l).map z1f = (List.replicate 32 (LK.i .u8)).map some := by rw [zgm, h]; rfl
end
section
set_option maxRecDepth 10000
@[go_sem] def zpx : List AIns := [
 ⟨some 95,none,.no,.mv (.t 12)⟩,
 ⟨some 96,none,.no,.bin .gtr .none (.t 95) (.v (.int .i64 0))⟩]
def zpb : ACode := .cond (.t 96) .skip (.exit 3)
def zpc : ACode := .seq (.reg zpx) zpb
@[go_sem] def zpy : List AIns := [
 ⟨some 98,none,.no,.mv (.t 13)⟩,
 ⟨some 99,none,.no,.call (.t 98) []⟩,
 ⟨some 97,none,.no,.mv (.t 99)⟩,
 ⟨some 100,none,.no,.ext 0 (.t 97)⟩,
 ⟨some 101,none,.no,.ext 1 (.t 97)⟩,
 ⟨some 18,none,.no,.alloc zZ0⟩,
 ⟨none,none,.no,.store 32 (.t 18) (.t 100)⟩,
 ⟨some 19,none,.no,.mv (.t 101)⟩]
@[go_sem] def zpz : List AIns := [
 ⟨some 106,none,.no,.mv (.t 19)⟩,
 ⟨some 107,none,.no,.un .not (.t 106)⟩,
 ⟨some 105,none,.no,.mv (.t 107)⟩]
@[go_sem] def zq0 : List AIns := [
 ⟨some 10,none,.no,.mv (.v (.int .i64 80))⟩]
def zpd : ACode := .seq (.reg zq0) .ret
@[go_sem] def zq1 : List AIns := [
 ⟨some 109,none,.no,.mv (.t 11)⟩,
 ⟨some 110,none,.no,.bin .rem .none (.t 109) (.v (.int .i64 2))⟩,
 ⟨some 111,none,.no,.bin .eql .none (.t 110) (.v (.int .i64 1))⟩,
 ⟨some 112,none,.no,.mv (.t 111)⟩,
 ⟨some 113, some (112, false), .no, .mv (.t 11)⟩,
 ⟨some 114, some (112, false), .no, .mv (.t 12)⟩,
 ⟨some 115, some (112, false), .no, .bin .eql .none (.t 113) (.t 114)⟩,
 ⟨some 116,none,.no,.pick (.t 112) (.v (.bool true)) (.t 115)⟩,
 ⟨some 108,none,.no,.mv (.t 116)⟩]
@[go_sem] def zq2 : List AIns := [
 ⟨some 117, none, .rd, .load true 32 (.t 18)⟩,
 ⟨some 118, none, .rd, .load true 32 (.t 14)⟩,
 ⟨some 119, none, .ef, .call (.v (.fn 78 [])) [(.t 117), (.t 118)]⟩,
 ⟨some 120, none, .rd, .load true 32 (.t 18)⟩,
 ⟨some 121, none, .rd, .load true 32 (.t 15)⟩,
 ⟨some 122,none,.no,.call (.v (.fn 78 [])) [(.t 120), (.t 121)]⟩,
 ⟨none,none,.no,.store 32 (.t 14) (.t 119)⟩,
 ⟨none,none,.no,.store 32 (.t 15) (.t 122)⟩]
@[go_sem] def zq3 : List AIns := [
 ⟨some 123,none,.no,.mv (.t 11)⟩,
 ⟨some 124,none,.no,.bin .rem .none (.t 123) (.v (.int .i64 2))⟩,
 ⟨some 125,none,.no,.bin .eql .none (.t 124) (.v (.int .i64 0))⟩,
 ⟨some 126,none,.no,.mv (.t 125)⟩,
 ⟨some 127, some (126, true), .no, .mv (.t 11)⟩,
 ⟨some 128, some (126, true), .no, .bin .gtr .none (.t 127) (.v (.int .i64 0))⟩,
 ⟨some 129,none,.no,.pick (.t 126) (.t 128) (.v (.bool false))⟩]
def zpe : ACode := .cond (.t 129) .skip (.exit 6)
def zpf : ACode := .seq (.reg zq3) zpe
@[go_sem] def zq4 : List AIns := [
 ⟨some 130,none,.no,.mv (.t 11)⟩,
 ⟨some 131,none,.no,.bin .quo .none (.t 130) (.v (.int .i64 2))⟩,
 ⟨some 132,none,.no,.mv (.t 12)⟩,
 ⟨some 133,none,.no,.bin .quo .none (.t 132) (.v (.int .i64 2))⟩,
 ⟨some 11,none,.no,.mv (.t 131)⟩,
 ⟨some 12,none,.no,.mv (.t 133)⟩]
def zpg : ACode := .block 7 (.reg zq4)
def zph : ACode := .seq zpf zpg
def zpi : ACode := .loop zph
def zpj : ACode := .block 6 zpi
def zpk : ACode := .seq (.reg zq2) zpj
@[go_sem] def zq5 : List AIns := [
 ⟨some 102,none,.no,.load true 32 (.t 15)⟩,
 ⟨some 103,none,.no,.load true 32 (.t 18)⟩,
 ⟨some 104,none,.no,.call (.v (.fn 78 [])) [(.t 102), (.t 103)]⟩,
 ⟨none,none,.no,.store 32 (.t 15) (.t 104)⟩]
def zpl : ACode := .cond (.t 108) zpk (.reg zq5)
def zpm : ACode := .seq (.reg zq1) zpl
def zpn : ACode := .cond (.t 105) zpd zpm
def zpo : ACode := .seq (.reg zpz) zpn
def zpp : ACode := .block 5 zpo
def zpq : ACode := .seq (.reg zpy) zpp
@[go_sem] def zq6 : List AIns := [
 ⟨some 134,none,.no,.mv (.t 11)⟩,
 ⟨some 135,none,.no,.bin .quo .none (.t 134) (.v (.int .i64 2))⟩,
 ⟨some 136,none,.no,.mv (.t 12)⟩,
 ⟨some 137,none,.no,.bin .quo .none (.t 136) (.v (.int .i64 2))⟩,
 ⟨some 11,none,.no,.mv (.t 135)⟩,
 ⟨some 12,none,.no,.mv (.t 137)⟩]
def zpr : ACode := .seq zpq (.reg zq6)
def zps : ACode := .block 4 zpr
def zpt : ACode := .seq zpc zps
def zpu : ACode := .loop zpt
@[go_sem] def zq7 : List AIns := [
 ⟨some 138,none,.no,.load false 1 (.t 9)⟩,
 ⟨some 139,none,.no,.lenSl (.t 138)⟩,
 ⟨some 140,none,.no,.bin .eql .none (.t 139) (.v (.int .i64 0))⟩,
 ⟨some 141,none,.no,.mv (.t 140)⟩,
 ⟨some 142, some (141, true), .no, .load true 32 (.t 14)⟩,
 ⟨some 143, some (141, true), .no, .load true 32 (.t 7)⟩,
 ⟨some 144, some (141, true), .no, .bin .eql (.agg (List.replicate 32 (.i .u8) ++ [])) (.t 142) (.t 143)⟩,
 ⟨some 145,none,.no,.pick (.t 141) (.t 144) (.v (.bool false))⟩,
 ⟨some 146,none,.no,.mv (.t 145)⟩,
 ⟨some 147, some (146, true), .no, .load true 32 (.t 15)⟩,
 ⟨some 148, some (146, true), .no, .load true 32 (.t 8)⟩,
 ⟨some 149, some (146, true), .no, .bin .eql (.agg (List.replicate 32 (.i .u8) ++ [])) (.t 147) (.t 148)⟩,
 ⟨some 150,none,.no,.pick (.t 146) (.t 149) (.v (.bool false))⟩,
 ⟨some 151,none,.no,.call (.v (.fn 83 [])) [(.t 150)]⟩,
 ⟨some 10,none,.no,.mv (.t 151)⟩]
def zpv : ACode := .seq (.reg zq7) .ret
def zpw : ACode := .seq (.block 3 zpu) zpv
end
section
def subF : Nat -> List (List UInt8) -> Nat -> Bool -> List (List UInt8)
 | 0, _, _, _ => []
 | f + 1, l, m, known =>
  if m = l.length then (if known then [] else [z1o l])
  else if m <= z13 l.length then subF f (l.take (z13 l.length)) m known ++ [z1o (l.drop (z13 l.length))]
  else subF f (l.drop (z13 l.length)) (m - z13 l.length) false ++ [z1o (l.take (z13 l.length))]
def subS (l : List (List UInt8)) (m : Nat) (known : Bool) : List (List UInt8) := subF (l.length + 1) l m known
structure PrS (Y0 Y' : Store) (v : AV) (es : List (List AV)) : Prop where
 out : Y'[Y0.length]? = some (some [[v]])
 fn : Y'[Y0.length + 1]? = some (some [[.fn 73 [.ptr Y0.length 0 0, .ptr (Y0.length + 1) 0 0]]])
 keep : ∀ q, q < Y0.length -> Y'[q]? = Y0[q]?
 sl : (es = [] /\ v = .nilsl) \/ ∃ r, Y0.length + 2 <= r /\ es ≠ [] /\ v = .sl r 0 es.length none 32 /\ Y'[r]? = some (some es)
theorem PrS.lt {Y0 Y' : Store} {v : AV} {es : List (List AV)} (h : PrS Y0 Y' v es) : Y0.length + 2 <= Y'.length := by
 have := (List.getElem?_eq_some_iff.1 h.fn).1; omega
theorem PrS.add {Y0 Y' : Store} {v : AV} {es : List (List AV)} (h : PrS Y0 Y' v es) (row : List AV) (hl : es.length + 1 <= 1073741824) :
  ∃ r Y2, aApp Y' 32 v [row] = some (.sl r 0 (es.length + 1) none 32, Y2) /\ Y2[Y0.length]? = some (some [[v]]) /\ PrS Y0 (Y2.set Y0.length (some [[.sl r 0 (es.length + 1) none 32]])) (.sl r 0 (es.length + 1) none 32) (es ++ [row]) := by
 have hlt := h.lt
 obtain ⟨h1, h2, h3, ⟨rfl, rfl⟩ | ⟨r, hr, h0, rfl, hg⟩⟩ := h
 ·refine ⟨Y'.length, Y' ++ [some [row]], rfl, by rw [gapp (by omega)]; exact h1, ⟨?_, ?_, ?_, .inr ⟨Y'.length, by omega, by simp, by simp, ?_⟩⟩⟩
  ·rw [z22 (by simp; omega)]
  ·rw [z1d (by omega), gapp (by omega)]; exact h2
  ·intro q hq; rw [z1d (by omega), gapp (by omega)]; exact h3 q hq
  ·rw [z1d (by omega), z1a (Nat.le_refl _), Nat.sub_self]; rfl
 ·have hrl := (List.getElem?_eq_some_iff.1 hg).1
  refine ⟨Y'.length, Y'.set r none ++ [some (es ++ [row])], ?_, ?_, ⟨?_, ?_, ?_, .inr ⟨Y'.length, by omega, by simp, by simp, ?_⟩⟩⟩
  ·rw [z7w, if_neg (by simp), hg]
   simp only [List.length_cons, List.length_nil]
   rw [if_pos ⟨trivial, by omega, by omega⟩, if_neg (by omega), List.drop_zero, List.take_of_length_le (Nat.le_refl _)]
  ·rw [gapp (by simp; omega), z1d (by omega)]; exact h1
  ·rw [z22 (by simp; omega)]
  ·rw [z1d (by omega), gapp (by simp; omega), z1d (by omega)]; exact h2
  ·intro q hq; rw [z1d (by omega), gapp (by simp; omega), z1d (by omega)]; exact h3 q hq
  ·rw [z1d (by omega), z1a (by simp), List.length_set, Nat.sub_self]; rfl
theorem PrS.ex (Y0 : Store) (es : List (List AV)) : ∃ v Y', PrS Y0 Y' v es := by
 by_cases h : es = []
 ·exact ⟨.nilsl, Y0 ++ [some [[.nilsl]], some [[.fn 73 [.ptr Y0.length 0 0, .ptr (Y0.length + 1) 0 0]]]], by simp, by simp, fun q hq => gapp hq, .inl ⟨h, rfl⟩⟩
 ·exact ⟨.sl (Y0.length + 2) 0 es.length none 32, Y0 ++ [some [[.sl (Y0.length + 2) 0 es.length none 32]], some [[.fn 73 [.ptr Y0.length 0 0, .ptr (Y0.length + 1) 0 0]]], some es], by simp, by simp, fun q hq => gapp hq, .inr ⟨_, Nat.le_refl _, h, rfl, by simp⟩⟩
theorem DownV.tup2 {k : Nat} {v v2 : AV} {Y Y2 : Store} {i : IntKind} {e : Int} (h : DownV k v Y v2 Y2) : DownV k (.tup [v, .int i e]) Y (.tup [v2, .int i e]) Y2 := by
 obtain ⟨D, a, b, c⟩ := h
 exact ⟨D, a, b, by simp only [DR, DRs]; exact ⟨_, rfl, _, _, rfl, c, _, _, rfl, rfl, rfl⟩⟩
theorem za6 {Y Y' : Store} (h : Y.length <= Y'.length) (h2 : ∀ q, q < Y.length -> Y'[q]? = Y[q]?) : ∃ y, Y' = Y ++ y := by
 refine ⟨Y'.drop Y.length, ?_⟩
 have e : Y'.take Y.length = Y := by
  refine List.ext_getElem? fun i => ?_
  by_cases hi : i < Y.length
  ·rw [List.getElem?_take_of_lt hi]; exact h2 i hi
  ·rw [List.getElem?_eq_none (by simp; omega), List.getElem?_eq_none (by omega)]
 calc Y' = Y'.take Y.length ++ Y'.drop Y.length := (List.take_append_drop _ _).symm
  _ = Y ++ Y'.drop Y.length := by rw [e]
theorem PrS.own {Y0 Y' : Store} {v : AV} {es : List (List AV)} (h : PrS Y0 Y' v es) : OwnN 32 Y0 Y' v es := by
 have hlt := h.lt
 obtain ⟨y, rfl⟩ := za6 (by omega) h.keep
 obtain ⟨h1, h2, h3, h4 | ⟨r, hr, h0, rfl, hg⟩⟩ := h
 ·exact ⟨y, rfl, .inl h4⟩
 ·refine ⟨y, rfl, .inr ⟨r - Y0.length, h0, by rw [show Y0.length + (r - Y0.length) = r by omega], ?_⟩⟩
  rw [List.getElem?_append_right (by omega)] at hg; exact hg
def zan (hs : List (List UInt8)) (m : Int) : List (List UInt8) := if 0 < m /\ m < hs.length then subS hs m.toNat true else []
def zam (hs : List (List UInt8)) (m : Int) : Int := if m < 0 \/ (hs.length : Int) < m then 2 else 0
def ProofP (Y : Store) (hs : List (List UInt8)) (m : Int) (v : AV) (Y' : Store) : Prop := ∃ v2, v = .tup [v2, .int .i64 (zam hs m)] /\ OwnN 32 Y Y' v2 (z1l (zan hs m))
theorem ProofP.ex (Y : Store) (hs : List (List UInt8)) (m : Int) : ∃ v Y', ProofP Y hs m v Y' := ⟨_, _, _, rfl, z6z Y 32 _⟩
theorem ProofP.none {Y : Store} {hs : List (List UInt8)} {m : Int} (h : zan hs m = []) : ProofP Y hs m (.tup [.nilsl, .int .i64 (zam hs m)]) Y := ⟨.nilsl, rfl, by rw [h]; exact ⟨[], by simp, .inl ⟨rfl, rfl⟩⟩⟩
end
section
def OwnA (sz : Nat) (G Y' : Store) (v : AV) (es : List (List AV)) : Prop := OwnN sz G Y' v es \/ (v = .vsl sz es true /\ es ≠ [] /\ ∃ news, Y' = G ++ news)
theorem OwnA.app {sz : Nat} {G Y' : Store} {v : AV} {es ys : List (List AV)} (h : OwnA sz G Y' v es) (h0 : ys.length ≠ 0) (hl : es.length + ys.length <= 1073741824) :
  ∃ v' Y'', aApp Y' sz v ys = some (v', Y'') /\ OwnN sz G Y'' v' (es ++ ys) := by
 rcases h with h | ⟨rfl, h1, news, rfl⟩
 ·exact h.app h0 hl
 ·refine ⟨.sl (G ++ news).length 0 (es.length + ys.length) none sz, (G ++ news) ++ [some (es ++ ys)], by rw [z7x, if_neg h0, if_pos ⟨rfl, rfl, hl⟩], news ++ [some (es ++ ys)], by rw [List.append_assoc], .inr ⟨news.length, by simp [h1], by simp, by rw [List.getElem?_append_right (Nat.le_refl _)]; simp⟩⟩
theorem OwnA.rd {sz : Nat} {G Y' : Store} {v : AV} {es : List (List AV)} (h : OwnA sz G Y' v es) : RdSl Y' sz es v := by
 rcases h with h | ⟨rfl, _⟩
 ·exact h.rd
 ·exact .inl (.inr ⟨true, rfl⟩)
theorem OwnA.more {sz : Nat} {G Y' : Store} {v : AV} {es : List (List AV)} (h : OwnA sz G Y' v es) (y : Store) : OwnA sz G (Y' ++ y) v es := by
 rcases h with h | ⟨rfl, h1, news, rfl⟩
 ·exact .inl (h.more y)
 ·exact .inr ⟨rfl, h1, news ++ y, by rw [List.append_assoc]⟩
theorem OwnA.ext {sz : Nat} {G Y' : Store} {v : AV} {es : List (List AV)} (h : OwnA sz G Y' v es) : ∃ news, Y' = G ++ news := by
 rcases h with h | ⟨_, _, h⟩
 ·exact h.ext
 ·exact h
theorem OwnA.down {sz : Nat} {Y Y' : Store} {v : AV} {es : List (List AV)} (hw : Wf Y.length Y) (h : OwnA sz Y Y' v es) (hr : RLss Y.length es) : ∃ v2 Y2, OwnA sz Y Y2 v2 es /\ DownV Y.length v Y' v2 Y2 := by
 rcases h with h | ⟨rfl, h1, news, rfl⟩
 ·exact ⟨_, _, .inl (z6z Y sz es), h.own hw hr⟩
 ·exact ⟨_, Y, .inr ⟨rfl, h1, [], by simp⟩, DownV.pure hw (by simpa only [RL] using hr)⟩
end
section
def RefP (Y : Store) (hs : List (List UInt8)) (m : Int) (v : AV) (Y' : Store) : Prop := ∃ v2, v = .tup [v2, .int .i64 (zam hs m)] /\ OwnA 32 Y Y' v2 (z1l (zan hs m))
def st (i last : Nat) : Nat × Nat := if h : i % 2 = 1 then st (i / 2) (last / 2) else (i, last)
termination_by i
decreasing_by omega
def lp (i last : Nat) : List Bool :=
 if h : last = 0 then [] else if i % 2 = 1 then true :: lp (i / 2) (last / 2) else if i = last then lp (i / 2) (last / 2) else false :: lp (i / 2) (last / 2)
termination_by last
decreasing_by all_goals omega
def run : List Bool -> List (List UInt8) -> List UInt8 -> List UInt8 -> Option (List UInt8 × List UInt8)
 | [], [], a, b => some (a, b)
 | true :: p, h :: ps, a, b => run p ps (z2v h a) (z2v h b)
 | false :: p, h :: ps, a, b => run p ps a (z2v b h)
 | _, _, _, _ => none
def chkG (i last : Nat) (o : List UInt8) (ps : List (List UInt8)) : Option (List UInt8 × List UInt8) :=
 if 0 < i then match ps with
  | [] => none
  | h :: ps => run (lp i last) ps h h
 else run (lp i last) ps o o
def chkS (i last : Nat) (o : List UInt8) (ps : List (List UInt8)) : Option (List UInt8 × List UInt8) := chkG (st i last).1 (st i last).2 o ps
def fitI (r : Option (List UInt8 × List UInt8)) (o nw : List UInt8) : Int :=
 match r with
 | some (a, b) => if a = o /\ b = nw then 0 else 80
 | none => 80
def chkI (m n : Int) (o nw : List UInt8) (ps : List (List UInt8)) : Int :=
 if n < 0 \/ 4096 < n \/ m < 0 \/ n < m then 2
 else if m = 0 then (if ps = [] /\ o = z1o [] /\ (0 < n \/ nw = o) then 0 else 80)
 else if m = n then (if ps = [] /\ o = nw then 0 else 80)
 else fitI (chkS (m.toNat - 1) (n.toNat - 1) o ps) o nw
end
section
structure ChkM (ia ib : Nat) (Y Y' : Store) (o nw : List UInt8) (pv : AV) (ps : List (List UInt8)) (a b : List UInt8) : Prop where
 hab : (ia = 3 /\ ib = 4) \/ (ia = 4 /\ ib = 3)
 len : Y.length + 5 <= Y'.length
 keep : ∀ q, q < Y.length -> Y'[q]? = Y[q]?
 g0 : Y'[Y.length]? = some (some [zx o])
 g1 : Y'[Y.length + 1]? = some (some [zx nw])
 g2 : Y'[Y.length + 2]? = some (some [[pv]])
 g3 : Y'[Y.length + ia]? = some (some [zx a])
 g4 : Y'[Y.length + ib]? = some (some [zx b])
 hp : SlV 32 (z1l ps) pv
 ha : a.length = 32
 hb : b.length = 32
theorem ChkM.app {ia ib : Nat} {Y Y' y : Store} {o nw : List UInt8} {pv : AV} {ps : List (List UInt8)} {a b : List UInt8} (h : ChkM ia ib Y Y' o nw pv ps a b) : ChkM ia ib Y (Y' ++ y) o nw pv ps a b := by
 have hl := h.len
 have hab := h.hab
 refine ⟨hab, by rw [List.length_append]; omega, fun q hq => ?_, ?_, ?_, ?_, ?_, ?_, h.hp, h.ha, h.hb⟩
 ·rw [gapp (by omega)]; exact h.keep q hq
 ·rw [gapp (by omega)]; exact h.g0
 ·rw [gapp (by omega)]; exact h.g1
 ·rw [gapp (by omega)]; exact h.g2
 ·rw [gapp (by omega)]; exact h.g3
 ·rw [gapp (by omega)]; exact h.g4
theorem ChkM.fin {ia ib : Nat} {Y Y' : Store} {o nw : List UInt8} {pv : AV} {ps : List (List UInt8)} {a b : List UInt8} (h : ChkM ia ib Y Y' o nw pv ps a b) (hw : Wf Y.length Y) {i : Int} : DownV Y.length (.int .i64 i) Y' (.int .i64 i) Y := by
 have hl := h.len
 have hab := h.hab
 obtain ⟨y, rfl⟩ := za6 (by omega) h.keep
 exact DownV.pure hw (z14 _ rfl)
theorem SlV.cells {sz : Nat} {es : List (List AV)} {x : AV} (h : SlV sz es x) : cellsOf x = some [x] := by
 rcases h with ⟨rfl, rfl⟩ | ⟨ex, rfl⟩ <;> rfl
end
section

end
section
attribute [local irreducible] zpw
end
section
theorem split2 : z13 2 = 1 := by decide
theorem split4 : z13 4 = 2 := by decide
theorem ProofP.is {Y Y' : Store} {hs : List (List UInt8)} {m : Int} {v : AV} (h : ProofP Y hs m v Y') : ∃ v2, v = .tup [v2, .int .i64 (zam hs m)] /\ OwnN 32 Y Y' v2 (z1l (zan hs m)) := h
end
section
theorem RefP.ex (Y : Store) (hs : List (List UInt8)) (m : Int) : ∃ v Y', RefP Y hs m v Y' := ⟨_, _, _, rfl, .inl (z6z Y 32 _)⟩
end
section
abbrev Hash := {l : List UInt8 // l.length = 32}
def hc (h : Hash) : List AV := zx h.1
def hr (l : List Hash) : List (List AV) := l.map hc
def hb (l : List Hash) : List (List UInt8) := l.map (·.1)
theorem hb_H (l : List Hash) : H32 (hb l) := fun x hx => by
 simp only [hb, List.mem_map] at hx
 obtain ⟨h, _, rfl⟩ := hx
 exact h.2
theorem za8 (l : List Hash) : (hb l).length = l.length := by simp [hb]
theorem zma (l : List Hash) (n : Nat) : (hb l).take n = hb (l.take n) := by simp [hb, List.map_take]
theorem zm9 (l : List Hash) (n : Nat) : (hb l).drop n = hb (l.drop n) := by simp [hb, List.map_drop]
theorem zcf (l : List Hash) : z1l (hb l) = hr l := by simp [z1l, hb, hr, hc]
@[go_sem] theorem z7 (h : Hash) : (hc h).length = 32 := by rw [hc, z11, h.2]
@[go_sem] theorem zmb (h : Hash) : (hc h).drop 32 = [] := List.drop_of_length_le (by rw [z7]; decide)
@[go_sem] theorem zmc (h : Hash) : (hc h).take 32 = hc h := List.take_of_length_le (by rw [z7]; decide)
@[go_sem] theorem z8g (h : Hash) (l : List AV) : (hc h ++ l).take 32 = hc h := by
 have := z7 h
 rw [List.take_append_of_le_length (by omega), zmc]
@[go_sem] theorem zcc (h : Hash) (l : List AV) : (hc h ++ l).drop 32 = l := by
 have := z7 h
 rw [List.drop_append_of_le_length (by omega), zmb, List.nil_append]
@[go_sem] theorem hc_eq (a b : Hash) : z1q (hc a) (hc b) = decide (a = b) := by
 rw [hc, hc, zfq, Bool.eq_iff_iff]
 simp [Subtype.ext_iff]
@[go_sem] theorem hc_kinds (h : Hash) : (hc h).map z1f = (List.replicate 32 (LK.i .u8)).map some := znb h.2
@[go_sem] theorem z6 (l : List Hash) : (hr l).length = l.length := by simp [hr]
@[go_sem] theorem zge (l : List Hash) (n : Nat) : (hr l).take n = hr (l.take n) := by simp [hr, List.map_take]
@[go_sem] theorem hr_drop (l : List Hash) (n : Nat) : (hr l).drop n = hr (l.drop n) := by simp [hr, List.map_drop]
@[go_sem] theorem hr_set (l : List Hash) (i : Nat) (h : Hash) : (hr l).set i (hc h) = hr (l.set i h) := by simp [hr, List.map_set]
theorem zgc (a b : List Hash) : hr (a ++ b) = hr a ++ hr b := by simp [hr]
theorem zcg : hr [] = [] := rfl
theorem z8j (h : Hash) (l : List Hash) : hr (h :: l) = hc h :: hr l := rfl
theorem hr_nil_iff {l : List Hash} : hr l = [] ↔ l = [] := by simp [hr]
def zeroH : Hash := ⟨List.replicate 32 0, by simp⟩
def hd (l : List Hash) (i : Nat) : Hash := l.getD i zeroH
@[go_sem] theorem z69 {l : List Hash} {i : Nat} (h : i < l.length) : (hr l)[i]? = some (hc (hd l i)) := by
 simp [hr, hd, List.getElem?_map, List.getElem?_eq_getElem h]
theorem z6s {l : List Hash} {i : Nat} (h : i < l.length) : hd l i = l[i] := by simp [hd, h]
theorem z78 {k : Nat} (h : Hash) : RLs k (hc h) := z2c _
theorem z1w {k : Nat} (l : List Hash) : RLss k (hr l) := by rw [<- zcf]; exact zav _
theorem zb3 (k : Nat) (h : Hash) : shs k (hc h) = hc h := zds k _
def zz (a b : Hash) : Hash := ⟨z2v a.1 b.1, zaf _ _⟩
def z18 (l : List Hash) : Hash := ⟨z1o (hb l), z58 (hb_H l)⟩
def shaH (s : List UInt8) : Hash := ⟨shaS s, zdr s⟩
theorem zdk (h : Hash) : z18 [h] = h := rfl
theorem z8w {l : List Hash} (h : 2 <= l.length) : z18 l = zz (z18 (l.take (z13 l.length))) (z18 (l.drop (z13 l.length))) := by
 apply Subtype.ext
 show z1o (hb l) = z2v (z1o (hb _)) (z1o (hb _))
 rw [<- zma, <- zm9]
 have := zay (l := hb l) (by rw [za8]; exact h)
 rwa [za8] at this
theorem z93 (Y : Store) (a b : Hash) : ACallsTo TC 78 [.agg (hc a), .agg (hc b)] Y (.agg (hc (zz a b))) Y := ze6 Y a.1 b.1 a.2 b.2
theorem zb9 (Y : Store) (l : List Hash) (x : AV) (hx : RdSl Y 32 (hr l) x) (hl : l.length < 1000000000) : ACallsTo TC 45 [x] Y (.agg (hc (z18 l))) Y :=
 zt6 Y (hb l) x (by rw [zcf]; exact hx) (hb_H l) (by rw [za8]; exact hl)
theorem zar (Y : Store) (l : List Hash) (x : AV) (hx : RdSl Y 32 (hr l) x) (hl : l.length < 1000000000) : ACallsTo TC 56 [x] Y (.agg (hc (z18 l))) Y :=
 zr4 Y (hb l) x (by rw [zcf]; exact hx) (hb_H l) (by rw [za8]; exact hl)
end
section
def z29 : Nat -> List Hash -> Hash -> List Hash
 | _, [], h => [h]
 | m, x :: rs, h => if m % 2 = 1 then z29 (m / 2) rs (zz x h) else h :: x :: rs
theorem z8r {m : Nat} {rs : List Hash} {h : Hash} (hm : m % 2 = 0) : z29 m rs h = h :: rs := by
 cases rs with
 | nil => rfl
 | cons x rs => simp [z29, hm]
theorem z8s {m : Nat} {rs : List Hash} {x h : Hash} (hm : m % 2 = 1) : z29 m (x :: rs) h = z29 (m / 2) rs (zz x h) := by simp [z29, hm]
theorem zd8 : ∀ (f m : Nat) (rs : List Hash) (h : Hash), m + 1 < 2 ^ f -> rs.length = pc f m -> (z29 m rs h).length = pc f (m + 1)
 | 0, _, _, _, h, _ => by simp at h
 | f + 1, m, rs, h, hm, hl => by
  have e2 := Nat.pow_succ (n := 2) (m := f)
  simp only [pc] at hl ⊢
  by_cases h1 : m % 2 = 1
  ·match rs, hl with
   | [], hl => simp at hl; omega
   | x :: rs, hl =>
    simp only [List.length_cons] at hl
    rw [z8s h1, zd8 f (m / 2) rs (zz x h) (by omega) (by omega), show (m + 1) / 2 = m / 2 + 1 by omega]
    omega
  ·rw [z8r (by omega), List.length_cons, show (m + 1) / 2 = m / 2 by omega]
   omega
theorem pc_two (j f m : Nat) : pc (f + j) (2 ^ j * m) = pc f m := by
 induction j with
 | zero => simp
 | succ j ih =>
  have h1 : 2 ^ (j + 1) * m = 2 * (2 ^ j * m) := by rw [Nat.pow_succ, Nat.mul_comm (2 ^ j) 2, Nat.mul_assoc]
  show pc ((f + j) + 1) _ = _
  simp only [pc]
  rw [h1, Nat.mul_div_cancel_left _ (by decide), ih]; omega
def extR : Nat -> List Hash -> List Hash -> List Hash
 | _, rs, [] => rs
 | n, rs, x :: l => extR (n + 1) (z29 n rs x) l
theorem z8a : ∀ (n : Nat) (rs l m : List Hash), extR n rs (l ++ m) = extR (n + l.length) (extR n rs l) m
 | n, rs, [], m => by simp [extR]
 | n, rs, x :: l, m => by
  simp only [List.cons_append, extR, List.length_cons]
  rw [z8a (n + 1), show n + 1 + l.length = n + (l.length + 1) by omega]
theorem za4 : ∀ (f n : Nat) (rs l : List Hash), n + l.length < 2 ^ f -> rs.length = pc f n -> (extR n rs l).length = pc f (n + l.length)
 | _, _, _, [], _, h => h
 | f, n, rs, x :: l, h, hl => by
  simp only [List.length_cons] at h ⊢
  simp only [extR]
  rw [za4 f (n + 1) _ l (by omega) (zd8 f n rs x (by omega) hl), show n + 1 + l.length = n + (l.length + 1) by omega]
def ofR (l : List Hash) : List Hash := extR 0 [] l
theorem z7f (j : Nat) : z13 (2 ^ (j + 1)) = 2 ^ j := by
 have : 0 < 2 ^ j := Nat.pow_pos (by decide)
 exact zb6 (by rw [Nat.pow_succ]; omega) (Nat.le_refl _)
theorem zrg {j : Nat} {c : List Hash} (h : c.length = 2 ^ (j + 1)) : z18 c = zz (z18 (c.take (2 ^ j))) (z18 (c.drop (2 ^ j))) := by
 have : 0 < 2 ^ j := Nat.pow_pos (by decide)
 rw [z8w (by rw [h, Nat.pow_succ]; omega), h, z7f]
theorem za5 : ∀ (j q : Nat) (rs c : List Hash), c.length = 2 ^ j -> extR (2 ^ j * q) rs c = z29 q rs (z18 c)
 | 0, q, rs, c, h => by
  match c, h with
  | [x], _ => simp [extR, zdk]
 | j + 1, q, rs, c, h => by
  have hp : 0 < 2 ^ j := Nat.pow_pos (by decide)
  have e2 := Nat.pow_succ (n := 2) (m := j)
  have l1 : (c.take (2 ^ j)).length = 2 ^ j := by rw [List.length_take]; omega
  have l2 : (c.drop (2 ^ j)).length = 2 ^ j := by rw [List.length_drop]; omega
  have e : extR (2 ^ (j + 1) * q) rs c = extR (2 ^ (j + 1) * q) rs (c.take (2 ^ j) ++ c.drop (2 ^ j)) := by rw [List.take_append_drop]
  rw [e, z8a, l1, show 2 ^ (j + 1) * q = 2 ^ j * (2 * q) by rw [e2, Nat.mul_assoc], za5 j (2 * q) rs _ l1, show 2 ^ j * (2 * q) + 2 ^ j = 2 ^ j * (2 * q + 1) by rw [Nat.mul_add, Nat.mul_one],
   za5 j (2 * q + 1) _ _ l2, z8r (m := 2 * q) (by omega), z8s (by omega), show (2 * q + 1) / 2 = q by omega, zrg h]
def z5u : List Hash -> Hash
 | [] => shaH []
 | x :: rs => rs.foldl (fun o h => zz h o) x
theorem zhk : ∀ (j f i : Nat) (rs : List Hash) (a x : Hash), i + 1 < 2 ^ j -> rs.length = pc f i -> j <= f -> z29 (2 ^ j + i) (rs ++ [a]) x = z29 i rs x ++ [a]
 | 0, _, _, _, _, _, h, _, _ => by simp at h
 | j + 1, 0, _, _, _, _, _, _, h => by omega
 | j + 1, f + 1, i, rs, a, x, h, hl, hj => by
  have e2 := Nat.pow_succ (n := 2) (m := j)
  simp only [pc] at hl
  by_cases h1 : i % 2 = 1
  ·match rs, hl with
   | [], hl => simp at hl; omega
   | y :: rs, hl =>
    simp only [List.length_cons] at hl
    rw [List.cons_append, z8s (by omega), z8s h1, show (2 ^ (j + 1) + i) / 2 = 2 ^ j + i / 2 by omega]
    exact zhk j f (i / 2) rs a _ (by omega) (by omega) (by omega)
  ·rw [z8r (by omega), z8r (by omega)]; rfl
theorem zfu : ∀ (j : Nat) (b : List Hash) (i : Nat) (rs : List Hash) (a : Hash), i + b.length < 2 ^ j -> rs.length = pc j i -> extR (2 ^ j + i) (rs ++ [a]) b = extR i rs b ++ [a]
 | _, [], _, _, _, _, _ => rfl
 | j, x :: b, i, rs, a, h, hl => by
  simp only [List.length_cons] at h
  simp only [extR]
  rw [zhk j j i rs a x (by omega) hl (Nat.le_refl _), Nat.add_assoc]
  exact zfu j b (i + 1) _ a (by omega) (zd8 j i rs x (by omega) hl)
theorem zrd {l : List Hash} {a : Hash} (h : l ≠ []) : z5u (l ++ [a]) = zz a (z5u l) := by
 match l, h with
 | x :: l, _ => simp [z5u]
theorem zh0 : ∀ (f : Nat) (l : List Hash), l.length < f -> z5u (ofR l) = z18 l
 | 0, _, h => by omega
 | f + 1, [], _ => rfl
 | f + 1, x :: m, h => by
  obtain ⟨l, hl⟩ : ∃ l, l = x :: m := ⟨_, rfl⟩
  have hp : 0 < l.length := by rw [hl]; simp
  rw [<- hl] at h ⊢
  clear hl
  have h1 := Nat.log2_self_le (n := l.length) (by omega)
  have h2 := Nat.lt_log2_self (n := l.length)
  generalize Nat.log2 l.length = j at *
  rw [Nat.pow_succ] at h2
  have hj : 0 < 2 ^ j := Nat.pow_pos (by decide)
  by_cases h3 : l.length = 2 ^ j
  ·have := za5 j 0 [] l h3
   rw [Nat.mul_zero] at this
   rw [ofR, this]; rfl
  ·have l1 : (l.take (2 ^ j)).length = 2 ^ j := by rw [List.length_take]; omega
   have e : ofR l = extR 0 [] (l.take (2 ^ j) ++ l.drop (2 ^ j)) := by rw [List.take_append_drop]; rfl
   have c := za5 j 0 [] _ l1
   rw [Nat.mul_zero] at c
   have b := zfu j (l.drop (2 ^ j)) 0 [] (z18 (l.take (2 ^ j))) (by rw [List.length_drop]; omega) (by rw [zal]; rfl)
   have hne : extR 0 [] (l.drop (2 ^ j)) ≠ [] := by
    intro hn
    have := za4 (j + 1) 0 [] (l.drop (2 ^ j)) (by rw [List.length_drop, Nat.pow_succ]; omega) (by rw [zal]; rfl)
    rw [hn] at this
    exact z8p (j + 1) _ (by rw [List.length_drop]; omega) (by rw [List.length_drop, Nat.pow_succ]; omega) this.symm
   have ih := zh0 f (l.drop (2 ^ j)) (by rw [List.length_drop]; omega)
   simp only [ofR] at ih
   rw [e, z8a, l1, c, show z29 0 [] (z18 (l.take (2 ^ j))) = [] ++ [z18 (l.take (2 ^ j))] from rfl, show 0 + 2 ^ j = 2 ^ j + 0 by omega, b, zrd hne, ih, z8w (l := l) (by omega),
    zb6 (n := l.length) (j := j) (by omega) (by rw [Nat.pow_succ]; omega)]
where
 z8p : ∀ (f n : Nat), 0 < n -> n < 2 ^ f -> pc f n ≠ 0
  | 0, n, h, h' => by simp at h'; omega
  | f + 1, n, h, h' => by
   rw [Nat.pow_succ] at h'
   simp only [pc]
   by_cases h1 : n % 2 = 1
   ·omega
   ·have := z8p f (n / 2) (by omega) (by omega); omega
end
section

end
section
set_option maxRecDepth 10000
@[go_sem] def qqr0 : List AIns := [
 ⟨some 2,none,.no,.box (.t 0)⟩,
 ⟨some 3,none,.no,.box (.t 1)⟩,
 ⟨some 4,none,.no,.alloc [(.int .i64 0), .nilsl]⟩,
 ⟨some 5,none,.no,.mv (.v (.int .i64 0))⟩]
@[go_sem] def qqr1 : List AIns := [
 ⟨some 6,none,.no,.load true 2 (.t 2)⟩,
 ⟨some 7,none,.no,.load true 32 (.t 3)⟩,
 ⟨some 8,none,.no,.lit 32 [(.t 7)]⟩,
 ⟨some 9,none,.no,.call (.v (.fn 94 [])) [(.t 6), (.t 8)]⟩,
 ⟨some 10,none,.no,.ext 0 (.t 9)⟩,
 ⟨some 11,none,.no,.ext 1 (.t 9)⟩,
 ⟨none,none,.no,.store 2 (.t 4) (.t 10)⟩,
 ⟨some 5,none,.no,.mv (.t 11)⟩]
def qqc2 : ACode := .seq (.reg qqr1) .ret
def qqc3 : ACode := .seq (.reg qqr0) qqc2
theorem qqok : cFn TC 63 = some (12, [.c 4 true 2, .t 5], qqc3) := by kernel_rfl
@[go_sem] def qrr0 : List AIns := [
 ⟨some 2,none,.no,.box (.t 0)⟩,
 ⟨some 4,none,.no,.alloc [(.int .i64 0), .nilsl]⟩,
 ⟨some 5,none,.no,.mv (.v (.int .i64 0))⟩]
@[go_sem] def qrr1 : List AIns := [
 ⟨some 9,none,.no,.load true 2 (.t 2)⟩,
 ⟨some 10,none,.no,.call (.v (.fn 95 [])) [(.t 9)]⟩,
 ⟨some 11,none,.no,.un .not (.t 10)⟩,
 ⟨some 8,none,.no,.mv (.t 11)⟩]
@[go_sem] def qrr2 : List AIns := [
 ⟨some 12,none,.no,.build [(.int .i64 0), .nilsl] []⟩,
 ⟨none,none,.no,.store 2 (.t 4) (.t 12)⟩,
 ⟨some 5,none,.no,.mv (.v (.int .i64 2))⟩]
def qrc3 : ACode := .seq (.reg qrr2) .ret
@[go_sem] def qrr4 : List AIns := [
 ⟨some 14,none,.no,.mv (.t 1)⟩,
 ⟨some 15,none,.no,.lenSl (.t 14)⟩,
 ⟨some 16,none,.no,.fa 0 (.t 2)⟩,
 ⟨some 17,none,.no,.load false 1 (.t 16)⟩,
 ⟨some 18,none,.no,.bin .sub .none (.v (.int .i64 4096)) (.t 17)⟩,
 ⟨some 19,none,.no,.bin .gtr .none (.t 15) (.t 18)⟩,
 ⟨some 13,none,.no,.mv (.t 19)⟩]
@[go_sem] def qrr5 : List AIns := [
 ⟨some 20,none,.no,.build [(.int .i64 0), .nilsl] []⟩,
 ⟨none,none,.no,.store 2 (.t 4) (.t 20)⟩,
 ⟨some 5,none,.no,.mv (.v (.int .i64 60))⟩]
def qrc6 : ACode := .seq (.reg qrr5) .ret
def qrc7 : ACode := .cond (.t 13) qrc6 .skip
def qrc8 : ACode := .seq (.reg qrr4) qrc7
def qrc9 : ACode := .cond (.t 8) qrc3 qrc8
def qrc10 : ACode := .seq (.reg qrr1) qrc9
@[go_sem] def qrr11 : List AIns := [
 ⟨some 21,none,.no,.fa 1 (.t 2)⟩,
 ⟨some 22,none,.no,.load false 1 (.t 21)⟩,
 ⟨some 23,none,.no,.call (.v (.fn 82 [])) [(.t 22)]⟩,
 ⟨some 24,none,.no,.fa 1 (.t 2)⟩,
 ⟨none,none,.no,.store 1 (.t 24) (.t 23)⟩]
@[go_sem] def qrr12 : List AIns := [
 ⟨some 25,none,.no,.mv (.t 1)⟩,
 ⟨some 26,none,.no,.lenSl (.t 25)⟩,
 ⟨some 27,none,.no,.mv (.v (.int .i64 0))⟩]
@[go_sem] def qrr13 : List AIns := [
 ⟨some 28,none,.no,.bin .lss .none (.t 27) (.t 26)⟩]
@[go_sem] def qrr14 : List AIns := [
 ⟨some 29,none,.no,.iaSl 32 (.t 25) (.t 27)⟩,
 ⟨some 30,none,.no,.load true 32 (.t 29)⟩,
 ⟨some 7,none,.no,.alloc zZ0⟩,
 ⟨none,none,.no,.store 32 (.t 7) (.t 30)⟩]
@[go_sem] def qrr15 : List AIns := [
 ⟨some 31,none,.no,.load true 2 (.t 2)⟩,
 ⟨some 32,none,.no,.load true 32 (.t 7)⟩,
 ⟨some 33,none,.no,.call (.v (.fn 116 [])) [(.t 31), (.v (.int .i64 1)), (.t 32)]⟩,
 ⟨none,none,.no,.store 2 (.t 2) (.t 33)⟩]
def qrc16 : ACode := .seq (.reg qrr14) (.reg qrr15)
@[go_sem] def qrr17 : List AIns := [
 ⟨some 34,none,.no,.bin .add .none (.t 27) (.v (.int .i64 1))⟩,
 ⟨some 27,none,.no,.mv (.t 34)⟩]
def qrc18 : ACode := .seq (.block 2 qrc16) (.reg qrr17)
def qrc19 : ACode := .seq (.cond (.t 28) .skip (.exit 1)) qrc18
def qrc20 : ACode := .seq (.reg qrr13) qrc19
def qrc21 : ACode := .loop qrc20
def qrc22 : ACode := .block 1 qrc21
def qrc23 : ACode := .seq (.reg qrr12) qrc22
@[go_sem] def qrr24 : List AIns := [
 ⟨some 35,none,.no,.load true 2 (.t 2)⟩,
 ⟨none,none,.no,.store 2 (.t 4) (.t 35)⟩,
 ⟨some 5,none,.no,.mv (.v (.int .i64 0))⟩]
def qrc25 : ACode := .seq (.reg qrr24) .ret
def qrc26 : ACode := .seq qrc23 qrc25
def qrc27 : ACode := .seq (.reg qrr11) qrc26
def qrc28 : ACode := .seq (.block 0 qrc10) qrc27
def qrc29 : ACode := .seq (.reg qrr0) qrc28
theorem qrok : cFn TC 94 = some (36, [.c 4 true 2, .t 5], qrc29) := by kernel_rfl
@[go_sem] def qsr0 : List AIns := [
 ⟨some 1,none,.no,.box (.t 0)⟩,
 ⟨some 2,none,.no,.mv (.v (.bool false))⟩]
@[go_sem] def qsr1 : List AIns := [
 ⟨some 3,none,.no,.fa 0 (.t 1)⟩,
 ⟨some 4,none,.no,.load false 1 (.t 3)⟩,
 ⟨some 5,none,.no,.bin .geq .none (.t 4) (.v (.int .i64 0))⟩,
 ⟨some 6,none,.no,.mv (.t 5)⟩,
 ⟨some 7, some (6, true), .no, .fa 0 (.t 1)⟩,
 ⟨some 8, some (6, true), .no, .load false 1 (.t 7)⟩,
 ⟨some 9, some (6, true), .no, .bin .leq .none (.t 8) (.v (.int .i64 4096))⟩,
 ⟨some 10,none,.no,.pick (.t 6) (.t 9) (.v (.bool false))⟩,
 ⟨some 11,none,.no,.mv (.t 10)⟩,
 ⟨some 12, some (11, true), .no, .fa 1 (.t 1)⟩,
 ⟨some 13, some (11, true), .rd, .load false 1 (.t 12)⟩,
 ⟨some 14, some (11, true), .no, .lenSl (.t 13)⟩,
 ⟨some 15, some (11, true), .no, .fa 0 (.t 1)⟩,
 ⟨some 16, some (11, true), .rd, .load false 1 (.t 15)⟩,
 ⟨some 17, some (11, true), .ef, .call (.v (.fn 117 [])) [(.t 16)]⟩,
 ⟨some 18, some (11, true), .no, .bin .eql .none (.t 14) (.t 17)⟩,
 ⟨some 19,none,.no,.pick (.t 11) (.t 18) (.v (.bool false))⟩,
 ⟨some 2,none,.no,.mv (.t 19)⟩]
def qsc2 : ACode := .seq (.reg qsr1) .ret
def qsc3 : ACode := .seq (.reg qsr0) qsc2
theorem qsok : cFn TC 95 = some (20, [.t 2], qsc3) := by kernel_rfl
@[go_sem] def qtr0 : List AIns := [
 ⟨some 1,none,.no,.box (.t 0)⟩,
 ⟨some 2,none,.no,.alloc zZ0⟩,
 ⟨some 3,none,.no,.mv (.v (.int .i64 0))⟩]
@[go_sem] def qtr1 : List AIns := [
 ⟨some 9,none,.no,.load true 2 (.t 1)⟩,
 ⟨some 10,none,.no,.call (.v (.fn 95 [])) [(.t 9)]⟩,
 ⟨some 11,none,.no,.un .not (.t 10)⟩,
 ⟨some 8,none,.no,.mv (.t 11)⟩]
@[go_sem] def qtr2 : List AIns := [
 ⟨some 12,none,.no,.build zZ0 []⟩,
 ⟨none,none,.no,.store 32 (.t 2) (.t 12)⟩,
 ⟨some 3,none,.no,.mv (.v (.int .i64 2))⟩]
def qtc3 : ACode := .seq (.reg qtr2) .ret
@[go_sem] def qtr4 : List AIns := [
 ⟨some 14,none,.no,.fa 0 (.t 1)⟩,
 ⟨some 15,none,.no,.load false 1 (.t 14)⟩,
 ⟨some 16,none,.no,.bin .eql .none (.t 15) (.v (.int .i64 0))⟩,
 ⟨some 13,none,.no,.mv (.t 16)⟩]
@[go_sem] def qtr5 : List AIns := [
 ⟨some 17,none,.no,.call (.v (.fn 45 [])) [(.v .nilsl)]⟩,
 ⟨none,none,.no,.store 32 (.t 2) (.t 17)⟩,
 ⟨some 3,none,.no,.mv (.v (.int .i64 0))⟩]
def qtc6 : ACode := .seq (.reg qtr5) .ret
def qtc7 : ACode := .cond (.t 13) qtc6 .skip
def qtc8 : ACode := .seq (.reg qtr4) qtc7
def qtc9 : ACode := .cond (.t 8) qtc3 qtc8
def qtc10 : ACode := .seq (.reg qtr1) qtc9
@[go_sem] def qtr11 : List AIns := [
 ⟨some 18,none,.no,.fa 1 (.t 1)⟩,
 ⟨some 19,none,.no,.load false 1 (.t 18)⟩,
 ⟨some 20,none,.no,.lenSl (.t 19)⟩,
 ⟨some 21,none,.no,.bin .sub .none (.t 20) (.v (.int .i64 1))⟩,
 ⟨some 4,none,.no,.mv (.t 21)⟩]
@[go_sem] def qtr12 : List AIns := [
 ⟨some 22,none,.no,.fa 1 (.t 1)⟩,
 ⟨some 23,none,.no,.load false 1 (.t 22)⟩,
 ⟨some 24,none,.no,.mv (.t 4)⟩,
 ⟨some 25,none,.no,.iaSl 32 (.t 23) (.t 24)⟩,
 ⟨some 26,none,.no,.load true 32 (.t 25)⟩,
 ⟨some 5,none,.no,.alloc zZ0⟩,
 ⟨none,none,.no,.store 32 (.t 5) (.t 26)⟩]
@[go_sem] def qtr13 : List AIns := [
 ⟨some 27,none,.no,.fa 1 (.t 1)⟩,
 ⟨some 28,none,.no,.load false 1 (.t 27)⟩,
 ⟨some 29,none,.no,.mv (.t 4)⟩,
 ⟨some 30,none,.no,.slice (.sl 32) (.t 28) none (some (.t 29)) none⟩,
 ⟨some 31,none,.no,.call (.v (.fn 96 [])) [(.t 30)]⟩]
@[go_sem] def qtr14 : List AIns := [
 ⟨some 7,none,.no,.alloc zZ0⟩,
 ⟨none,none,.no,.store 32 (.t 7) (.t 33)⟩]
@[go_sem] def qtr15 : List AIns := [
 ⟨some 34,none,.no,.load true 32 (.t 7)⟩,
 ⟨some 35,none,.no,.load true 32 (.t 5)⟩,
 ⟨some 36,none,.no,.call (.v (.fn 78 [])) [(.t 34), (.t 35)]⟩,
 ⟨none,none,.no,.store 32 (.t 5) (.t 36)⟩]
def qtc16 : ACode := .block 2 (.reg qtr15)
def qtc17 : ACode := .rangef (.t 31) [32, 33] (.reg qtr14) qtc16
def qtc18 : ACode := .block 1 qtc17
def qtc19 : ACode := .seq (.reg qtr13) qtc18
@[go_sem] def qtr20 : List AIns := [
 ⟨some 37,none,.no,.load true 32 (.t 5)⟩,
 ⟨none,none,.no,.store 32 (.t 2) (.t 37)⟩,
 ⟨some 3,none,.no,.mv (.v (.int .i64 0))⟩]
def qtc21 : ACode := .seq (.reg qtr20) .ret
def qtc22 : ACode := .seq qtc19 qtc21
def qtc23 : ACode := .seq (.reg qtr12) qtc22
def qtc24 : ACode := .seq (.reg qtr11) qtc23
def qtc25 : ACode := .seq (.block 0 qtc10) qtc24
def qtc26 : ACode := .seq (.reg qtr0) qtc25
theorem qtok : cFn TC 64 = some (38, [.c 2 true 32, .t 3], qtc26) := by kernel_rfl
@[go_sem] def qur0 : List AIns := [
 ⟨some 2,none,.no,.mv (.v .nilsl)⟩]
@[go_sem] def qur1 : List AIns := [
 ⟨some 3,none,.no,.mv (.t 0)⟩,
 ⟨some 4,none,.no,.bin .eql .slc (.t 3) (.v .nilsl)⟩]
@[go_sem] def qur2 : List AIns := [
 ⟨some 2,none,.no,.mv (.v .nilsl)⟩]
def quc3 : ACode := .seq (.reg qur2) .ret
def quc4 : ACode := .cond (.t 4) quc3 .skip
def quc5 : ACode := .seq (.reg qur1) quc4
@[go_sem] def qur6 : List AIns := [
 ⟨some 5,none,.no,.lit 32 []⟩,
 ⟨some 6,none,.no,.mv (.t 0)⟩,
 ⟨some 7,none,.no,.app 32 (.t 5) (.t 6)⟩,
 ⟨some 2,none,.no,.mv (.t 7)⟩]
def quc7 : ACode := .seq (.reg qur6) .ret
def quc8 : ACode := .seq quc5 quc7
def quc9 : ACode := .seq (.reg qur0) quc8
theorem quok : cFn TC 82 = some (8, [.t 2], quc9) := by kernel_rfl
@[go_sem] def qvr0 : List AIns := [
 ⟨some 3,none,.no,.box (.t 0)⟩,
 ⟨some 5,none,.no,.box (.t 2)⟩,
 ⟨some 6,none,.no,.alloc [(.int .i64 0), .nilsl]⟩]
@[go_sem] def qvr1 : List AIns := [
 ⟨some 9,none,.no,.fa 1 (.t 3)⟩,
 ⟨some 10,none,.no,.load false 1 (.t 9)⟩,
 ⟨some 11,none,.no,.call (.v (.fn 82 [])) [(.t 10)]⟩,
 ⟨some 7,none,.no,.mv (.t 11)⟩]
@[go_sem] def qvr2 : List AIns := [
 ⟨some 12,none,.no,.mv (.t 1)⟩,
 ⟨some 8,none,.no,.mv (.t 12)⟩]
@[go_sem] def qvr3 : List AIns := [
 ⟨some 13,none,.no,.fa 0 (.t 3)⟩,
 ⟨some 14,none,.no,.load false 1 (.t 13)⟩,
 ⟨some 15,none,.no,.mv (.t 8)⟩,
 ⟨some 16,none,.no,.bin .and .none (.t 14) (.t 15)⟩,
 ⟨some 17,none,.no,.bin .neq .none (.t 16) (.v (.int .i64 0))⟩]
def qvc4 : ACode := .cond (.t 17) .skip (.exit 0)
def qvc5 : ACode := .seq (.reg qvr3) qvc4
@[go_sem] def qvr6 : List AIns := [
 ⟨some 20,none,.no,.mv (.t 7)⟩,
 ⟨some 21,none,.no,.mv (.t 7)⟩,
 ⟨some 22,none,.no,.lenSl (.t 21)⟩,
 ⟨some 23,none,.no,.bin .sub .none (.t 22) (.v (.int .i64 1))⟩,
 ⟨some 24,none,.no,.iaSl 32 (.t 20) (.t 23)⟩,
 ⟨some 25, none, .rd, .load true 32 (.t 24)⟩,
 ⟨some 26, none, .rd, .load true 32 (.t 5)⟩,
 ⟨some 27,none,.no,.call (.v (.fn 78 [])) [(.t 25), (.t 26)]⟩,
 ⟨none,none,.no,.store 32 (.t 5) (.t 27)⟩]
@[go_sem] def qvr7 : List AIns := [
 ⟨some 28,none,.no,.mv (.t 7)⟩,
 ⟨some 29,none,.no,.mv (.t 7)⟩,
 ⟨some 30,none,.no,.lenSl (.t 29)⟩,
 ⟨some 31,none,.no,.bin .sub .none (.t 30) (.v (.int .i64 1))⟩,
 ⟨some 32,none,.no,.slice (.sl 32) (.t 28) none (some (.t 31)) none⟩,
 ⟨some 7,none,.no,.mv (.t 32)⟩]
def qvc8 : ACode := .seq (.reg qvr6) (.reg qvr7)
@[go_sem] def qvr9 : List AIns := [
 ⟨some 18,none,.no,.mv (.t 8)⟩,
 ⟨some 19,none,.no,.bin .mul .none (.t 18) (.v (.int .i64 2))⟩,
 ⟨some 8,none,.no,.mv (.t 19)⟩]
def qvc10 : ACode := .seq (.block 1 qvc8) (.reg qvr9)
def qvc11 : ACode := .seq qvc5 qvc10
def qvc12 : ACode := .loop qvc11
def qvc13 : ACode := .block 0 qvc12
def qvc14 : ACode := .seq (.reg qvr2) qvc13
@[go_sem] def qvr15 : List AIns := [
 ⟨some 33,none,.no,.fa 0 (.t 3)⟩,
 ⟨some 34, none, .rd, .load false 1 (.t 33)⟩,
 ⟨some 35,none,.no,.mv (.t 1)⟩,
 ⟨some 36,none,.no,.bin .add .none (.t 34) (.t 35)⟩,
 ⟨some 37,none,.no,.mv (.t 7)⟩,
 ⟨some 38, none, .rd, .load true 32 (.t 5)⟩,
 ⟨some 39,none,.no,.lit 32 [(.t 38)]⟩,
 ⟨some 40, none, .ef, .app 32 (.t 37) (.t 39)⟩,
 ⟨some 41,none,.no,.build [(.int .i64 0), .nilsl] [(0, 1, (.t 36)), (1, 1, (.t 40))]⟩,
 ⟨none,none,.no,.store 2 (.t 6) (.t 41)⟩]
def qvc16 : ACode := .seq (.reg qvr15) .ret
def qvc17 : ACode := .seq qvc14 qvc16
def qvc18 : ACode := .seq (.reg qvr1) qvc17
def qvc19 : ACode := .seq (.reg qvr0) qvc18
theorem qvok : cFn TC 116 = some (42, [.c 6 true 2], qvc19) := by kernel_rfl
@[go_sem] def qwr0 : List AIns := [
 ⟨some 1,none,.no,.box (.t 0)⟩,
 ⟨some 2,none,.no,.mv (.v .nilfn)⟩]
@[go_sem] def qwr1 : List AIns := [
 ⟨some 3,none,.no,.mkfn 118 [(.t 1)]⟩,
 ⟨some 2,none,.no,.mv (.t 3)⟩]
def qwc2 : ACode := .seq (.reg qwr1) .ret
def qwc3 : ACode := .seq (.reg qwr0) qwc2
theorem qwok : cFn TC 96 = some (4, [.t 2], qwc3) := by kernel_rfl
end
section
theorem ACallsP.toDown {C : Ctx} {f : FuncId} {args : List AV} {Y Y2 : Store} {v2 : AV} {P : AV -> Store -> Prop} (h : ACallsP C f args Y P)
  (hd : Wf Y.length Y -> ∀ v Y', P v Y' -> DownV Y.length v Y' v2 Y2) : ACallsTo C f args Y v2 Y2 := by
 intro Z w cargs hR ha
 rcases h Z w cargs hR ha with ⟨h1, h2⟩ | ⟨cv, v, Z', Y', w', h1, hp, h2, h3, h4⟩
 ·refine .inl ⟨h1, h2.mono ?_⟩
  rintro e w' ⟨cv, v, Z', Y', rfl, hp, k1, k2, k3⟩
  obtain ⟨Z2, q1, q2, q3⟩ := (hd hR.wf v Y' hp).sound k2 k3 k1 hR.gl (by rw [hR.len]; exact Nat.le_refl _)
  exact ⟨cv, Z2, rfl, q1, q2, q3⟩
 ·obtain ⟨Z2, q1, q2, q3⟩ := (hd hR.wf v Y' hp).sound h3 h4 h2 hR.gl (by rw [hR.len]; exact Nat.le_refl _)
  exact .inr ⟨cv, Z2, w', h1, q1, q2, q3⟩
theorem slen {Y : Store} {r : Nat} {x : Option AObj} (h : Y[r]? = some x) : r < Y.length := (List.getElem?_eq_some_iff.1 h).1
def FrzD (G news : Store) : DC := z27 G news [] id (fun _ => true)
theorem DownV.all {G news : Store} {v v2 : AV} (hw : Wf G.length G) (h : DR (FrzD G news) v2 v) : DownV G.length v (G ++ news) v2 G :=
 ⟨FrzD G news, rfl, by show DownS G.length (z27 G news [] id (fun _ => true)) G; simpa using zac (kept := []) (idx := id) (fzl := fun _ => true) (news := news) hw (by simp) (by simp) (by simp) (by simp), h⟩
theorem FrzD.same {G news : Store} {v : AV} (h : RL G.length v) : DR (FrzD G news) v v := DR.refl (z6a _ _ _) v h
theorem FrzD.sl {G news : Store} {r off : Nat} {lim : Option Nat} {esz : Nat} {o es : AObj} (hk : G.length <= r) (ho : (G ++ news)[r]? = some (some o)) (hl : off + es.length <= o.length) (he : (o.drop off).take es.length = es) (hr : RLss G.length es) :
  DR (FrzD G news) (.vsl esz es false) (.sl r off es.length lim esz) := by
 simp only [DR, FrzD, z27]
 right
 left
 exact ⟨r, off, lim, o, rfl, by simpa using hk, ho, hl, by simp, by rw [he]; exact DRss.refl (z6a [] id (fun _ => true)) _ hr⟩
theorem drA {D : DC} {a b : List AV} (h : DRs D a b) : DR D (.agg a) (.agg b) := by simp only [DR]; exact ⟨b, rfl, h⟩
theorem drT {D : DC} {a b : List AV} (h : DRs D a b) : DR D (.tup a) (.tup b) := by simp only [DR]; exact ⟨b, rfl, h⟩
theorem OwnN.frz {sz : Nat} {G news : Store} {v : AV} {es : List (List AV)} (h : OwnN sz G (G ++ news) v es) (hr : RLss G.length es) : DR (FrzD G news) (z12 sz es) v := by
 by_cases h0 : es = []
 ·obtain ⟨n2, _, ⟨rfl, rfl⟩ | ⟨j, h1, _⟩⟩ := h
  ·simp [z12, DR]
  ·exact absurd h0 h1
 ·obtain ⟨r, rfl, hg, hk⟩ := h.sl h0
  unfold z12
  rw [if_neg h0]
  exact FrzD.sl hk hg (by omega) (by simp) hr
def lkp : List (Nat × AV) -> Env
 | [], _ => .any
 | (a, v) :: l, t => bif t == a then v else lkp l t
@[go_sem] theorem lkp_cons {a t : Nat} {v : AV} {l : List (Nat × AV)} : lkp ((a, v) :: l) t = bif t == a then v else lkp l t := rfl
def OwnE (sz : Nat) (G Y' : Store) (v : AV) (es : List (List AV)) : Prop := OwnN sz G Y' v es \/ (es = [] /\ v = .vsl sz [] true /\ ∃ news, Y' = G ++ news)
theorem OwnE.ext {sz : Nat} {G Y' : Store} {v : AV} {es : List (List AV)} (h : OwnE sz G Y' v es) : ∃ news, Y' = G ++ news := by
 rcases h with h | ⟨_, _, h⟩
 ·exact h.ext
 ·exact h
theorem OwnE.rd {sz : Nat} {G Y' : Store} {v : AV} {es : List (List AV)} (h : OwnE sz G Y' v es) : RdSl Y' sz es v := by
 rcases h with h | ⟨rfl, rfl, _⟩
 ·exact h.rd
 ·exact .inl (.inr ⟨true, rfl⟩)
theorem OwnE.len {sz : Nat} {G Y' : Store} {v : AV} {es : List (List AV)} (h : OwnE sz G Y' v es) : z1j v = some (.int .i64 es.length) := h.rd.len
theorem OwnE.app {sz : Nat} {G Y' : Store} {v : AV} {es ys : List (List AV)} (h : OwnE sz G Y' v es) (h0 : ys.length ≠ 0) (hl : es.length + ys.length <= 1073741824) :
  ∃ v' Y'', aApp Y' sz v ys = some (v', Y'') /\ OwnN sz G Y'' v' (es ++ ys) := by
 rcases h with h | ⟨rfl, rfl, news, rfl⟩
 ·exact h.app h0 hl
 ·refine ⟨.sl (G ++ news).length 0 ys.length none sz, (G ++ news) ++ [some ys], by rw [z7x, if_neg h0, if_pos ⟨rfl, rfl, hl⟩]; simp, news ++ [some ys], by rw [List.append_assoc], .inr ⟨news.length, ?_, by simp, by rw [List.getElem?_append_right (Nat.le_refl _)]; simp⟩⟩
  intro e; exact h0 (by rw [(List.append_eq_nil_iff.1 e).2]; rfl)
theorem RdSl.elems {Y : Store} {sz : Nat} {es : List (List AV)} {x : AV} (h : RdSl Y sz es x) : z21 Y x = some es := by
 rcases h with (⟨rfl, rfl⟩ | ⟨ex, rfl⟩) | ⟨r, off, lim, o, rfl, hg, h1, h2⟩
 ·rfl
 ·rfl
 ·rw [zb4, hg]; simp only; rw [if_pos h1, h2]
set_option maxHeartbeats 4000000 in
theorem zed (Y : Store) (l : List Hash) (x : AV) (hx : RdSl Y 32 (hr l) x) (hl : l.length < 1000000) :
  ACallsP TC 82 [x] Y (fun v Y' => OwnE 32 Y Y' v (hr l) /\ (x = .nilsl ↔ v = .nilsl)) := by
 rcases hx with (⟨rfl, hnil⟩ | ⟨ex, rfl⟩) | ⟨r, off, lim, o, rfl, hg, h1, h2⟩
 ·refine ACallsTo.toP (v := .nilsl) (Y' := Y) ?_ ⟨.inl ⟨[], by simp, .inl ⟨hnil, rfl⟩⟩, Iff.rfl⟩
  refine ACallsTo.of_body quok (by simp) fun hw _ => ?_
  repeat' (first|apply zs_|apply zb_|apply zc_|apply zt_ rfl|apply zf_ rfl|(refine zd_ rfl (fun ht => ?_) (fun ht => ?_)<;>try (exfalso;omega))|((first|apply zr_|apply zk_|apply ze_|apply zq_|((first|apply zg0|apply zg1|apply zg2|apply zg3|apply zg4|apply zg5|apply zg6|apply zg7)<;>intro ht));all_goals try simp (disch:=first|omega|(simp only [lens];first|done|omega)) only [go_sem,nQ1,nQ2,nQ3,nQ4,nQ5,nQ6,nQ7,nQ8]))
  exact DownV.same hw (z14 _ rfl)
 ·by_cases h0 : l = []
  ·subst h0
   refine ACallsTo.toP (v := .vsl 32 [] true) (Y' := Y) ?_ ⟨.inr ⟨rfl, rfl, [], by simp⟩, by simp⟩
   refine ACallsTo.of_body quok (by simp) fun hw _ => ?_
   rw [zcg]
   repeat' (first|apply zs_|apply zb_|apply zc_|apply zt_ rfl|apply zf_ rfl|(refine zd_ rfl (fun ht => ?_) (fun ht => ?_)<;>try (exfalso;omega))|((first|apply zr_|apply zk_|apply ze_|apply zq_|((first|apply zg0|apply zg1|apply zg2|apply zg3|apply zg4|apply zg5|apply zg6|apply zg7)<;>intro ht));all_goals try simp (disch:=first|omega|(simp only [lens];first|done|omega)) only [go_sem,nQ1,nQ2,nQ3,nQ4,nQ5,nQ6,nQ7,nQ8]))
   exact DownV.same hw (z14 _ rfl)
  ·have hne : ¬ l.length = 0 := fun e => h0 (List.eq_nil_of_length_eq_zero e)
   refine ACallsP.of_keep quok (by simp) ?_
   repeat' (first|apply zs_|apply zb_|apply zc_|apply zt_ rfl|apply zf_ rfl|(refine zd_ rfl (fun ht => ?_) (fun ht => ?_)<;>try (exfalso;omega))|((first|apply zr_|apply zk_|apply ze_|apply zq_|((first|apply zg0|apply zg1|apply zg2|apply zg3|apply zg4|apply zg5|apply zg6|apply zg7)<;>intro ht));all_goals try simp (disch:=first|omega|(simp only [lens];first|done|omega)) only [go_sem,nQ1,nQ2,nQ3,nQ4,nQ5,nQ6,nQ7,nQ8,hne,z7x]))
   refine .inl ⟨[some (hr l)], by simp, .inr ⟨0, by rw [Ne, hr_nil_iff]; exact h0, ?_, by simp⟩⟩
   simp [z6]
 ·have hrl := z6 l
  by_cases h0 : l = []
  ·subst h0
   refine ACallsTo.toP (v := .vsl 32 [] true) (Y' := Y) ?_ ⟨.inr ⟨rfl, rfl, [], by simp⟩, by simp⟩
   refine ACallsTo.of_body quok (by simp) fun hw _ => ?_
   rw [zcg] at *
   repeat' (first|apply zs_|apply zb_|apply zc_|apply zt_ rfl|apply zf_ rfl|(refine zd_ rfl (fun ht => ?_) (fun ht => ?_)<;>try (exfalso;omega))|((first|apply zr_|apply zk_|apply ze_|apply zq_|((first|apply zg0|apply zg1|apply zg2|apply zg3|apply zg4|apply zg5|apply zg6|apply zg7)<;>intro ht));all_goals try simp (disch:=first|omega|(simp only [lens];first|done|omega)) only [go_sem,nQ1,nQ2,nQ3,nQ4,nQ5,nQ6,nQ7,nQ8,hg,zb4,h1,h2]))
   exact DownV.same hw (z14 _ rfl)
  ·have hne : ¬ l.length = 0 := fun e => h0 (List.eq_nil_of_length_eq_zero e)
   rw [hrl] at h1 h2
   refine ACallsP.of_keep quok (by simp) ?_
   repeat' (first|apply zs_|apply zb_|apply zc_|apply zt_ rfl|apply zf_ rfl|(refine zd_ rfl (fun ht => ?_) (fun ht => ?_)<;>try (exfalso;omega))|((first|apply zr_|apply zk_|apply ze_|apply zq_|((first|apply zg0|apply zg1|apply zg2|apply zg3|apply zg4|apply zg5|apply zg6|apply zg7)<;>intro ht));all_goals try simp (disch:=first|omega|(simp only [lens];first|done|omega)) only [go_sem,nQ1,nQ2,nQ3,nQ4,nQ5,nQ6,nQ7,nQ8,hg,hne,z7x,zb4,h1,h2]))
   refine .inl ⟨[some (hr l)], by simp, .inr ⟨0, by rw [Ne, hr_nil_iff]; exact h0, ?_, by simp⟩⟩
   simp [z6]
end
section
theorem z5e {l : List Hash} {i : Nat} (h : i < l.length) : l.take (i + 1) = l.take i ++ [hd l i] := by
 rw [z6s h]; exact (List.take_append_getElem h).symm
def z3n (n : Int) (len : Nat) : Bool := decide (0 <= n /\ n <= 4096 /\ len = pc 64 n.toNat)
theorem zhm (Y : Store) (n : Int) (hs : List Hash) (x : AV) (hx : RdSl Y 32 (hr hs) x) :
  ACallsTo TC 95 [.agg [.int .i64 n, x]] Y (.bool (z3n n hs.length)) Y := by
 have r1 := hx.len
 rw [z6] at r1
 unfold z1j at r1
 refine ACallsTo.of_body qsok (by simp) fun hw _ => ?_
 by_cases h1 : 0 <= n /\ n <= 4096
 ·have h := fun Y => zk6 Y n (by omega)
  by_cases h2 : hs.length = pc 64 n.toNat
  ·have e : z3n n hs.length = true := decide_eq_true ⟨h1.1, h1.2, h2⟩
   have h2' : (hs.length : Int) = pc 64 n.toNat := by omega
   rw [e]
   repeat' (first|apply zs_|apply zb_|apply zc_|apply zt_ rfl|apply zf_ rfl|(refine zd_ rfl (fun ht => ?_) (fun ht => ?_)<;>try (exfalso;omega))|((first|apply zr_|apply zk_|apply ze_|apply zq_|(apply callW.mk_pu; (first | exact (fun _ => h _))) | (apply callW.za; (first | exact (h _))) | ((first|apply zg0|apply zg1|apply zg2|apply zg3|apply zg4|apply zg5|apply zg6|apply zg7)<;>intro ht));all_goals try simp (disch:=first|omega|(simp only [lens];first|done|omega)) only [go_sem,nQ1,nQ2,nQ3,nQ4,nQ5,nQ6,nQ7,nQ8,r1,h2']))
   exact DownV.pure hw (z14 _ rfl)
  ·have e : z3n n hs.length = false := decide_eq_false fun e => h2 e.2.2
   have h2' : ¬ (hs.length : Int) = pc 64 n.toNat := by omega
   rw [e]
   repeat' (first|apply zs_|apply zb_|apply zc_|apply zt_ rfl|apply zf_ rfl|(refine zd_ rfl (fun ht => ?_) (fun ht => ?_)<;>try (exfalso;omega))|((first|apply zr_|apply zk_|apply ze_|apply zq_|(apply callW.mk_pu; (first | exact (fun _ => h _))) | (apply callW.za; (first | exact (h _))) | ((first|apply zg0|apply zg1|apply zg2|apply zg3|apply zg4|apply zg5|apply zg6|apply zg7)<;>intro ht));all_goals try simp (disch:=first|omega|(simp only [lens];first|done|omega)) only [go_sem,nQ1,nQ2,nQ3,nQ4,nQ5,nQ6,nQ7,nQ8,r1,h2']))
   exact DownV.pure hw (z14 _ rfl)
 ·have e : z3n n hs.length = false := decide_eq_false fun e => h1 ⟨e.1, e.2.1⟩
  rw [e]
  repeat' (first|apply zs_|apply zb_|apply zc_|apply zt_ rfl|apply zf_ rfl|(refine zd_ rfl (fun ht => ?_) (fun ht => ?_)<;>try (exfalso;omega))|((first|apply zr_|apply zk_|apply ze_|apply zq_|((first|apply zg0|apply zg1|apply zg2|apply zg3|apply zg4|apply zg5|apply zg6|apply zg7)<;>intro ht));all_goals try simp (disch:=first|omega|(simp only [lens];first|done|omega)) only [go_sem,nQ1,nQ2,nQ3,nQ4,nQ5,nQ6,nQ7,nQ8,r1]))
  all_goals exact DownV.pure hw (z14 _ rfl)
end
section
def Ext (Y Y' : Store) : Prop := ∃ news, Y' = Y ++ news
theorem Ext.refl (Y : Store) : Ext Y Y := ⟨[], by simp⟩
theorem Ext.app {Y Y' y : Store} (h : Ext Y Y') : Ext Y (Y' ++ y) := by
 obtain ⟨n, rfl⟩ := h
 exact ⟨n ++ y, by rw [List.append_assoc]⟩
theorem Ext.set {Y Y' : Store} {r : Nat} {x : Option AObj} (h : Ext Y Y') (hr : Y.length <= r) : Ext Y (Y'.set r x) := by
 obtain ⟨n, rfl⟩ := h
 exact ⟨n.set (r - Y.length) x, List.set_append_right _ _ hr⟩
theorem Ext.trans {Y Y' Y'' : Store} (h : Ext Y Y') (h' : Ext Y' Y'') : Ext Y Y'' := by
 obtain ⟨n, rfl⟩ := h
 obtain ⟨m, rfl⟩ := h'
 exact ⟨n ++ m, by rw [List.append_assoc]⟩
theorem Ext.le {Y Y' : Store} (h : Ext Y Y') : Y.length <= Y'.length := by
 obtain ⟨n, rfl⟩ := h; simp
theorem zjb (Y : Store) (l : List Hash) (x : AV) (hx : RdSl Y 32 (hr l) x) : ∃ v Y', OwnE 32 Y Y' v (hr l) /\ (x = .nilsl ↔ v = .nilsl) := by
 have h1 := z6z Y 32 (hr l)
 rcases hx with (⟨rfl, h⟩ | ⟨ex, rfl⟩) | ⟨r, off, lim, o, rfl, _⟩
 ·exact ⟨.nilsl, Y, .inl ⟨[], by simp, .inl ⟨h, rfl⟩⟩, Iff.rfl⟩
 ·by_cases h0 : hr l = []
  ·exact ⟨.vsl 32 [] true, Y, .inr ⟨h0, rfl, [], by simp⟩, by simp⟩
  ·refine ⟨_, _, .inl h1, ?_⟩
   unfold ownV; rw [if_neg h0]; simp
 ·by_cases h0 : hr l = []
  ·exact ⟨.vsl 32 [] true, Y, .inr ⟨h0, rfl, [], by simp⟩, by simp⟩
  ·refine ⟨_, _, .inl h1, ?_⟩
   unfold ownV; rw [if_neg h0]; simp
theorem zey {n i : Nat} : n &&& 2 ^ i = if n / 2 ^ i % 2 = 1 then 2 ^ i else 0 := by
 apply Nat.eq_of_testBit_eq
 intro k
 rw [Nat.testBit_and, Nat.testBit_two_pow]
 by_cases hk : i = k
 ·subst hk
  rw [Nat.testBit_eq_decide_div_mod_eq]
  split
  ·rename_i h; simp [h, Nat.testBit_two_pow]
  ·rename_i h; simp [h]
 ·split
  ·simp [hk, Nat.testBit_two_pow]
  ·simp [hk]
theorem zhd {f q : Nat} (h : q % 2 = 1) (hf : 0 < f) : pc f q = 1 + pc (f - 1) (q / 2) := by
 match f, hf with
 | f + 1, _ => simp [pc, h]
theorem zW.once {C : Ctx} {n k : Nat} {Q : AExit -> Env -> Store -> Prop} {O : Env} {Y : Store} {x : ACode} (h : zW C n k x (z25 (fun _ _ => False) Q) O Y) : zW C n k (.loop x) Q O Y :=
 zW.loop (fun _ O' Y' => O' = O /\ Y' = Y) 0 ⟨rfl, rfl⟩ (by
  rintro m _ _ ⟨rfl, rfl⟩
  refine h.mono fun e O Y h => ?_
  cases e
  ·exact h.elim
  ·exact h
  ·exact h)
set_option maxHeartbeats 8000000 in
theorem zql (Y : Store) (n j : Nat) (x : AV) (hs : List Hash) (h : Hash) (hx : RdSl Y 32 (hr hs) x) (hj : 2 ^ j ∣ n) (hn : n + 2 ^ j <= 4096) (hl : hs.length = pc 13 n) :
  ACallsTo TC 116 [.agg [.int .i64 n, x], .int .i64 ((2 ^ j : Nat) : Int), .agg (hc h)] Y (.agg [.int .i64 ((n + 2 ^ j : Nat) : Int), .vsl 32 (hr (z29 (n / 2 ^ j) hs.reverse h).reverse) false]) Y := by
 have hp : 0 < 2 ^ j := Nat.pow_pos (by decide)
 have hj12 : j <= 12 := by
  rcases Nat.lt_or_ge j 13 with h | h
  ·omega
  ·have := Nat.pow_le_pow_right (n := 2) (by decide) h
   omega
 have hlen : hs.length < 1000000 := by
  have : ∀ f q, pc f q <= f := fun f => by
   induction f with
   | zero => intro q; simp [pc]
   | succ f ih => intro q; simp only [pc]; have := ih (q / 2); omega
  have := this 13 n; omega
 obtain ⟨q0, hq0⟩ := hj
 have hdiv : n / 2 ^ j = q0 := by rw [hq0]; exact Nat.mul_div_cancel_left _ hp
 have hpl : hs.length = pc (13 - j) (n / 2 ^ j) := by
  have := pc_two j (13 - j) q0
  rw [<- hq0, show 13 - j + j = 13 by omega] at this
  rw [hl, this, hdiv]
 generalize hk0 : 2 ^ j = k0 at *
 have hadd : ((n : Int) + k0) = ((n + k0 : Nat) : Int) := by omega
 refine ACallsTo.of_body qvok (by simp) fun hw _ => ?_
 repeat' (first|apply zs_|apply zb_|apply zc_|apply zt_ rfl|apply zf_ rfl|(refine zd_ rfl (fun ht => ?_) (fun ht => ?_)<;>try (exfalso;omega))|((first|apply zr_|apply zk_|apply ze_|apply zq_|((first|apply zg0|apply zg1|apply zg2|apply zg3|apply zg4|apply zg5|apply zg6|apply zg7)<;>intro ht));all_goals try simp (disch:=first|omega|(simp only [lens];first|done|omega)) only [go_sem,nQ1,nQ2,nQ3,nQ4,nQ5,nQ6,nQ7,nQ8]))
 refine callW.mkP (zed _ hs x hx.app hlen) (zjb _ hs x hx.app) ?_
 rintro v Y1 ⟨hO, _⟩
 obtain ⟨y, hy⟩ := hO.ext
 have b0 : Y1[Y.length]? = some (some [[.int .i64 n, x]]) := by rw [hy]; simp
 have b1 : Y1[Y.length + 1]? = some (some [hc h]) := by rw [hy]; simp
 have b2 : Y1[Y.length + 2]? = some (some [[.int .i64 0, .nilsl]]) := by rw [hy]; simp
 have b3 : Ext Y Y1 := by rw [hy]; exact (Ext.refl Y).app.app
 have g0 := slen b0
 have g1 := slen b1
 have g2 := slen b2
 by_cases h0 : hs = []
 ·subst h0
  have hn0 : n / k0 % 2 = 0 := by
   have := hpl
   simp at this
   rcases Nat.mod_two_eq_zero_or_one (n / k0) with h | h
   ·exact h
   ·rw [zhd h (by omega)] at this; omega
  have hand := zey (n := n) (i := j)
  rw [hk0, if_neg (by omega)] at hand
  have hres : hr (z29 (n / k0) ([] : List Hash).reverse h).reverse = [hc h] := rfl
  rw [hres]
  have hv : v = .nilsl \/ v = .vsl 32 [] true := by
   rcases hO with ⟨_, _, ⟨_, rfl⟩ | ⟨_, h1, _⟩⟩ | ⟨_, rfl, _⟩
   ·exact .inl rfl
   ·exact absurd rfl h1
   ·exact .inr rfl
  have fin : ∀ Y2 r, Ext Y Y2 -> Y.length <= r -> Y2[r]? = some (some [hc h]) -> DownV Y.length (.agg [.int .i64 ((n + k0 : Nat) : Int), .sl r 0 1 none 32]) Y2 (.agg [.int .i64 ((n + k0 : Nat) : Int), .vsl 32 [hc h] false]) Y := fun Y2 r e hr hg => by
   obtain ⟨news, rfl⟩ := e
   exact DownV.all hw (drA (drsc (FrzD.same (by simp [RL])) (drs1 (FrzD.sl (es := [hc h]) hr hg (by simp) (by simp) (by simp only [RLss]; exact ⟨z78 _, trivial⟩)))))
  rcases hv with rfl | rfl
  ·repeat' (first|apply zs_|apply zb_|apply zc_|apply zt_ rfl|apply zf_ rfl|(refine zd_ rfl (fun ht => ?_) (fun ht => ?_)<;>try (exfalso;omega))|((first|apply zr_|apply zk_|apply ze_|apply zq_|((first|apply zg0|apply zg1|apply zg2|apply zg3|apply zg4|apply zg5|apply zg6|apply zg7)<;>intro ht));all_goals try simp (disch:=first|omega|(simp only [lens];first|done|omega)) only [go_sem,nQ1,nQ2,nQ3,nQ4,nQ5,nQ6,nQ7,nQ8,b0,b1,b2]))
   refine zW.once ?_
   repeat' (first|apply zs_|apply zb_|apply zc_|apply zt_ rfl|apply zf_ rfl|(refine zd_ rfl (fun ht => ?_) (fun ht => ?_)<;>try (exfalso;omega))|((first|apply zr_|apply zk_|apply ze_|apply zq_|((first|apply zg0|apply zg1|apply zg2|apply zg3|apply zg4|apply zg5|apply zg6|apply zg7)<;>intro ht));all_goals try simp (disch:=first|omega|(simp only [lens];first|done|omega)) only [go_sem,nQ1,nQ2,nQ3,nQ4,nQ5,nQ6,nQ7,nQ8,b0,b1,b2,hand,hadd]))
   exact fin _ _ (b3.set (by omega)).app (by omega) (by simp)
  ·repeat' (first|apply zs_|apply zb_|apply zc_|apply zt_ rfl|apply zf_ rfl|(refine zd_ rfl (fun ht => ?_) (fun ht => ?_)<;>try (exfalso;omega))|((first|apply zr_|apply zk_|apply ze_|apply zq_|((first|apply zg0|apply zg1|apply zg2|apply zg3|apply zg4|apply zg5|apply zg6|apply zg7)<;>intro ht));all_goals try simp (disch:=first|omega|(simp only [lens];first|done|omega)) only [go_sem,nQ1,nQ2,nQ3,nQ4,nQ5,nQ6,nQ7,nQ8,b0,b1,b2]))
   refine zW.once ?_
   repeat' (first|apply zs_|apply zb_|apply zc_|apply zt_ rfl|apply zf_ rfl|(refine zd_ rfl (fun ht => ?_) (fun ht => ?_)<;>try (exfalso;omega))|((first|apply zr_|apply zk_|apply ze_|apply zq_|((first|apply zg0|apply zg1|apply zg2|apply zg3|apply zg4|apply zg5|apply zg6|apply zg7)<;>intro ht));all_goals try simp (disch:=first|omega|(simp only [lens];first|done|omega)) only [go_sem,nQ1,nQ2,nQ3,nQ4,nQ5,nQ6,nQ7,nQ8,b0,b1,b2,hand,hadd]))
   exact fin _ _ (b3.set (by omega)).app (by omega) (by simp)
 ·have hpos : 0 < hs.length := List.length_pos_iff.2 h0
  obtain ⟨r, rfl, hgr, hrl⟩ : ∃ r, v = .sl r 0 hs.length none 32 /\ Y1[r]? = some (some (hr hs)) /\ Y.length + 3 <= r := by
   rcases hO with hO | hO
   ·obtain ⟨r, h1, h2, h3⟩ := hO.sl (by rw [Ne, hr_nil_iff]; exact h0)
    rw [z6] at h1
    exact ⟨r, h1, h2, by simpa using h3⟩
   ·exact absurd (hr_nil_iff.1 hO.1) h0
  have g3 := slen hgr
  repeat' (first|apply zs_|apply zb_|apply zc_|apply zt_ rfl|apply zf_ rfl|(refine zd_ rfl (fun ht => ?_) (fun ht => ?_)<;>try (exfalso;omega))|((first|apply zr_|apply zk_|apply ze_|apply zq_|((first|apply zg0|apply zg1|apply zg2|apply zg3|apply zg4|apply zg5|apply zg6|apply zg7)<;>intro ht));all_goals try simp (disch:=first|omega|(simp only [lens];first|done|omega)) only [go_sem,nQ1,nQ2,nQ3,nQ4,nQ5,nQ6,nQ7,nQ8,b0,b1,b2,hadd]))
  refine zW.loop (fun m O Y' => ∃ (i : Nat) (h' : Hash), m <= hs.length /\ j <= i /\ i <= 13 /\ m = pc (13 - i) (n / 2 ^ i) /\ z29 (n / 2 ^ i) (hs.take m).reverse h' = z29 (n / k0) hs.reverse h ∧
   Y'[Y.length]? = some (some [[.int .i64 n, x]]) /\ Y'[Y.length + 1]? = some (some [hc h']) /\ Y'[Y.length + 2]? = some (some [[.int .i64 0, .nilsl]]) /\ Y'[r]? = some (some (hr hs)) /\ Ext Y Y' ∧
   O 1 = .int .i64 k0 /\ O 3 = .ptr Y.length 0 0 /\ O 5 = .ptr (Y.length + 1) 0 0 /\ O 6 = .ptr (Y.length + 2) 0 0 /\ O 7 = .sl r 0 m none 32 /\ O 8 = .int .i64 ((2 ^ i : Nat) : Int)) hs.length ?_ ?_
  ·refine ⟨j, h, Nat.le_refl _, Nat.le_refl _, by omega, ?_, ?_, b0, b1, b2, hgr, b3, by simp (disch:=first|omega|(simp only [lens];first|done|omega)) only [go_sem,nQ1,nQ2,nQ3,nQ4,nQ5,nQ6,nQ7,nQ8],by simp (disch:=first|omega|(simp only [lens];first|done|omega)) only [go_sem,nQ1,nQ2,nQ3,nQ4,nQ5,nQ6,nQ7,nQ8],by simp (disch:=first|omega|(simp only [lens];first|done|omega)) only [go_sem,nQ1,nQ2,nQ3,nQ4,nQ5,nQ6,nQ7,nQ8],by simp (disch:=first|omega|(simp only [lens];first|done|omega)) only [go_sem,nQ1,nQ2,nQ3,nQ4,nQ5,nQ6,nQ7,nQ8],by simp (disch:=first|omega|(simp only [lens];first|done|omega)) only [go_sem,nQ1,nQ2,nQ3,nQ4,nQ5,nQ6,nQ7,nQ8],by simp (disch:=first|omega|(simp only [lens];first|done|omega)) only [go_sem,nQ1,nQ2,nQ3,nQ4,nQ5,nQ6,nQ7,nQ8]; rw [hk0]⟩
   ·rw [hk0]; exact hpl
   ·rw [hk0, List.take_of_length_le (Nat.le_refl _)]
  ·rintro m O Y' ⟨i, h', hm, hji, hi13, hmp, hpush, c0, c1, c2, cr, ce, q1, q3, q5, q6, q7, q8⟩
   have d0 := slen c0
   have d1 := slen c1
   have d2 := slen c2
   have dr := slen cr
   have hki : 0 < 2 ^ i := Nat.pow_pos (by decide)
   have hand := zey (n := n) (i := i)
   have hi8 : 2 ^ i <= 8192 := by
    have := Nat.pow_le_pow_right (n := 2) (by decide) hi13
    exact this
   have hs2 : 2 ^ (i + 1) = 2 ^ i * 2 := Nat.pow_succ ..
   have hdd : n / 2 ^ i / 2 = n / 2 ^ (i + 1) := by rw [Nat.div_div_eq_div_mul, hs2]
   by_cases hbit : n / 2 ^ i % 2 = 1
   ·rw [if_pos hbit] at hand
    have hi12 : i < 13 := by
     rcases Nat.lt_or_ge i 13 with h | h
     ·exact h
     ·have e13 : i = 13 := by omega
      rw [e13, Nat.div_eq_of_lt (by omega)] at hbit
      simp at hbit
    rw [zhd hbit (by omega)] at hmp
    obtain ⟨l, rfl⟩ : ∃ l, m = l + 1 := ⟨m - 1, by omega⟩
    have hrev : (hs.take (l + 1)).reverse = hd hs l :: (hs.take l).reverse := by rw [z5e (by omega)]; simp
    rw [hrev, z8s hbit, hdd] at hpush
    rw [hdd, show 13 - i - 1 = 13 - (i + 1) by omega] at hmp
    generalize hki2 : 2 ^ i = k at *
    have hne : ¬ (k : Int) = 0 := by omega
    have hl1 : ((l + 1 : Nat) : Int) - 1 = l := by omega
    repeat' (first | refine zs_ ?_ | refine zb_ ?_ | refine zc_ ?_ | refine zt_ rfl ?_ | refine zf_ rfl ?_ | (refine zd_ rfl (fun ht => ?_) (fun ht => ?_) <;> try (exfalso; omega)) | ((first | refine zW.regS ?_ | refine zk_ ?_ | refine ze_ ?_ | refine zq_ ?_ | (apply callW.mk_pu; (first | exact (fun _ => z93 _ _ _))) | (apply callW.za; (first | exact (z93 _ _ _))) | ((first|apply zg0|apply zg1|apply zg2|apply zg3|apply zg4|apply zg5|apply zg6|apply zg7)<;>intro ht));all_goals try simp (disch:=first|omega|(simp only [lens];first|done|omega)) only [go_sem,nQ1,nQ2,nQ3,nQ4,nQ5,nQ6,nQ7,nQ8,q1,q3,q5,q6,q7,q8,c0,c1,c2,cr,hand,hne,hl1]))
    exact ⟨l, by omega, i + 1, zz (hd hs l) h', by omega, by omega, by omega, by omega, hpush, rfl, ce.set (by omega), by simp, by rw [hs2]; simp⟩
   ·rw [if_neg hbit] at hand
    rw [z8r (by omega)] at hpush
    have hres : (z29 (n / k0) hs.reverse h).reverse = hs.take m ++ [h'] := by rw [<- hpush]; simp
    rw [hres]
    generalize hki2 : 2 ^ i = k at *
    have fin : ∀ Y2 r2 o, Ext Y Y2 -> Y.length <= r2 -> Y2[r2]? = some (some o) -> m + 1 <= o.length -> o.take (m + 1) = hr (hs.take m ++ [h']) -> DownV Y.length (.agg [.int .i64 ((n + k0 : Nat) : Int), .sl r2 0 (m + 1) none 32]) Y2 (.agg [.int .i64 ((n + k0 : Nat) : Int), .vsl 32 (hr (hs.take m ++ [h'])) false]) Y := fun Y2 r2 o e hr2 hg ho1 ho2 => by
     obtain ⟨news, rfl⟩ := e
     have hl3 : (hr (hs.take m ++ [h'])).length = m + 1 := by simp [z6]; omega
     have := FrzD.sl (G := Y) (news := news) (r := r2) (off := 0) (lim := none) (esz := 32) (o := o) (es := hr (hs.take m ++ [h'])) hr2 hg (by omega) (by rw [hl3, List.drop_zero]; exact ho2) (z1w _)
     rw [hl3] at this
     exact DownV.all hw (drA (drsc (FrzD.same (by simp [RL])) (drs1 this)))
    by_cases hfull : m < hs.length
    ·repeat' (first|apply zs_|apply zb_|apply zc_|apply zt_ rfl|apply zf_ rfl|(refine zd_ rfl (fun ht => ?_) (fun ht => ?_)<;>try (exfalso;omega))|((first|apply zr_|apply zk_|apply ze_|apply zq_|((first|apply zg0|apply zg1|apply zg2|apply zg3|apply zg4|apply zg5|apply zg6|apply zg7)<;>intro ht));all_goals try simp (disch:=first|omega|(simp only [lens];first|done|omega)) only [go_sem,nQ1,nQ2,nQ3,nQ4,nQ5,nQ6,nQ7,nQ8,q1,q3,q5,q6,q7,q8,c0,c1,c2,cr,hand,hadd]))
     refine fin _ r _ ((ce.set (by omega)).set (by omega)) (by omega) (by rw [z1d (by omega), z22 dr]) (by simp [z6]; omega) ?_
     rw [show hr (hs.take m) ++ hc h' :: hr (hs.drop (m + 1)) = hr ((hs.take m ++ [h']) ++ hs.drop (m + 1)) by simp [hr], zge, List.take_left' (by simp; omega)]
    ·have hm' : hs.take m = hs := List.take_of_length_le (by omega)
     rw [hm'] at fin
     repeat' (first|apply zs_|apply zb_|apply zc_|apply zt_ rfl|apply zf_ rfl|(refine zd_ rfl (fun ht => ?_) (fun ht => ?_)<;>try (exfalso;omega))|((first|apply zr_|apply zk_|apply ze_|apply zq_|((first|apply zg0|apply zg1|apply zg2|apply zg3|apply zg4|apply zg5|apply zg6|apply zg7)<;>intro ht));all_goals try simp (disch:=first|omega|(simp only [lens];first|done|omega)) only [go_sem,nQ1,nQ2,nQ3,nQ4,nQ5,nQ6,nQ7,nQ8,q1,q3,q5,q6,q7,q8,c0,c1,c2,cr,hand,hadd]))
     refine fin _ _ _ ((ce.set (by omega)).set (by omega)).app (by omega) (by rw [z1a (by simp), List.length_set, List.length_set, Nat.sub_self]; rfl) (by simp [z6]; omega) ?_
     rw [show hr hs ++ [hc h'] = hr (hs ++ [h']) by simp [hr], zge, List.take_of_length_le (by simp; omega)]
end
section
def knil (es : List (List AV)) : AV -> AV
 | .nilsl => .nilsl
 | _ => .vsl 32 es false
theorem zck {es : List (List AV)} {x : AV} (h : x ≠ .nilsl) : knil es x = .vsl 32 es false := by
 cases x <;> first | rfl | exact absurd rfl h
theorem zgn {Y : Store} {l : List Hash} {x : AV} (h : RdSl Y 32 (hr l) x) : SlV 32 (hr l) (knil (hr l) x) := by
 rcases h with (⟨rfl, h⟩ | ⟨ex, rfl⟩) | ⟨r, off, lim, o, rfl, _⟩
 ·exact .inl ⟨rfl, h⟩
 ·exact .inr ⟨false, rfl⟩
 ·exact .inr ⟨false, rfl⟩
theorem zrc {k : Nat} (l : List Hash) (x : AV) : RL k (knil (hr l) x) := by
 by_cases h : x = .nilsl
 ·subst h; simp [knil, RL]
 ·rw [zck h]; simp only [RL]; exact z1w _
theorem zjc (Y : Store) (l : List Hash) (x : AV) (hx : RdSl Y 32 (hr l) x) (hl : l.length < 1000000) :
  ACallsTo TC 82 [x] Y (knil (hr l) x) Y := by
 refine ACallsP.toDown (zed Y l x hx hl) fun hw v Y' h => ?_
 obtain ⟨h, hn⟩ := h
 obtain ⟨y, rfl⟩ := h.ext
 refine DownV.all hw ?_
 by_cases h0 : x = .nilsl
 ·rw [hn.1 h0, h0]; simp [knil, DR]
 ·have hv : v ≠ .nilsl := fun e => h0 (hn.2 e)
  rw [zck h0]
  rcases h with h | ⟨h1, rfl, _⟩
  ·have h2 := h.frz (z1w l)
   unfold z12 at h2
   split at h2
   ·simp only [DR] at h2; exact absurd h2 hv
   ·exact h2
  ·rw [h1]
   simp only [DR]
   exact .inl ⟨_, _, rfl, by simp, by simp [DRss]⟩
theorem Ext.pure {Y Y' : Store} {v : AV} (hw : Wf Y.length Y) (h : Ext Y Y') (hv : RL Y.length v) : DownV Y.length v Y' v Y := by
 obtain ⟨n, rfl⟩ := h
 exact DownV.pure hw hv
def zv (x : AV) (first : Bool) (l : List Hash) : AV := if first then knil (hr l) x else .vsl 32 (hr l) false
theorem zj6 {Y : Store} {x : AV} {first : Bool} {l : List Hash} (h : first = true -> RdSl Y 32 (hr l) x) : SlV 32 (hr l) (zv x first l) := by
 unfold zv
 cases first with
 | true => exact zgn (h rfl)
 | false => exact .inr ⟨false, rfl⟩
theorem rl_zv {k : Nat} (x : AV) (first : Bool) (l : List Hash) : RL k (zv x first l) := by
 unfold zv
 cases first with
 | true => exact zrc _ _
 | false => simp only [Bool.false_eq_true, if_false, RL]; exact z1w _
theorem zj5 (x : AV) (first : Bool) (l : List Hash) : cellsOf (zv x first l) = some [zv x first l] := by
 unfold zv
 cases first with
 | true =>
  by_cases h : x = .nilsl
  ·subst h; rfl
  ·simp only [if_true]; rw [zck h]; rfl
 | false => rfl
def rg (n : Int) (z : AV) (e : Int) : AV := .tup [.agg [.int .i64 n, z], .int .i64 e]
theorem zat {k : Nat} {n e : Int} {z : AV} (h : RL k z) : RL k (rg n z e) := by simp only [rg, RL, RLs]; exact ⟨⟨trivial, h, trivial⟩, trivial, trivial⟩
def extA (n : Int) (hs l : List Hash) (x : AV) : AV :=
 if z3n n hs.length = false then rg 0 .nilsl 2
 else if 4096 - n < l.length then rg 0 .nilsl 60
 else rg (n + l.length) (zv x l.isEmpty (extR n.toNat hs.reverse l).reverse) 0
theorem pc13 {n : Nat} (h : n <= 4096) : pc 64 n = pc 13 n := zhc 13 n (by omega) 51
theorem zqk (Y : Store) (n : Nat) (x : AV) (hs : List Hash) (h : Hash) (hx : RdSl Y 32 (hr hs) x) (hn : n + 1 <= 4096) (hl : hs.length = pc 13 n) :
  ACallsTo TC 116 [.agg [.int .i64 n, x], .int .i64 1, .agg (hc h)] Y (.agg [.int .i64 ((n + 1 : Nat) : Int), .vsl 32 (hr (z29 n hs.reverse h).reverse) false]) Y := by
 have := zql Y n 0 x hs h hx ⟨n, by simp⟩ hn hl
 simpa using this
attribute [local irreducible] ACallsTo ACallsP
set_option maxHeartbeats 8000000 in
theorem zjd (Y : Store) (n : Int) (hs l : List Hash) (x y : AV) (hx : RdSl Y 32 (hr hs) x) (hy : SlV 32 (hr l) y) (hn : -9223372036854775808 <= n /\ n <= 9223372036854775807) (hhl : hs.length < 1000000) (hl : l.length < 1000000) :
  ACallsTo TC 94 [.agg [.int .i64 n, x], y] Y (extA n hs l x) Y := by
 have r1 := hy.len
 rw [z6] at r1
 unfold z1j at r1
 have hV := fun y => zhm (Y ++ y) n hs x hx.app
 unfold extA
 by_cases hv : z3n n hs.length = true
 ·rw [if_neg (by simp [hv])]
  rw [hv] at hV
  have hv' := of_decide_eq_true hv
  obtain ⟨n, rfl⟩ : ∃ k : Nat, n = k := ⟨n.toNat, by omega⟩
  rw [Int.toNat_natCast] at hv' ⊢
  have hhs : hs.length = pc 13 n := by rw [hv'.2.2, pc13 (by omega)]
  by_cases hf : 4096 - (n : Int) < l.length
  ·rw [if_pos hf]
   refine ACallsTo.of_body qrok (by simp) fun hw _ => ?_
   repeat' (first|apply zs_|apply zb_|apply zc_|apply zt_ rfl|apply zf_ rfl|(refine zd_ rfl (fun ht => ?_) (fun ht => ?_)<;>try (exfalso;omega))|((first|apply zr_|apply zk_|apply ze_|apply zq_|(apply callW.mk_pu; (first | exact (fun _ => hV _))) | (apply callW.za; (first | exact (hV _))) | ((first|apply zg0|apply zg1|apply zg2|apply zg3|apply zg4|apply zg5|apply zg6|apply zg7)<;>intro ht));all_goals try simp (disch:=first|omega|(simp only [lens];first|done|omega)) only [go_sem,nQ1,nQ2,nQ3,nQ4,nQ5,nQ6,nQ7,nQ8,r1]))
   exact DownV.pure hw (zat (by simp [RL]))
  ·rw [if_neg hf]
   refine ACallsTo.of_body qrok (by simp) fun hw _ => ?_
   have hCl := fun y => zjc (Y ++ y) hs x hx.app (by omega)
   have hk := zgn hx
   have e0 : knil (hr hs) x = zv x true (extR n hs.reverse (l.take 0)).reverse := by simp [zv, extR]
   rw [e0] at hCl
   have z0 := zj5 x true (extR n hs.reverse (l.take 0)).reverse
   generalize hzz : zv x true (extR n hs.reverse (l.take 0)).reverse = z at *
   unfold cellsOf at z0
   repeat' (first|apply zs_|apply zb_|apply zc_|apply zt_ rfl|apply zf_ rfl|(refine zd_ rfl (fun ht => ?_) (fun ht => ?_)<;>try (exfalso;omega))|((first|apply zr_|apply zk_|apply ze_|apply zq_|(apply callW.mk_pu; (first | exact (fun _ => hV _) | exact (fun _ => hCl _))) | (apply callW.za; (first | exact (hV _) | exact (hCl _))) | ((first|apply zg0|apply zg1|apply zg2|apply zg3|apply zg4|apply zg5|apply zg6|apply zg7)<;>intro ht));all_goals try simp (disch:=first|omega|(simp only [lens];first|done|omega)) only [go_sem,nQ1,nQ2,nQ3,nQ4,nQ5,nQ6,nQ7,nQ8,r1,z0]))
   refine zW.loop (fun m O Y' => ∃ i : Nat, m + i = l.length /\ Ext Y Y' /\ Y'[Y.length]? = some (some [[.int .i64 ((n + i : Nat) : Int), zv x (decide (i = 0)) (extR n hs.reverse (l.take i)).reverse]]) /\ Y'[Y.length + 1]? = some (some [[.int .i64 0, .nilsl]]) ∧
    O 2 = .ptr Y.length 0 0 /\ O 4 = .ptr (Y.length + 1) 0 0 /\ O 5 = .int .i64 0 /\ O 25 = y /\ O 26 = .int .i64 l.length /\ O 27 = .int .i64 i) l.length ?_ ?_
   ·refine ⟨0, by omega, ?_, ?_, ?_, by simp (disch:=first|omega|(simp only [lens];first|done|omega)) only [go_sem,nQ1,nQ2,nQ3,nQ4,nQ5,nQ6,nQ7,nQ8],by simp (disch:=first|omega|(simp only [lens];first|done|omega)) only [go_sem,nQ1,nQ2,nQ3,nQ4,nQ5,nQ6,nQ7,nQ8],by simp (disch:=first|omega|(simp only [lens];first|done|omega)) only [go_sem,nQ1,nQ2,nQ3,nQ4,nQ5,nQ6,nQ7,nQ8],by simp (disch:=first|omega|(simp only [lens];first|done|omega)) only [go_sem,nQ1,nQ2,nQ3,nQ4,nQ5,nQ6,nQ7,nQ8],by simp (disch:=first|omega|(simp only [lens];first|done|omega)) only [go_sem,nQ1,nQ2,nQ3,nQ4,nQ5,nQ6,nQ7,nQ8,r1],by simp (disch:=first|omega|(simp only [lens];first|done|omega)) only [go_sem,nQ1,nQ2,nQ3,nQ4,nQ5,nQ6,nQ7,nQ8]; rfl⟩
    ·first | exact (Ext.refl Y).app | exact ⟨_, rfl⟩
    ·rw [<- hzz]; simp
    ·simp
   ·rintro m O Y' ⟨i, hm, he, c0, c1, q2, q4, q5, q25, q26, q27⟩
    have d0 := slen c0
    have d1 := slen c1
    by_cases hi : i < l.length
    ·obtain ⟨ex, rfl⟩ := hy.vsl (by rw [z6]; omega)
     have hz : SlV 32 (hr (extR n hs.reverse (l.take i)).reverse) (zv x (decide (i = 0)) (extR n hs.reverse (l.take i)).reverse) := zj6 fun h => by
      have : i = 0 := of_decide_eq_true h
      subst this
      simpa [extR] using hx
     have hlen : (extR n hs.reverse (l.take i)).reverse.length = pc 13 (n + i) := by
      rw [List.length_reverse, za4 13 n hs.reverse (l.take i) (by rw [List.length_take]; omega) (by rw [List.length_reverse]; exact hhs), List.length_take, Nat.min_eq_left (by omega)]
     have hP := fun Y => zqk Y (n + i) _ _ (hd l i) (.of hz) (by omega) hlen
     have hnext : z29 (n + i) (extR n hs.reverse (l.take i)) (hd l i) = extR n hs.reverse (l.take (i + 1)) := by
      rw [z5e hi, z8a, List.length_take, Nat.min_eq_left (by omega)]; rfl
     simp only [List.reverse_reverse, hnext] at hP
     clear hz hlen hnext
     generalize zv x (decide (i = 0)) (extR n hs.reverse (l.take i)).reverse = z at *
     repeat' (first|apply zs_|apply zb_|apply zc_|apply zt_ rfl|apply zf_ rfl|(refine zd_ rfl (fun ht => ?_) (fun ht => ?_)<;>try (exfalso;omega))|((first|apply zr_|apply zk_|apply ze_|apply zq_|(apply callW.mk_pu; (first | exact (fun _ => hP _))) | (apply callW.za; (first | exact (hP _))) | ((first|apply zg0|apply zg1|apply zg2|apply zg3|apply zg4|apply zg5|apply zg6|apply zg7)<;>intro ht));all_goals try simp (disch:=first|omega|(simp only [lens];first|done|omega)) only [go_sem,nQ1,nQ2,nQ3,nQ4,nQ5,nQ6,nQ7,nQ8,q2,q4,q5,q25,q26,q27,c0,c1]))
     refine ⟨l.length - (i + 1), by omega, i + 1, by omega, ?_, ?_, ?_⟩
     ·first | exact (he.app.set (by omega)) | exact (he.set (by omega)).app
     ·simp [zv]; omega
     ·simp
    ·have hil : i = l.length := by omega
     subst hil
     rw [List.take_of_length_le (Nat.le_refl _)] at c0
     have e1 : decide (l.length = 0) = l.isEmpty := by cases l <;> simp
     rw [e1] at c0
     have hz := rl_zv (k := Y.length) x l.isEmpty (extR n hs.reverse l).reverse
     have hcast : (n : Int) + l.length = ((n + l.length : Nat) : Int) := by omega
     rw [hcast]
     generalize zv x l.isEmpty (extR n hs.reverse l).reverse = z at *
     repeat' (first|apply zs_|apply zb_|apply zc_|apply zt_ rfl|apply zf_ rfl|(refine zd_ rfl (fun ht => ?_) (fun ht => ?_)<;>try (exfalso;omega))|((first|apply zr_|apply zk_|apply ze_|apply zq_|((first|apply zg0|apply zg1|apply zg2|apply zg3|apply zg4|apply zg5|apply zg6|apply zg7)<;>intro ht));all_goals try simp (disch:=first|omega|(simp only [lens];first|done|omega)) only [go_sem,nQ1,nQ2,nQ3,nQ4,nQ5,nQ6,nQ7,nQ8,q2,q4,q5,q25,q26,q27,c0,c1]))
     exact Ext.pure hw (he.set (by omega)) (zat hz)
 ·have hv0 : z3n n hs.length = false := by simpa using hv
  rw [if_pos hv0]
  rw [hv0] at hV
  refine ACallsTo.of_body qrok (by simp) fun hw _ => ?_
  repeat' (first|apply zs_|apply zb_|apply zc_|apply zt_ rfl|apply zf_ rfl|(refine zd_ rfl (fun ht => ?_) (fun ht => ?_)<;>try (exfalso;omega))|((first|apply zr_|apply zk_|apply ze_|apply zq_|(apply callW.mk_pu; (first | exact (fun _ => hV _))) | (apply callW.za; (first | exact (hV _))) | ((first|apply zg0|apply zg1|apply zg2|apply zg3|apply zg4|apply zg5|apply zg6|apply zg7)<;>intro ht));all_goals try simp (disch:=first|omega|(simp only [lens];first|done|omega)) only [go_sem,nQ1,nQ2,nQ3,nQ4,nQ5,nQ6,nQ7,nQ8,r1]))
  exact DownV.pure hw (zat (by simp [RL]))
end
section
def zcw : Nat -> List AV := fun n => [.int .i64 n]
def nums (l : List (Nat)) : List (List AV) := l.map zcw
@[go_sem] theorem zo3 (l : List (Nat)) : (nums l).length = l.length := by simp [nums]
@[go_sem] theorem nums_take (l : List (Nat)) (n : Nat) : (nums l).take n = nums (l.take n) := by simp [nums, List.map_take]
@[go_sem] theorem nums_drop (l : List (Nat)) (n : Nat) : (nums l).drop n = nums (l.drop n) := by simp [nums, List.map_drop]
@[go_sem] theorem nums_set (l : List (Nat)) (i : Nat) (x : Nat) : (nums l).set i (zcw x) = nums (l.set i x) := by simp [nums, List.map_set]
def numsD (l : List (Nat)) (i : Nat) : Nat := l.getD i 0
@[go_sem] theorem nums_get {l : List (Nat)} {i : Nat} (h : i < l.length) : (nums l)[i]? = some (zcw (numsD l i)) := by
 simp [nums, numsD, List.getElem?_map, List.getElem?_eq_getElem h]
def trsR : Nat × Hash -> List AV := fun t => .int .i64 t.1 :: hc t.2
def trs (l : List (Nat × Hash)) : List (List AV) := l.map trsR
@[go_sem] theorem zt8 (l : List (Nat × Hash)) : (trs l).length = l.length := by simp [trs]
@[go_sem] theorem trs_take (l : List (Nat × Hash)) (n : Nat) : (trs l).take n = trs (l.take n) := by simp [trs, List.map_take]
@[go_sem] theorem trs_drop (l : List (Nat × Hash)) (n : Nat) : (trs l).drop n = trs (l.drop n) := by simp [trs, List.map_drop]
@[go_sem] theorem trs_set (l : List (Nat × Hash)) (i : Nat) (x : Nat × Hash) : (trs l).set i (trsR x) = trs (l.set i x) := by simp [trs, List.map_set]
def trsD (l : List (Nat × Hash)) (i : Nat) : Nat × Hash := l.getD i (0, zeroH)
@[go_sem] theorem trs_get {l : List (Nat × Hash)} {i : Nat} (h : i < l.length) : (trs l)[i]? = some (trsR (trsD l i)) := by
 simp [trs, trsD, List.getElem?_map, List.getElem?_eq_getElem h]
theorem RdSl.frz {sz : Nat} {G news : Store} {v : AV} {es : List (List AV)} (h : RdSl (G ++ news) sz es v) (hn : ∀ r off len lim e, v = .sl r off len lim e -> G.length <= r) (hr : RLss G.length es) : ∃ v2, SlV sz es v2 /\ DR (FrzD G news) v2 v := by
 rcases h with (⟨rfl, rfl⟩ | ⟨ex, rfl⟩) | ⟨r, off, lim, o, rfl, hg, h1, h2⟩
 ·exact ⟨.nilsl, .inl ⟨rfl, rfl⟩, by simp [DR]⟩
 ·exact ⟨.vsl sz es ex, .inr ⟨ex, rfl⟩, FrzD.same (by simpa only [RL] using hr)⟩
 ·exact ⟨.vsl sz es false, .inr ⟨false, rfl⟩, FrzD.sl (hn _ _ _ _ _ rfl) hg h1 h2 hr⟩
theorem Ext.all {Y Y' : Store} {v v2 : AV} (hw : Wf Y.length Y) (he : Ext Y Y') (h : ∀ news, Y' = Y ++ news -> DR (FrzD Y news) v2 v) : DownV Y.length v Y' v2 Y := by
 obtain ⟨news, rfl⟩ := he
 exact DownV.all hw (h news rfl)
def OwnR (sz k : Nat) (Y' : Store) (v : AV) (es : List (List AV)) : Prop := (es = [] /\ v = .nilsl) \/ ∃ r, k <= r /\ es ≠ [] /\ v = .sl r 0 es.length none sz /\ Y'[r]? = some (some es)
theorem OwnR.nil {sz k : Nat} {Y' : Store} : OwnR sz k Y' .nilsl [] := .inl ⟨rfl, rfl⟩
theorem OwnR.cells {sz k : Nat} {Y' : Store} {v : AV} {es : List (List AV)} (h : OwnR sz k Y' v es) : cellsOf v = some [v] := by
 rcases h with ⟨_, rfl⟩ | ⟨r, _, _, rfl, _⟩ <;> rfl
theorem OwnR.rd {sz k : Nat} {Y' : Store} {v : AV} {es : List (List AV)} (h : OwnR sz k Y' v es) : RdSl Y' sz es v := by
 rcases h with ⟨h, rfl⟩ | ⟨r, _, _, rfl, hg⟩
 ·exact .inl (.inl ⟨rfl, h⟩)
 ·exact .inr ⟨r, 0, none, es, rfl, hg, by omega, by simp⟩
theorem OwnR.len {sz k : Nat} {Y' : Store} {v : AV} {es : List (List AV)} (h : OwnR sz k Y' v es) : z1j v = some (.int .i64 es.length) := h.rd.len
theorem OwnR.set {sz k q : Nat} {Y' : Store} {v : AV} {es : List (List AV)} {x : Option AObj} (h : OwnR sz k Y' v es) (hq : q < k) : OwnR sz k (Y'.set q x) v es := by
 rcases h with h | ⟨r, h1, h2, h3, h4⟩
 ·exact .inl h
 ·exact .inr ⟨r, h1, h2, h3, by rw [z1d (by omega)]; exact h4⟩
theorem OwnR.more {sz k : Nat} {Y' y : Store} {v : AV} {es : List (List AV)} (h : OwnR sz k Y' v es) : OwnR sz k (Y' ++ y) v es := by
 rcases h with h | ⟨r, h1, h2, h3, h4⟩
 ·exact .inl h
 ·exact .inr ⟨r, h1, h2, h3, by rw [gapp (slen h4)]; exact h4⟩
theorem OwnR.app {sz k : Nat} {Y' : Store} {v : AV} {es ys : List (List AV)} (h : OwnR sz k Y' v es) (hk : k <= Y'.length) (h0 : ys.length ≠ 0) (hl : es.length + ys.length <= 1073741824) :
  ∃ v' Y2, aApp Y' sz v ys = some (v', Y2) /\ OwnR sz k Y2 v' (es ++ ys) /\ (∀ q, q < k -> Y2[q]? = Y'[q]?) /\ (∀ Y : Store, Y.length <= k -> Ext Y Y' -> Ext Y Y2) /\ k <= Y2.length := by
 have hne : es ++ ys ≠ [] := fun e => h0 (by rw [(List.append_eq_nil_iff.1 e).2]; rfl)
 rcases h with ⟨rfl, rfl⟩ | ⟨r, h1, h2, rfl, hg⟩
 ·refine ⟨.sl Y'.length 0 ys.length none sz, Y' ++ [some ys], by rw [z9r, if_neg h0, if_pos (by simpa using hl)], .inr ⟨Y'.length, hk, hne, by simp, by simp⟩, fun q hq => gapp (by omega), fun Y _ he => he.app, by simp; omega⟩
 ·have hr := slen hg
  refine ⟨.sl Y'.length 0 (es.length + ys.length) none sz, Y'.set r none ++ [some (es ++ ys)], ?_, .inr ⟨Y'.length, hk, hne, by simp, by rw [z1a (by simp)]; simp⟩, fun q hq => by rw [gapp (by simp; omega), z1d (by omega)], fun Y hs he => (he.set (by omega)).app, by simp; omega⟩
  rw [z7w, if_neg h0, hg]
  simp only
  rw [if_pos ⟨trivial, by omega, by omega⟩, if_neg (by omega), List.drop_zero, List.take_of_length_le (Nat.le_refl _)]
theorem OwnR.frz {sz k : Nat} {G news : Store} {v : AV} {es : List (List AV)} (h : OwnR sz k (G ++ news) v es) (hk : G.length <= k) (hr : RLss G.length es) : DR (FrzD G news) (z12 sz es) v := by
 unfold z12
 rcases h with ⟨rfl, rfl⟩ | ⟨r, h1, h2, rfl, hg⟩
 ·simp [DR]
 ·rw [if_neg h2]
  exact FrzD.sl (by omega) hg (by omega) (by simp) hr
theorem OwnR.fr {sz k : Nat} {G Y' news : Store} {v : AV} {es : List (List AV)} (h : OwnR sz k Y' v es) (e : Y' = G ++ news) (hk : G.length <= k) (hr : RLss G.length es) : DR (FrzD G news) (z12 sz es) v := by
 subst e; exact h.frz hk hr
end
section
attribute [local irreducible] ACallsTo ACallsP
theorem zd4 : ∀ (f n : Nat), pc f n <= f
 | 0, _ => Nat.le_refl _
 | f + 1, n => by simp only [pc]; have := zd4 f (n / 2); omega
theorem OwnN.base {sz : Nat} {G y Y' : Store} {v : AV} {es : List (List AV)} (h : OwnN sz (G ++ y) Y' v es) : OwnN sz G Y' v es := by
 obtain ⟨news, rfl, h⟩ := h
 refine ⟨y ++ news, by rw [List.append_assoc], ?_⟩
 rcases h with h | ⟨j, h0, rfl, hj⟩
 ·exact .inl h
 ·exact .inr ⟨y.length + j, h0, by rw [List.length_append]; congr 1; omega, by rw [List.getElem?_append_right (by omega), Nat.add_sub_cancel_left]; exact hj⟩
end
section
attribute [local irreducible] ACallsTo ACallsP
theorem zhy {k sz : Nat} {es : List (List AV)} (h : RLss k es) : RL k (z12 sz es) := by
 unfold z12
 split
 ·simp [RL]
 ·simpa only [RL] using h
theorem RdSl.rel {Y : Store} {sz : Nat} {es : List (List AV)} {x : AV} (h : RdSl Y sz es x) : z3l Y sz x = some es := by
 rcases h with (⟨rfl, rfl⟩ | ⟨ex, rfl⟩) | ⟨r, off, lim, o, rfl, hg, h1, h2⟩
 ·rfl
 ·simp [z3l]
 ·simp [z3l, zb4, hg, h1, h2]
end
section
attribute [local irreducible] ACallsTo ACallsP
theorem zsc {sz : Nat} {es : List (List AV)} : cellsOf (z12 sz es) = some [z12 sz es] := by
 unfold z12; split <;> rfl
theorem zld (n : Int) (hs l : List Hash) (x : AV) : ∃ n' z e, extA n hs l x = .tup [.agg [.int .i64 n', z], .int .i64 e] /\ (∀ k, RL k z) /\ cellsOf z = some [z] := by
 unfold extA
 split
 ·exact ⟨0, .nilsl, 2, rfl, fun k => by simp [RL], rfl⟩
 ·split
  ·exact ⟨0, .nilsl, 60, rfl, fun k => by simp [RL], rfl⟩
  ·exact ⟨_, _, 0, rfl, fun k => rl_zv _ _ _, zj5 _ _ _⟩
theorem zj7 (Y : Store) (n : Int) (hs : List Hash) (x : AV) (h : Hash) (hx : RdSl Y 32 (hr hs) x) (hn : -9223372036854775808 <= n /\ n <= 9223372036854775807) (hhl : hs.length < 1000000) :
  ACallsTo TC 63 [.agg [.int .i64 n, x], .agg (hc h)] Y (extA n hs [h] x) Y := by
 have hE := fun y => zjd (Y ++ y) n hs [h] x (.vsl 32 [hc h] true) hx.app (.inr ⟨true, rfl⟩) hn hhl (by simp)
 obtain ⟨n', z, e, h', hz, hcz⟩ := zld n hs [h] x
 rw [h'] at hE ⊢
 unfold cellsOf at hcz
 refine ACallsTo.of_body qqok (by simp) fun hw _ => ?_
 repeat' (first|apply zs_|apply zb_|apply zc_|apply zt_ rfl|apply zf_ rfl|(refine zd_ rfl (fun ht => ?_) (fun ht => ?_)<;>try (exfalso;omega))|((first|apply zr_|apply zk_|apply ze_|apply zq_|(apply callW.mk_pu; (first | exact (fun _ => hE _))) | (apply callW.za; (first | exact (hE _))) | ((first|apply zg0|apply zg1|apply zg2|apply zg3|apply zg4|apply zg5|apply zg6|apply zg7)<;>intro ht));all_goals try simp (disch:=first|omega|(simp only [lens,z7,z6,zt8,zo3,lQr];first|done|omega)) only [go_sem,nQ1,nQ2,nQ3,nQ4,nQ5,nQ6,nQ7,nQ8,hcz]))
 exact DownV.pure hw (zat (hz _))
end
section
attribute [local irreducible] ACallsTo ACallsP
end
section
attribute [local irreducible] ACallsTo ACallsP
theorem z91 {sz : Nat} {es : List (List AV)} {z : AV} (h : SlV sz es z) : cellsOf z = some [z] := by
 rcases h with ⟨rfl, _⟩ | ⟨ex, rfl⟩ <;> rfl
end
section
theorem zi1 (a b : Hash) : z18 [a, b] = zz a b := by
 rw [z8w (by simp)]; simp [split2, zdk]
theorem zi2 (a b c d : Hash) : z18 [a, b, c, d] = zz (zz a b) (zz c d) := by
 rw [z8w (by simp)]; simp [split4, zi1]
attribute [local irreducible] ACallsTo ACallsP
end
section
attribute [local irreducible] ACallsTo ACallsP
end
section
attribute [local irreducible] ACallsTo ACallsP
end
section
attribute [local irreducible] ACallsTo ACallsP
theorem zj8 (Y : Store) (x : AV) (hx : cellsOf x = some [x]) :
  ACallsTo TC 96 [x] Y (.fn 118 [.ptr Y.length 0 0]) (Y ++ [some [[x]]]) := by
 unfold cellsOf at hx
 refine ACallsTo.of_body_keep qwok (by simp) ?_
 repeat' (first|apply zs_|apply zb_|apply zc_|apply zt_ rfl|apply zf_ rfl|(refine zd_ rfl (fun ht => ?_) (fun ht => ?_)<;>try (exfalso;omega))|((first|apply zr_|apply zk_|apply ze_|apply zq_|((first|apply zg0|apply zg1|apply zg2|apply zg3|apply zg4|apply zg5|apply zg6|apply zg7)<;>intro ht));all_goals try simp (disch:=first|omega|(simp only [lens,z7,z6,lQr];first|done|omega)) only [go_sem,nQ1,nQ2,nQ3,nQ4,nQ5,nQ6,nQ7,nQ8,hx,z3r]))
def z6d (n : Int) (hs : List Hash) : AV := if z3n n hs.length = false then .tup [.agg (hc zeroH), .int .i64 2] else .tup [.agg (hc (z5u hs.reverse)), .int .i64 0]
theorem zdh {k : Nat} {h : Hash} {e : Int} : RL k (.tup [.agg (hc h), .int .i64 e]) := by simp only [RL, RLs]; exact ⟨z78 h, trivial, trivial⟩
theorem zre {hs : List Hash} {m : Nat} (h : hs.length = m + 1) : z5u hs.reverse = ((hs.take m).reverse.take m).foldl (fun o h => zz h o) (hd hs m) := by
 have e : hs = hs.take m ++ [hd hs m] := by rw [<- z5e (by omega), List.take_of_length_le (by omega)]
 have e2 : hs.reverse = hd hs m :: (hs.take m).reverse := by
  conv => lhs; rw [e]
  rw [List.reverse_append, List.reverse_singleton, List.singleton_append]
 have e3 : (hs.take m).reverse.take m = (hs.take m).reverse := List.take_of_length_le (by simp; omega)
 rw [e2, z5u, e3]
theorem zm0 {R : List Hash} {j : Nat} (x : Hash) (h : j < R.length) : (R.reverse.take (j + 1)).foldl (fun o h => zz h o) x = zz (hd R (R.length - 1 - j)) ((R.reverse.take j).foldl (fun o h => zz h o) x) := by
 have hj : j < R.reverse.length := by rw [List.length_reverse]; exact h
 rw [List.take_add_one, List.getElem?_eq_getElem hj]
 simp only [Option.toList_some, List.foldl_append, List.foldl_cons, List.foldl_nil]
 rw [z6s (by omega), List.getElem_reverse]
theorem z8p : ∀ (f m : Nat), 0 < m -> m < 2 ^ f -> 0 < pc f m
 | 0, m, h, h1 => by simp at h1; omega
 | f + 1, m, h, h1 => by
  simp only [pc]
  by_cases h2 : m % 2 = 1
  ·omega
  ·have := z8p f (m / 2) (by omega) (by rw [Nat.pow_succ] at h1; omega)
   omega
set_option maxHeartbeats 16000000 in
theorem Root_v (Y : Store) (n : Int) (hs : List Hash) (x : AV) (hx : SlV 32 (hr hs) x) (hl : hs.length < 1000000) (hn : -9223372036854775808 <= n /\ n <= 9223372036854775807) :
    ACallsTo TC 64 [.agg [.int .i64 n, x]] Y (z6d n hs) Y := by
  have xc := z91 hx
  unfold cellsOf at xc
  have r1 := hx.len
  rw [z6] at r1
  unfold z1j at r1
  have hV := fun Y => zhm Y n hs x (.of hx)
  have hT := fun Y => zb9 Y [] .nilsl (.of (.inl ⟨rfl, rfl⟩)) (by decide)
  refine ACallsTo.of_bodyD qtok (by simp) fun hw _ => ?_
  unfold z6d
  refine SWpD.seqS ?_
  repeat' (first|apply zs_|apply zb_|apply zc_|apply zt_ rfl|apply zf_ rfl|(refine zd_ rfl (fun ht => ?_) (fun ht => ?_)<;>try (exfalso;omega))|((first|apply zr_|apply zk_|apply ze_|apply zq_|((first|apply zg0|apply zg1|apply zg2|apply zg3|apply zg4|apply zg5|apply zg6|apply zg7)<;>intro ht));all_goals try simp (disch:=first|omega|(simp only [lens,z7,z6,lQr];first|done|omega)) only [go_sem,nQ1,nQ2,nQ3,nQ4,nQ5,nQ6,nQ7,nQ8,xc]))
  refine SWpD.seqS ?_
  cases hv : z3n n hs.length with
  | false =>
    rw [hv] at hV
    rw [if_pos rfl]
    repeat' (first|apply zs_|apply zb_|apply zc_|apply zt_ rfl|apply zf_ rfl|(refine zd_ rfl (fun ht => ?_) (fun ht => ?_)<;>try (exfalso;omega))|((first|apply zr_|apply zk_|apply ze_|apply zq_|(apply callW.mk_pu; (first | exact (fun _ => hV _))) | (apply callW.za; (first | exact (hV _))) | ((first|apply zg0|apply zg1|apply zg2|apply zg3|apply zg4|apply zg5|apply zg6|apply zg7)<;>intro ht));all_goals try simp (disch:=first|omega|(simp only [lens,z7,z6,lQr];first|done|omega)) only [go_sem,nQ1,nQ2,nQ3,nQ4,nQ5,nQ6,nQ7,nQ8,xc]))
    exact DownV.pure hw (zdh (h := zeroH))
  | true =>
    rw [hv] at hV
    rw [if_neg (by simp)]
    by_cases hn0 : n = 0
    · subst hn0
      have h0 : hs = [] := by
        have := of_decide_eq_true hv
        exact List.eq_nil_of_length_eq_zero this.2.2
      subst h0
      repeat' (first|apply zs_|apply zb_|apply zc_|apply zt_ rfl|apply zf_ rfl|(refine zd_ rfl (fun ht => ?_) (fun ht => ?_)<;>try (exfalso;omega))|((first|apply zr_|apply zk_|apply ze_|apply zq_|(apply callW.mk_pu; (first | exact (fun _ => hV _) | exact (fun _ => hT _))) | (apply callW.za; (first | exact (hV _) | exact (hT _))) | ((first|apply zg0|apply zg1|apply zg2|apply zg3|apply zg4|apply zg5|apply zg6|apply zg7)<;>intro ht));all_goals try simp (disch:=first|omega|(simp only [lens,z7,z6,lQr];first|done|omega)) only [go_sem,nQ1,nQ2,nQ3,nQ4,nQ5,nQ6,nQ7,nQ8,xc]))
      exact DownV.pure hw zdh
    · obtain ⟨_, hn2, hpc⟩ := of_decide_eq_true hv
      have hlen : ∃ m, hs.length = m + 1 := by
        rcases Nat.eq_zero_or_pos hs.length with h | h
        · exfalso
          have := z8p 64 n.toNat (by omega) (by omega)
          omega
        · exact ⟨hs.length - 1, by omega⟩
      obtain ⟨m, hm⟩ := hlen
      obtain ⟨ex, rfl⟩ := hx.vsl (by rw [z6]; omega)
      have hm1 : ((hs.length : Nat) : Int) - 1 = (m : Int) := by omega
      have hmm : ((m : Nat) : Int).toNat = m := rfl
      have hB := fun Y t => zj8 Y (.vsl 32 (hr (hs.take m)) t) rfl
      have hlt : (hs.take m).length = m := by rw [List.length_take]; omega
      have hR := zre hm
      repeat' (first|apply zs_|apply zb_|apply zc_|apply zt_ rfl|apply zf_ rfl|(refine zd_ rfl (fun ht => ?_) (fun ht => ?_)<;>try (exfalso;omega))|((first|apply zr_|apply zk_|apply ze_|apply zq_|(apply callW.mk_pu; (first | exact (fun _ => hV _))) | (apply callW.za; (first | exact (hV _))) | ((first|apply zg0|apply zg1|apply zg2|apply zg3|apply zg4|apply zg5|apply zg6|apply zg7)<;>intro ht));all_goals try simp (disch:=first|omega|(simp only [lens,z7,z6,lQr];first|done|omega)) only [go_sem,nQ1,nQ2,nQ3,nQ4,nQ5,nQ6,nQ7,nQ8,xc,hn0]))
      refine SWpD.seqS ?_
      repeat' (first|apply zs_|apply zb_|apply zc_|apply zt_ rfl|apply zf_ rfl|(refine zd_ rfl (fun ht => ?_) (fun ht => ?_)<;>try (exfalso;omega))|((first|apply zr_|apply zk_|apply ze_|apply zq_|((first|apply zg0|apply zg1|apply zg2|apply zg3|apply zg4|apply zg5|apply zg6|apply zg7)<;>intro ht));all_goals try simp (disch:=first|omega|(simp only [lens,z7,z6,lQr];first|done|omega)) only [go_sem,nQ1,nQ2,nQ3,nQ4,nQ5,nQ6,nQ7,nQ8,xc,r1,hm1]))
      refine SWpD.seqS ?_
      repeat' (first|apply zs_|apply zb_|apply zc_|apply zt_ rfl|apply zf_ rfl|(refine zd_ rfl (fun ht => ?_) (fun ht => ?_)<;>try (exfalso;omega))|((first|apply zr_|apply zk_|apply ze_|apply zq_|((first|apply zg0|apply zg1|apply zg2|apply zg3|apply zg4|apply zg5|apply zg6|apply zg7)<;>intro ht));all_goals try simp (disch:=first|omega|(simp only [lens,z7,z6,lQr];first|done|omega)) only [go_sem,nQ1,nQ2,nQ3,nQ4,nQ5,nQ6,nQ7,nQ8,xc,r1,hm1,hmm]))
      refine SWpD.seqR ?_
      refine SWpD.seqS ?_
      repeat' (first|apply zs_|apply zb_|apply zc_|apply zt_ rfl|apply zf_ rfl|(refine zd_ rfl (fun ht => ?_) (fun ht => ?_)<;>try (exfalso;omega))|((first|apply zr_|apply zk_|apply ze_|apply zq_|(apply callW.mk_pu; (first | exact (fun _ => hB _ _))) | (apply callW.za; (first | exact (hB _ _))) | ((first|apply zg0|apply zg1|apply zg2|apply zg3|apply zg4|apply zg5|apply zg6|apply zg7)<;>intro ht));all_goals try simp (disch:=first|omega|(simp only [lens,z7,z6,lQr];first|done|omega)) only [go_sem,nQ1,nQ2,nQ3,nQ4,nQ5,nQ6,nQ7,nQ8,xc,r1,hm1,hmm]))
      refine SWpD.block ?_
      refine zqn (rB := Y.length + 3) (es := hr (hs.take m)) (by simp (disch:=first|omega|(simp only [lens,z7,z6,lQr];first|done|omega)) only [go_sem,nQ1,nQ2,nQ3,nQ4,nQ5,nQ6,nQ7,nQ8] <;> rfl) (by rw [z6]; omega) (by decide) (by decide) (fun e he => by
          simp only [hr, List.mem_map] at he
          obtain ⟨h, _, rfl⟩ := he
          exact z7 h)
        (fun j Y' => Y'[Y.length + 1]? = some (some [hc zeroH]) /\ Y'[Y.length + 2]? = some (some [hc (((hs.take m).reverse.take j).foldl (fun o h => zz h o) (hd hs m))]) /\ (∃ ex, Y'[Y.length + 3]? = some (some [[.vsl 32 (hr (hs.take m)) ex]])) /\ ∃ news, Y' = Y ++ news) ?_ ?_ ?_ ?_
      · refine ⟨by simp (disch:=first|omega|(simp only [lens,z7,z6,lQr];first|done|omega)) only [go_sem,nQ1,nQ2,nQ3,nQ4,nQ5,nQ6,nQ7,nQ8] <;> rfl,by simp (disch:=first|omega|(simp only [lens,z7,z6,lQr];first|done|omega)) only [go_sem,nQ1,nQ2,nQ3,nQ4,nQ5,nQ6,nQ7,nQ8] <;> rfl,⟨_,by simp (disch:=first|omega|(simp only [lens,z7,z6,lQr];first|done|omega)) only [go_sem,nQ1,nQ2,nQ3,nQ4,nQ5,nQ6,nQ7,nQ8] <;> rfl⟩,_,rfl⟩
      · rintro j Y' ⟨_, _, ⟨ex, h⟩, _⟩
        exact ⟨_, h, .inr ⟨ex, rfl⟩⟩
      · rintro l j Y' cs ⟨i1, i2, ⟨ex2, i3⟩, news, rfl⟩ hj hcs
        rw [z6, hlt] at hj
        have hcs2 : cs = hc (hd (hs.take m) (m - 1 - j)) := by
          rw [z6, hlt, z69 (by omega)] at hcs
          exact (Option.some.inj hcs).symm
        subst hcs2
        have hN := fun Y => z93 Y (hd (hs.take m) (m - 1 - j)) (((hs.take m).reverse.take j).foldl (fun o h => zz h o) (hd hs m))
        have hst := zm0 (R := hs.take m) (j := j) (hd hs m) (by omega)
        rw [hlt] at hst
        rw [<- hst] at hN
        generalize ((hs.take m).reverse.take j).foldl (fun o h => zz h o) (hd hs m) = A at *
        generalize ((hs.take m).reverse.take (j + 1)).foldl (fun o h => zz h o) (hd hs m) = B at *
        generalize hd (hs.take m) (m - 1 - j) = H at *
        rw [getElem?_app] at i1 i2 i3
        have l1 := slen i1
        have l2 := slen i2
        have l3 := slen i3
        refine SWpI.reg rfl ?_
        simp (disch:=first|omega|(simp only [lens,z7,z6,lQr];first|done|omega)) only [go_sem,nQ1,nQ2,nQ3,nQ4,nQ5,nQ6,nQ7,nQ8]
        refine SWpI.block ?_
        refine SWpI.reg rfl ?_
        simp (disch:=first|omega|(simp only [lens,z7,z6,lQr];first|done|omega)) only [go_sem,nQ1,nQ2,nQ3,nQ4,nQ5,nQ6,nQ7,nQ8,i1,i2,i3,l1,l2,l3]
        refine callW.za (hN _) trivial ?_
        simp (disch:=first|omega|(simp only [lens,z7,z6,lQr];first|done|omega)) only [go_sem,nQ1,nQ2,nQ3,nQ4,nQ5,nQ6,nQ7,nQ8,i1,i2,i3,l1,l2,l3]
        exact ⟨⟨_, rfl⟩, _, rfl⟩
      · rintro Y' ⟨i1, i2, ⟨ex2, i3⟩, news, rfl⟩
        rw [z6, hlt] at i2
        rw [<- hR] at i2
        rw [getElem?_app] at i1 i2
        have l1 := slen i1
        have l2 := slen i2
        repeat' (first|apply zs_|apply zb_|apply zc_|apply zt_ rfl|apply zf_ rfl|(refine zd_ rfl (fun ht => ?_) (fun ht => ?_)<;>try (exfalso;omega))|((first|apply zr_|apply zk_|apply ze_|apply zq_|((first|apply zg0|apply zg1|apply zg2|apply zg3|apply zg4|apply zg5|apply zg6|apply zg7)<;>intro ht));all_goals try simp (disch:=first|omega|(simp only [lens,z7,z6,lQr];first|done|omega)) only [go_sem,nQ1,nQ2,nQ3,nQ4,nQ5,nQ6,nQ7,nQ8,i1,i2,l1,l2]))
        exact DownV.pure hw zdh
end
section
attribute [local irreducible] ACallsTo ACallsP
theorem Root_h (Y : Store) (n : Int) (hs : List Hash) (x : AV) (hx : RdSl Y 32 (hr hs) x) (hl : hs.length < 1000000) (hn : -9223372036854775808 <= n /\ n <= 9223372036854775807) :
  ACallsTo TC 64 [.agg [.int .i64 n, x]] Y (z6d n hs) Y := by
 obtain ⟨x0, h0, hd⟩ := hx.lend (z1w hs)
 have hi : ∀ i : Int, RL 0 (.int .i64 i) := fun i => by simp [RL]
 have := ACallsTo.lend glok (Root_v [] n hs x0 h0 hl hn) (drs1 (drA (drsc (rl0 (hi n) Y) (drs1 hd))))
 have e : sh Y.length (z6d n hs) = z6d n hs := by
  unfold z6d
  split
  all_goals simp only [sh, shs, zb3]
 rwa [e, z5v, List.append_nil] at this
theorem ext_ok {Y : Store} {n : Nat} {hs l : List Hash} {x : AV} (hx : RdSl Y 32 (hr hs) x) (hl : hs.length = pc 13 n) (h : n + l.length <= 4096) :
  ∃ z, extA n hs l x = .tup [.agg [.int .i64 ((n + l.length : Nat) : Int), z], .int .i64 0] /\ SlV 32 (hr (extR n hs.reverse l).reverse) z := by
 have hv : z3n n hs.length = true := decide_eq_true ⟨by omega, by omega, by rw [Int.toNat_natCast, pc13 (by omega)]; exact hl⟩
 refine ⟨zv x l.isEmpty (extR n hs.reverse l).reverse, ?_, zj6 (Y := Y) fun h => ?_⟩
 ·unfold extA
  rw [hv, if_neg (by simp), if_neg (by omega), Int.toNat_natCast]; rfl
 ·have : l = [] := by cases l <;> simp at h ⊢
  subst this
  simpa [extR] using hx
theorem zag (l : List Hash) (h : l.length <= 4096) : (ofR l).length = pc 13 l.length := by
 have := za4 13 0 [] l (by omega) (by rw [zal]; rfl)
 rwa [Nat.zero_add] at this
end
section
attribute [local irreducible] ACallsTo ACallsP
end
section
attribute [local irreducible] ACallsTo ACallsP
end
section
attribute [local irreducible] ACallsTo ACallsP
end
section

end
section

end
section

end
section

end
section
def chkH (m n : Int) (o nw : Hash) (ps : List Hash) : Int := chkI m n o.1 nw.1 (hb ps)
end
section
attribute [local irreducible] ACallsTo ACallsP
end
section
set_option maxRecDepth 10000
@[go_sem] def qxr0 : List AIns := [
 ⟨some 2,none,.no,.mv (.v (.str []))⟩]
@[go_sem] def qxr1 : List AIns := [
 ⟨some 3,none,.no,.mv (.t 0)⟩,
 ⟨some 4,none,.no,.bin .lss .none (.t 3) (.v (.int .u64 128))⟩]
@[go_sem] def qxr2 : List AIns := [
 ⟨some 5,none,.no,.mv (.t 0)⟩,
 ⟨some 6,none,.no,.conv (.int .u8) (.t 5)⟩,
 ⟨some 7,none,.no,.lit 1 [(.t 6)]⟩,
 ⟨some 8,none,.no,.conv .str (.t 7)⟩,
 ⟨some 2,none,.no,.mv (.t 8)⟩]
def qxc3 : ACode := .seq (.reg qxr2) .ret
def qxc4 : ACode := .cond (.t 4) qxc3 .skip
def qxc5 : ACode := .seq (.reg qxr1) qxc4
@[go_sem] def qxr6 : List AIns := [
 ⟨some 9,none,.no,.mv (.t 0)⟩,
 ⟨some 10,none,.no,.bin .quo .none (.t 9) (.v (.int .u64 128))⟩,
 ⟨some 11, none, .same, .call (.v (.fn 146 [])) [(.t 10)]⟩,
 ⟨some 12,none,.no,.mv (.t 0)⟩,
 ⟨some 13,none,.no,.bin .rem .none (.t 12) (.v (.int .u64 128))⟩,
 ⟨some 14,none,.no,.conv (.int .u8) (.t 13)⟩,
 ⟨some 15,none,.no,.lit 1 [(.t 14)]⟩,
 ⟨some 16, none, .same, .conv .str (.t 15)⟩,
 ⟨some 17,none,.no,.bin .add .none (.t 11) (.t 16)⟩,
 ⟨some 2,none,.no,.mv (.t 17)⟩]
def qxc7 : ACode := .seq (.reg qxr6) .ret
def qxc8 : ACode := .seq qxc5 qxc7
def qxc9 : ACode := .seq (.reg qxr0) qxc8
theorem qxok : cFn TC 139 = some (18, [.t 2], qxc9) := by kernel_rfl
@[go_sem] def qyr0 : List AIns := [
 ⟨some 2,none,.no,.mv (.v (.str []))⟩]
@[go_sem] def qyr1 : List AIns := [
 ⟨some 3,none,.no,.mv (.t 0)⟩,
 ⟨some 4,none,.no,.lenStr (.t 3)⟩,
 ⟨some 5,none,.no,.conv (.int .u64) (.t 4)⟩,
 ⟨some 6,none,.no,.call (.v (.fn 139 [])) [(.t 5)]⟩,
 ⟨some 7,none,.no,.mv (.t 0)⟩,
 ⟨some 8,none,.no,.bin .add .none (.t 6) (.t 7)⟩,
 ⟨some 2,none,.no,.mv (.t 8)⟩]
def qyc2 : ACode := .seq (.reg qyr1) .ret
def qyc3 : ACode := .seq (.reg qyr0) qyc2
theorem qyok : cFn TC 128 = some (9, [.t 2], qyc3) := by kernel_rfl
@[go_sem] def qzr0 : List AIns := [
 ⟨some 2,none,.no,.alloc zZ0⟩,
 ⟨some 3,none,.no,.mv (.v (.str []))⟩,
 ⟨some 4,none,.no,.mv (.v (.bool false))⟩]
@[go_sem] def qzr1 : List AIns := [
 ⟨some 7,none,.no,.mv (.t 0)⟩,
 ⟨some 8,none,.no,.call (.v (.fn 136 [])) [(.t 7), (.v (.int .u64 32))]⟩,
 ⟨some 6,none,.no,.mv (.t 8)⟩,
 ⟨some 9,none,.no,.ext 0 (.t 6)⟩,
 ⟨some 10,none,.no,.ext 1 (.t 6)⟩,
 ⟨some 11,none,.no,.ext 2 (.t 6)⟩,
 ⟨some 5,none,.no,.mv (.t 9)⟩,
 ⟨some 3,none,.no,.mv (.t 10)⟩,
 ⟨some 4,none,.no,.mv (.t 11)⟩]
@[go_sem] def qzr2 : List AIns := [
 ⟨some 12,none,.no,.slice (.arr 32 1) (.t 2) none none none⟩,
 ⟨some 13,none,.no,.mv (.t 5)⟩,
 ⟨some 14,none,.no,.copy 1 (.t 12) (.t 13)⟩]
@[go_sem] def qzr3 : List AIns := [
 ⟨some 15,none,.no,.load true 32 (.t 2)⟩,
 ⟨some 16,none,.no,.mv (.t 3)⟩,
 ⟨some 17,none,.no,.mv (.t 4)⟩,
 ⟨none,none,.no,.store 32 (.t 2) (.t 15)⟩,
 ⟨some 3,none,.no,.mv (.t 16)⟩,
 ⟨some 4,none,.no,.mv (.t 17)⟩]
def qzc4 : ACode := .seq (.reg qzr3) .ret
def qzc5 : ACode := .seq (.reg qzr2) qzc4
def qzc6 : ACode := .seq (.reg qzr1) qzc5
def qzc7 : ACode := .seq (.reg qzr0) qzc6
theorem qzok : cFn TC 124 = some (18, [.c 2 true 32, .t 3, .t 4], qzc7) := by kernel_rfl
@[go_sem] def q10r0 : List AIns := [
 ⟨some 2,none,.no,.mv (.v (.str []))⟩]
@[go_sem] def q10r1 : List AIns := [
 ⟨some 4,none,.no,.mv (.t 0)⟩,
 ⟨some 5,none,.no,.bin .rem .none (.t 4) (.v (.int .u64 128))⟩,
 ⟨some 6,none,.no,.conv (.int .u8) (.t 5)⟩,
 ⟨some 7,none,.no,.lit 1 [(.t 6)]⟩,
 ⟨some 3,none,.no,.mv (.t 7)⟩]
@[go_sem] def q10r2 : List AIns := [
 ⟨some 8,none,.no,.mv (.t 0)⟩,
 ⟨some 9,none,.no,.bin .quo .none (.t 8) (.v (.int .u64 128))⟩,
 ⟨some 0,none,.no,.mv (.t 9)⟩]
@[go_sem] def q10r3 : List AIns := [
 ⟨some 10,none,.no,.mv (.t 0)⟩,
 ⟨some 11,none,.no,.bin .gtr .none (.t 10) (.v (.int .u64 0))⟩]
def q10c4 : ACode := .cond (.t 11) .skip (.exit 0)
def q10c5 : ACode := .seq (.reg q10r3) q10c4
@[go_sem] def q10r6 : List AIns := [
 ⟨some 14,none,.no,.mv (.t 0)⟩,
 ⟨some 15,none,.no,.bin .rem .none (.t 14) (.v (.int .u64 128))⟩,
 ⟨some 16,none,.no,.conv (.int .u8) (.t 15)⟩,
 ⟨some 17,none,.no,.bin .or .none (.t 16) (.v (.int .u8 128))⟩,
 ⟨some 18,none,.no,.lit 1 [(.t 17)]⟩,
 ⟨some 19,none,.no,.mv (.t 3)⟩,
 ⟨some 20,none,.no,.appB (.t 18) (.t 19)⟩,
 ⟨some 3,none,.no,.mv (.t 20)⟩]
@[go_sem] def q10r7 : List AIns := [
 ⟨some 12,none,.no,.mv (.t 0)⟩,
 ⟨some 13,none,.no,.bin .quo .none (.t 12) (.v (.int .u64 128))⟩,
 ⟨some 0,none,.no,.mv (.t 13)⟩]
def q10c8 : ACode := .seq (.block 1 (.reg q10r6)) (.reg q10r7)
def q10c9 : ACode := .seq q10c5 q10c8
def q10c10 : ACode := .loop q10c9
def q10c11 : ACode := .block 0 q10c10
def q10c12 : ACode := .seq (.reg q10r2) q10c11
@[go_sem] def q10r13 : List AIns := [
 ⟨some 21,none,.no,.mv (.t 3)⟩,
 ⟨some 22,none,.no,.conv .str (.t 21)⟩,
 ⟨some 2,none,.no,.mv (.t 22)⟩]
def q10c14 : ACode := .seq (.reg q10r13) .ret
def q10c15 : ACode := .seq q10c12 q10c14
def q10c16 : ACode := .seq (.reg q10r1) q10c15
def q10c17 : ACode := .seq (.reg q10r0) q10c16
theorem q10ok : cFn TC 138 = some (23, [.t 2], q10c17) := by kernel_rfl
@[go_sem] def q11r0 : List AIns := [
 ⟨some 2,none,.no,.mv (.v (.str []))⟩]
@[go_sem] def q11r1 : List AIns := [
 ⟨some 3,none,.no,.mv (.t 0)⟩,
 ⟨some 4,none,.no,.lenStr (.t 3)⟩,
 ⟨some 5,none,.no,.conv (.int .u64) (.t 4)⟩,
 ⟨some 6,none,.no,.call (.v (.fn 138 [])) [(.t 5)]⟩,
 ⟨some 7,none,.no,.mv (.t 0)⟩,
 ⟨some 8,none,.no,.bin .add .none (.t 6) (.t 7)⟩,
 ⟨some 2,none,.no,.mv (.t 8)⟩]
def q11c2 : ACode := .seq (.reg q11r1) .ret
def q11c3 : ACode := .seq (.reg q11r0) q11c2
theorem q11ok : cFn TC 127 = some (9, [.t 2], q11c3) := by kernel_rfl
@[go_sem] def q12r0 : List AIns := [
 ⟨some 2,none,.no,.mv (.v (.str []))⟩]
@[go_sem] def q12r1 : List AIns := [
 ⟨some 4,none,.no,.mv (.t 0)⟩,
 ⟨some 5,none,.no,.bin .rem .none (.t 4) (.v (.int .u64 128))⟩,
 ⟨some 6,none,.no,.conv (.int .u8) (.t 5)⟩,
 ⟨some 7,none,.no,.bin .add .none (.t 6) (.v (.int .u8 128))⟩,
 ⟨some 8,none,.no,.lit 1 [(.t 7)]⟩,
 ⟨some 9,none,.no,.conv .str (.t 8)⟩,
 ⟨some 3,none,.no,.mv (.t 9)⟩]
@[go_sem] def q12r2 : List AIns := [
 ⟨some 10,none,.no,.mv (.t 0)⟩,
 ⟨some 11,none,.no,.bin .lss .none (.t 10) (.v (.int .u64 128))⟩]
@[go_sem] def q12r3 : List AIns := [
 ⟨some 12,none,.no,.mv (.t 3)⟩,
 ⟨some 2,none,.no,.mv (.t 12)⟩]
def q12c4 : ACode := .seq (.reg q12r3) .ret
def q12c5 : ACode := .cond (.t 11) q12c4 .skip
def q12c6 : ACode := .seq (.reg q12r2) q12c5
@[go_sem] def q12r7 : List AIns := [
 ⟨some 13,none,.no,.mv (.t 0)⟩,
 ⟨some 14,none,.no,.bin .quo .none (.t 13) (.v (.int .u64 128))⟩,
 ⟨some 15,none,.no,.call (.v (.fn 146 [])) [(.t 14)]⟩,
 ⟨some 16,none,.no,.mv (.t 3)⟩,
 ⟨some 17,none,.no,.bin .add .none (.t 15) (.t 16)⟩,
 ⟨some 2,none,.no,.mv (.t 17)⟩]
def q12c8 : ACode := .seq (.reg q12r7) .ret
def q12c9 : ACode := .seq q12c6 q12c8
def q12c10 : ACode := .seq (.reg q12r1) q12c9
def q12c11 : ACode := .seq (.reg q12r0) q12c10
theorem q12ok : cFn TC 146 = some (18, [.t 2], q12c11) := by kernel_rfl
@[go_sem] def q13r0 : List AIns := [
 ⟨some 4,none,.no,.mv (.v (.str []))⟩,
 ⟨some 5,none,.no,.mv (.v (.str []))⟩,
 ⟨some 6,none,.no,.mv (.v (.bool false))⟩]
@[go_sem] def q13r1 : List AIns := [
 ⟨some 7,none,.no,.mv (.t 1)⟩,
 ⟨some 8,none,.no,.mv (.t 0)⟩,
 ⟨some 9,none,.no,.lenStr (.t 8)⟩,
 ⟨some 10,none,.no,.conv (.int .u64) (.t 9)⟩,
 ⟨some 11,none,.no,.bin .gtr .none (.t 7) (.t 10)⟩]
@[go_sem] def q13r2 : List AIns := [
 ⟨some 4,none,.no,.mv (.v (.str []))⟩,
 ⟨some 5,none,.no,.mv (.v (.str []))⟩,
 ⟨some 6,none,.no,.mv (.v (.bool false))⟩]
def q13c3 : ACode := .seq (.reg q13r2) .ret
def q13c4 : ACode := .cond (.t 11) q13c3 .skip
def q13c5 : ACode := .seq (.reg q13r1) q13c4
@[go_sem] def q13r6 : List AIns := [
 ⟨some 12,none,.no,.mv (.t 0)⟩,
 ⟨some 13,none,.no,.mv (.t 1)⟩,
 ⟨some 14,none,.no,.slice .str (.t 12) none (some (.t 13)) none⟩,
 ⟨some 15,none,.no,.mv (.t 0)⟩,
 ⟨some 16,none,.no,.mv (.t 1)⟩,
 ⟨some 17,none,.no,.slice .str (.t 15) (some (.t 16)) none none⟩,
 ⟨some 4,none,.no,.mv (.t 14)⟩,
 ⟨some 5,none,.no,.mv (.t 17)⟩,
 ⟨some 6,none,.no,.mv (.v (.bool true))⟩]
def q13c7 : ACode := .seq (.reg q13r6) .ret
def q13c8 : ACode := .seq q13c5 q13c7
def q13c9 : ACode := .seq (.reg q13r0) q13c8
theorem q13ok : cFn TC 136 = some (18, [.t 4, .t 5, .t 6], q13c9) := by kernel_rfl
end
section
def u8 (n : Nat) : UInt8 := UInt8.ofNat n
theorem z5h {n : Nat} (h : n < 256) : (u8 n).toNat = n := by unfold u8; rw [UInt8.toNat_ofNat']; omega
def z2g : Nat -> Nat -> List UInt8
 | 0, _ => []
 | f + 1, n => if n < 128 then [u8 (n + 128)] else z2g f (n / 128) ++ [u8 (n % 128 + 128)]
theorem zex (f n : Nat) : z2g (f + 1) n = if n < 128 then [u8 (n + 128)] else z2g f (n / 128) ++ [u8 (n % 128 + 128)] := rfl
theorem zew : ∀ (f g n : Nat), n < 128 ^ f -> n < 128 ^ g -> 0 < f -> 0 < g -> z2g f n = z2g g n
 | 0, _, _, _, _, h, _ => by omega
 | _ + 1, 0, _, _, _, _, h => by omega
 | f + 1, g + 1, n, h, h', _, _ => by
  simp only [z2g]
  by_cases h1 : n < 128
  ·rw [if_pos h1, if_pos h1]
  ·rw [if_neg h1, if_neg h1]
   rw [Nat.pow_succ] at h h'
   have hf : 0 < f := by
    rcases Nat.eq_zero_or_pos f with h0 | h0
    ·subst h0; simp at h; omega
    ·exact h0
   have hg : 0 < g := by
    rcases Nat.eq_zero_or_pos g with h0 | h0
    ·subst h0; simp at h'; omega
    ·exact h0
   rw [zew f g (n / 128) (by omega) (by omega) hf hg]
def numS (n : Nat) : List UInt8 := if n < 128 then [u8 n] else z2g 10 (n / 128) ++ [u8 (n % 128)]
def dval (l : List UInt8) : Nat := l.foldl (fun n b => 128 * n + b.toNat % 128) 0
theorem zl9 (l : List UInt8) (b : UInt8) : dval (l ++ [b]) = 128 * dval l + b.toNat % 128 := by simp [dval]
theorem zbm : ∀ (f n : Nat), 0 < f -> n < 128 ^ f -> (∀ b ∈ z2g f n, 128 <= b.toNat) /\ (z2g f n).length <= f /\ dval (z2g f n) = n
 | 0, _, h, _ => by omega
 | f + 1, n, _, h => by
  simp only [z2g]
  by_cases h1 : n < 128
  ·rw [if_pos h1]
   refine ⟨fun b hb => ?_, by simp, ?_⟩
   ·simp at hb; subst hb; rw [z5h (by omega)]; omega
   ·simp only [dval, List.foldl_cons, List.foldl_nil]; rw [z5h (by omega)]; omega
  ·rw [if_neg h1]
   rw [Nat.pow_succ] at h
   have hf : 0 < f := by
    rcases Nat.eq_zero_or_pos f with h0 | h0
    ·subst h0; simp at h; omega
    ·exact h0
   obtain ⟨i1, i2, i3⟩ := zbm f (n / 128) hf (by omega)
   refine ⟨fun b hb => ?_, by simp; omega, ?_⟩
   ·rcases List.mem_append.1 hb with hb | hb
    ·exact i1 b hb
    ·simp at hb; subst hb; rw [z5h (by omega)]; omega
   ·rw [zl9, i3, z5h (by omega)]; omega
end
section
attribute [local irreducible] ACallsTo ACallsP
theorem or128 {n : Nat} (h : n < 128) : n ||| 128 = n + 128 := by
 have := Nat.two_pow_add_eq_or_of_lt (i := 7) (b := n) h 1
 simp at this
 rw [Nat.or_comm, <- this, Nat.add_comm]
theorem zkc (b : UInt8) (s : List UInt8) : zh (b :: s) = [.int .u8 b.toNat] :: zh s := by simp [zh, B8]
theorem zhw : ∀ (f : Nat) (Y : Store) (n : Nat), 0 < f -> f <= 100 -> n < 128 ^ f -> n < 18446744073709551616 -> ACallsTo TC 146 [.int .u64 n] Y (.str (z2g f n)) Y
 | 0, _, _, h, _, _, _ => by omega
 | f + 1, Y, n, _, hf100, h, h64 => by
  refine ACallsTo.of_body q12ok (by simp) fun hw _ => ?_
  have hb : [[AV.int .u8 ((n : Int) % 128 + 128)]] = zh [u8 (n % 128 + 128)] := by
   have := z5h (n := n % 128 + 128) (by omega)
   simp [zh, B8, this]
  simp only [z2g]
  by_cases h1 : n < 128
  ·have e : u8 (n + 128) = u8 (n % 128 + 128) := by congr 1; omega
   rw [if_pos h1, e]
   generalize u8 (n % 128 + 128) = c at *
   repeat' (first|apply zs_|apply zb_|apply zc_|apply zt_ rfl|apply zf_ rfl|(refine zd_ rfl (fun ht => ?_) (fun ht => ?_)<;>try (exfalso;omega))|((first|apply zr_|apply zk_|apply ze_|apply zq_|((first|apply zg0|apply zg1|apply zg2|apply zg3|apply zg4|apply zg5|apply zg6|apply zg7)<;>intro ht));all_goals try simp (disch:=first|omega|(simp only [lens,z7,z6,lQr,zl];first|done|omega)) only [go_sem,nQ1,nQ2,nQ3,nQ4,nQ5,nQ6,nQ7,nQ8,hb]))
   exact DownV.same hw (z14 _ rfl)
  ·rw [if_neg h1]
   rw [Nat.pow_succ] at h
   have hf : 0 < f := by
    rcases Nat.eq_zero_or_pos f with h0 | h0
    ·subst h0; simp at h; omega
    ·exact h0
   have ih := fun Y => zhw f Y (n / 128) hf (by omega) (by omega) (by omega)
   have hlen := (zbm f (n / 128) hf (by omega)).2.1
   have hd : (n : Int) / 128 = ((n / 128 : Nat) : Int) := by simp
   generalize u8 (n % 128 + 128) = c at *
   repeat' (first|apply zs_|apply zb_|apply zc_|apply zt_ rfl|apply zf_ rfl|(refine zd_ rfl (fun ht => ?_) (fun ht => ?_)<;>try (exfalso;omega))|((first|apply zr_|apply zk_|apply ze_|apply zq_|(apply callW.mk_pu; (first | exact (fun _ => ih _))) | (apply callW.za; (first | exact (ih _))) | ((first|apply zg0|apply zg1|apply zg2|apply zg3|apply zg4|apply zg5|apply zg6|apply zg7)<;>intro ht));all_goals try simp (disch:=first|omega|(simp only [lens,z7,z6,lQr,zl];first|done|omega)) only [go_sem,nQ1,nQ2,nQ3,nQ4,nQ5,nQ6,nQ7,nQ8,hb,hd]))
   exact DownV.same hw (z14 _ rfl)
theorem zr3 (Y : Store) (n : Nat) (h : n < 18446744073709551616) : ACallsTo TC 139 [.int .u64 n] Y (.str (numS n)) Y := by
 refine ACallsTo.of_body qxok (by simp) fun hw _ => ?_
 unfold numS
 by_cases h1 : n < 128
 ·have hb : [[AV.int .u8 (n : Int)]] = zh [u8 n] := by
   have := z5h (n := n) (by omega)
   simp [zh, B8, this]
  rw [if_pos h1]
  generalize u8 n = c at *
  repeat' (first|apply zs_|apply zb_|apply zc_|apply zt_ rfl|apply zf_ rfl|(refine zd_ rfl (fun ht => ?_) (fun ht => ?_)<;>try (exfalso;omega))|((first|apply zr_|apply zk_|apply ze_|apply zq_|((first|apply zg0|apply zg1|apply zg2|apply zg3|apply zg4|apply zg5|apply zg6|apply zg7)<;>intro ht));all_goals try simp (disch:=first|omega|(simp only [lens,z7,z6,lQr,zl];first|done|omega)) only [go_sem,nQ1,nQ2,nQ3,nQ4,nQ5,nQ6,nQ7,nQ8,hb]))
  exact DownV.same hw (z14 _ rfl)
 ·have hb : [[AV.int .u8 ((n : Int) % 128)]] = zh [u8 (n % 128)] := by
   have := z5h (n := n % 128) (by omega)
   simp [zh, B8, this]
  have hA := fun Y => zhw 10 Y (n / 128) (by decide) (by decide) (by omega) (by omega)
  have hlen := (zbm 10 (n / 128) (by decide) (by omega)).2.1
  have hd : (n : Int) / 128 = ((n / 128 : Nat) : Int) := by simp
  rw [if_neg h1]
  generalize u8 (n % 128) = c at *
  repeat' (first|apply zs_|apply zb_|apply zc_|apply zt_ rfl|apply zf_ rfl|(refine zd_ rfl (fun ht => ?_) (fun ht => ?_)<;>try (exfalso;omega))|((first|apply zr_|apply zk_|apply ze_|apply zq_|(apply callW.mk_pu; (first | exact (fun _ => hA _))) | (apply callW.za; (first | exact (hA _))) | ((first|apply zg0|apply zg1|apply zg2|apply zg3|apply zg4|apply zg5|apply zg6|apply zg7)<;>intro ht));all_goals try simp (disch:=first|omega|(simp only [lens,z7,z6,lQr,zl];first|done|omega)) only [go_sem,nQ1,nQ2,nQ3,nQ4,nQ5,nQ6,nQ7,nQ8,hb,hd]))
  exact DownV.same hw (z14 _ rfl)
def preF (m : Nat) : List UInt8 := if m = 0 then [] else z2g 10 m
theorem zpa {m : Nat} (h : 0 < m) (h2 : m < 18446744073709551616) : preF m = preF (m / 128) ++ [u8 (m % 128 + 128)] := by
 unfold preF
 rw [if_neg (by omega), show (10 : Nat) = 9 + 1 from rfl, zex]
 by_cases h1 : m < 128
 ·rw [if_pos h1, if_pos (by omega), show m % 128 + 128 = m + 128 by omega]; rfl
 ·rw [if_neg h1, if_neg (by omega), zew 9 10 (m / 128) (by omega) (by omega) (by decide) (by decide)]
theorem zo2 (n : Nat) : numS n = preF (n / 128) ++ [u8 (n % 128)] := by
 unfold numS preF
 by_cases h1 : n < 128
 ·rw [if_pos h1, if_pos (by omega), show n % 128 = n by omega]; rfl
 ·rw [if_neg h1, if_neg (by omega)]
set_option maxHeartbeats 4000000 in
theorem zkz (Y : Store) (n : Nat) (h : n < 18446744073709551616) : ACallsTo TC 138 [.int .u64 n] Y (.str (numS n)) Y := by
 refine ACallsTo.of_body q10ok (by simp) fun hw _ => ?_
 have hb : [[AV.int .u8 ((n : Int) % 128)]] = zh [u8 (n % 128)] := by
  have := z5h (n := n % 128) (by omega)
  simp [zh, B8, this]
 have hd : (n : Int) / 128 = ((n / 128 : Nat) : Int) := by simp
 have hn := zo2 n
 generalize u8 (n % 128) = c0 at *
 repeat' (first|apply zs_|apply zb_|apply zc_|apply zt_ rfl|apply zf_ rfl|(refine zd_ rfl (fun ht => ?_) (fun ht => ?_)<;>try (exfalso;omega))|((first|apply zr_|apply zk_|apply ze_|apply zq_|((first|apply zg0|apply zg1|apply zg2|apply zg3|apply zg4|apply zg5|apply zg6|apply zg7)<;>intro ht));all_goals try simp (disch:=first|omega|(simp only [lens,z7,z6,lQr,zl];first|done|omega)) only [go_sem,nQ1,nQ2,nQ3,nQ4,nQ5,nQ6,nQ7,nQ8,hb,hd]))
 refine zW.loop (fun k O Y' => ∃ (m : Nat) (b : List UInt8) (v : AV), m < 128 ^ k /\ m < 18446744073709551616 /\ preF m ++ b = numS n /\ 0 < b.length /\ b.length + k <= 12 /\ Ext Y Y' /\ (v = .vsl 1 (zh b) true \/ ∃ r, Y.length <= r /\ v = .sl r 0 b.length none 1 /\ Y'[r]? = some (some (zh b))) /\ O 0 = .int .u64 m /\ O 3 = v) 10 ?_ ?_
 ·exact ⟨n / 128, [c0], _, by omega, by omega, hn.symm, by simp, by simp, Ext.refl _, .inl rfl, by simp (disch:=first|omega|(simp only [lens,z7,z6,lQr,zl];first|done|omega)) only [go_sem,nQ1,nQ2,nQ3,nQ4,nQ5,nQ6,nQ7,nQ8],by simp (disch:=first|omega|(simp only [lens,z7,z6,lQr,zl];first|done|omega)) only [go_sem,nQ1,nQ2,nQ3,nQ4,nQ5,nQ6,nQ7,nQ8,hb]⟩
 ·rintro k O Y' ⟨m, b, v, hmk, hm, hmb, hb0, hbk, he, hv, q0, q3⟩
  by_cases h0 : m = 0
  ·subst h0
   rw [<- hmb]
   have e0 : preF 0 ++ b = b := rfl
   rw [e0]
   rcases hv with rfl | ⟨r, hr, rfl, hg⟩
   ·repeat' (first|apply zs_|apply zb_|apply zc_|apply zt_ rfl|apply zf_ rfl|(refine zd_ rfl (fun ht => ?_) (fun ht => ?_)<;>try (exfalso;omega))|((first|apply zr_|apply zk_|apply ze_|apply zq_|((first|apply zg0|apply zg1|apply zg2|apply zg3|apply zg4|apply zg5|apply zg6|apply zg7)<;>intro ht));all_goals try simp (disch:=first|omega|(simp only [lens,z7,z6,lQr,zl];first|done|omega)) only [go_sem,nQ1,nQ2,nQ3,nQ4,nQ5,nQ6,nQ7,nQ8,q0,q3]))
    exact Ext.pure hw he (z14 _ rfl)
   ·repeat' (first|apply zs_|apply zb_|apply zc_|apply zt_ rfl|apply zf_ rfl|(refine zd_ rfl (fun ht => ?_) (fun ht => ?_)<;>try (exfalso;omega))|((first|apply zr_|apply zk_|apply ze_|apply zq_|((first|apply zg0|apply zg1|apply zg2|apply zg3|apply zg4|apply zg5|apply zg6|apply zg7)<;>intro ht));all_goals try simp (disch:=first|omega|(simp only [lens,z7,z6,lQr,zl];first|done|omega)) only [go_sem,nQ1,nQ2,nQ3,nQ4,nQ5,nQ6,nQ7,nQ8,q0,q3,hg]))
    exact Ext.pure hw he (z14 _ rfl)
  ·have hst := zpa (m := m) (by omega) hm
   have hc8 := z5h (n := m % 128 + 128) (by omega)
   have hor : ((((m : Int) % 128).toNat ||| 128 : Nat) : Int) = (((u8 (m % 128 + 128)).toNat : Nat) : Int) := by
    have : ((m : Int) % 128).toNat = m % 128 := by omega
    rw [this, or128 (by omega), hc8]
   have hd2 : (m : Int) / 128 = ((m / 128 : Nat) : Int) := by simp
   rw [hst, List.append_assoc] at hmb
   have hkk : ∃ k', k = k' + 1 := by
    cases k with
    | zero => simp at hmk; omega
    | succ k => exact ⟨k, rfl⟩
   obtain ⟨k, rfl⟩ := hkk
   rw [Nat.pow_succ] at hmk
   generalize u8 (m % 128 + 128) = c at *
   have hcat : [AV.int .u8 (c.toNat : Int)] :: zh b = zh (c :: b) := (zkc c b).symm
   have hlen : (zh b).length = b.length := zl b
   rcases hv with rfl | ⟨r, hr, rfl, hg⟩
   ·repeat' (first|apply zs_|apply zb_|apply zc_|apply zt_ rfl|apply zf_ rfl|(refine zd_ rfl (fun ht => ?_) (fun ht => ?_)<;>try (exfalso;omega))|((first|apply zr_|apply zk_|apply ze_|apply zq_|((first|apply zg0|apply zg1|apply zg2|apply zg3|apply zg4|apply zg5|apply zg6|apply zg7)<;>intro ht));all_goals try simp (disch:=first|omega|(simp only [lens,z7,z6,lQr,zl];first|done|omega)) only [go_sem,nQ1,nQ2,nQ3,nQ4,nQ5,nQ6,nQ7,nQ8,q0,q3,hor,hd2,hcat]))
    exact ⟨k, by omega, m / 128, c :: b, _, by omega, by omega, hmb, by simp, by simp; omega, he.app, .inr ⟨Y'.length, he.le, by simp [Nat.add_comm], by simp⟩, rfl, rfl⟩
   ·repeat' (first|apply zs_|apply zb_|apply zc_|apply zt_ rfl|apply zf_ rfl|(refine zd_ rfl (fun ht => ?_) (fun ht => ?_)<;>try (exfalso;omega))|((first|apply zr_|apply zk_|apply ze_|apply zq_|((first|apply zg0|apply zg1|apply zg2|apply zg3|apply zg4|apply zg5|apply zg6|apply zg7)<;>intro ht));all_goals try simp (disch:=first|omega|(simp only [lens,z7,z6,lQr,zl];first|done|omega)) only [go_sem,nQ1,nQ2,nQ3,nQ4,nQ5,nQ6,nQ7,nQ8,q0,q3,hor,hd2,hcat,hg]))
    exact ⟨k, by omega, m / 128, c :: b, _, by omega, by omega, hmb, by simp, by simp; omega, he.app, .inr ⟨Y'.length, he.le, by simp [Nat.add_comm], by simp⟩, rfl, rfl⟩
end
section
attribute [local irreducible] ACallsTo ACallsP
end
section
attribute [local irreducible] ACallsTo ACallsP
def z3x (s : List UInt8) (n : Nat) : Option (List UInt8 × List UInt8) := if n <= s.length then some (s.take n, s.drop n) else none
def stV : Option (List UInt8 × List UInt8) -> AV
 | none => .tup [.str [], .str [], .bool false]
 | some (a, r) => .tup [.str a, .str r, .bool true]
def z3y (s : List UInt8) : List UInt8 := numS s.length ++ s
theorem zcv (n : Nat) : (numS n).length <= 11 := by
 unfold numS
 split
 ·simp
 ·have : ∀ f m, (z2g f m).length <= f := by
   intro f
   induction f with
   | zero => intro m; simp [z2g]
   | succ f ih =>
    intro m
    rw [zex]
    split
    ·simp
    ·have := ih (m / 128); simp; omega
  have := this 10 (n / 128)
  simp; omega
set_option maxHeartbeats 4000000 in
theorem zl0 (Y : Store) (s : List UInt8) (hs : s.length < 1000000000) : ACallsTo TC 127 [.str s] Y (.str (z3y s)) Y := by
 refine ACallsTo.of_body q11ok (by simp) fun hw _ => ?_
 have hN := fun Y => zkz Y s.length (by omega)
 have h1 := zcv s.length
 unfold z3y
 generalize numS s.length = N at *
 repeat' (first|apply zs_|apply zb_|apply zc_|apply zt_ rfl|apply zf_ rfl|(refine zd_ rfl (fun ht => ?_) (fun ht => ?_)<;>try (exfalso;omega))|((first|apply zr_|apply zk_|apply ze_|apply zq_|(apply callW.mk_pu; (first | exact (fun _ => hN _))) | (apply callW.za; (first | exact (hN _))) | ((first|apply zg0|apply zg1|apply zg2|apply zg3|apply zg4|apply zg5|apply zg6|apply zg7)<;>intro ht));all_goals try simp (disch:=first|omega|(simp only [lens,z7,z6,lQr,zl,z11];first|done|omega)) only [go_sem,nQ1,nQ2,nQ3,nQ4,nQ5,nQ6,nQ7,nQ8]))
 exact DownV.same hw (z14 _ rfl)
set_option maxHeartbeats 4000000 in
theorem zr7 (Y : Store) (s : List UInt8) (hs : s.length < 1000000000) : ACallsTo TC 128 [.str s] Y (.str (z3y s)) Y := by
 refine ACallsTo.of_body qyok (by simp) fun hw _ => ?_
 have hN := fun Y => zr3 Y s.length (by omega)
 have h1 := zcv s.length
 unfold z3y
 generalize numS s.length = N at *
 repeat' (first|apply zs_|apply zb_|apply zc_|apply zt_ rfl|apply zf_ rfl|(refine zd_ rfl (fun ht => ?_) (fun ht => ?_)<;>try (exfalso;omega))|((first|apply zr_|apply zk_|apply ze_|apply zq_|(apply callW.mk_pu; (first | exact (fun _ => hN _))) | (apply callW.za; (first | exact (hN _))) | ((first|apply zg0|apply zg1|apply zg2|apply zg3|apply zg4|apply zg5|apply zg6|apply zg7)<;>intro ht));all_goals try simp (disch:=first|omega|(simp only [lens,z7,z6,lQr,zl,z11];first|done|omega)) only [go_sem,nQ1,nQ2,nQ3,nQ4,nQ5,nQ6,nQ7,nQ8]))
 exact DownV.same hw (z14 _ rfl)
set_option maxHeartbeats 4000000 in
theorem zsw (Y : Store) (s : List UInt8) (n : Nat) (hs : s.length < 1000000000) (hn : n < 18446744073709551616) : ACallsTo TC 136 [.str s, .int .u64 n] Y (stV (z3x s n)) Y := by
 refine ACallsTo.of_body q13ok (by simp) fun hw _ => ?_
 by_cases h : n <= s.length
 ·unfold z3x
  rw [if_pos h]
  unfold stV
  repeat' (first|apply zs_|apply zb_|apply zc_|apply zt_ rfl|apply zf_ rfl|(refine zd_ rfl (fun ht => ?_) (fun ht => ?_)<;>try (exfalso;omega))|((first|apply zr_|apply zk_|apply ze_|apply zq_|((first|apply zg0|apply zg1|apply zg2|apply zg3|apply zg4|apply zg5|apply zg6|apply zg7)<;>intro ht));all_goals try simp (disch:=first|omega|(simp only [lens,z7,z6,lQr,zl,z11];first|done|omega)) only [go_sem,nQ1,nQ2,nQ3,nQ4,nQ5,nQ6,nQ7,nQ8]))
  exact DownV.same hw (z14 _ rfl)
 ·unfold z3x
  rw [if_neg h]
  unfold stV
  repeat' (first|apply zs_|apply zb_|apply zc_|apply zt_ rfl|apply zf_ rfl|(refine zd_ rfl (fun ht => ?_) (fun ht => ?_)<;>try (exfalso;omega))|((first|apply zr_|apply zk_|apply ze_|apply zq_|((first|apply zg0|apply zg1|apply zg2|apply zg3|apply zg4|apply zg5|apply zg6|apply zg7)<;>intro ht));all_goals try simp (disch:=first|omega|(simp only [lens,z7,z6,lQr,zl,z11];first|done|omega)) only [go_sem,nQ1,nQ2,nQ3,nQ4,nQ5,nQ6,nQ7,nQ8]))
  exact DownV.same hw (z14 _ rfl)
end
section
attribute [local irreducible] ACallsTo ACallsP
def toH (l : List UInt8) : Hash := if h : l.length = 32 then ⟨l, h⟩ else zeroH
theorem hc_toH {l : List UInt8} (h : l.length = 32) : hc (toH l) = zx l := by simp [toH, h, hc]
theorem zt0 (h : Hash) : toH h.1 = h := by simp [toH, h.2]
def unS (s : List UInt8) : Option (Hash × List UInt8) := (z3x s 32).map fun x => (toH x.1, x.2)
def unV : Option (Hash × List UInt8) -> AV
 | none => .tup [.agg (hc zeroH), .str [], .bool false]
 | some (h, r) => .tup [.agg (hc h), .str r, .bool true]
theorem zta {s : List UInt8} (h : ¬ 32 <= s.length) : unS s = none := by simp [unS, z3x, h]
theorem zix {s : List UInt8} (h : 32 <= s.length) : unS s = some (toH (s.take 32), s.drop 32) := by simp [unS, z3x, h]
theorem ziy (h : Hash) (r : List UInt8) : unV (some (h, r)) = .tup [.agg (hc h), .str r, .bool true] := rfl
theorem ztb : unV none = .tup [.agg z32, .str [], .bool false] := rfl
theorem rl_un {k : Nat} {cs : List AV} {r : List UInt8} {b : Bool} (h : RLs k cs) : RL k (.tup [.agg cs, .str r, .bool b]) := by
 simp only [RL, RLs]; exact ⟨h, trivial, trivial, trivial⟩
theorem zj4 : z32.length = 32 := rfl
set_option maxHeartbeats 4000000 in
theorem zl1 (Y : Store) (s : List UInt8) (hs : s.length < 1000000000) : ACallsTo TC 124 [.str s] Y (unV (unS s)) Y := by
 refine ACallsTo.of_body qzok (by simp) fun hw _ => ?_
 have hT := fun Y => zsw Y s 32 hs (by omega)
 by_cases h : 32 <= s.length
 ·rw [zix h]
  rw [ziy, hc_toH (by simp; omega)]
  have ht : z3x s 32 = some (s.take 32, s.drop 32) := by simp [z3x, h]
  rw [ht] at hT
  unfold stV at hT
  have hl : (s.take 32).length = 32 := by simp; omega
  generalize s.take 32 = a at *
  have hf := zf5 a
  have hft : (zh a).take 32 = zh a := List.take_of_length_le (by rw [zl]; omega)
  have hfc : (zx a).length = 32 := by rw [z11]; exact hl
  have hfd : (zx a).drop 32 = [] := List.drop_of_length_le (by omega)
  have hfk : (zx a).take 32 = zx a := List.take_of_length_le (by omega)
  repeat' (first|apply zs_|apply zb_|apply zc_|apply zt_ rfl|apply zf_ rfl|(refine zd_ rfl (fun ht => ?_) (fun ht => ?_)<;>try (exfalso;omega))|((first|apply zr_|apply zk_|apply ze_|apply zq_|(apply callW.mk_pu; (first | exact (fun _ => hT _))) | (apply callW.za; (first | exact (hT _))) | ((first|apply zg0|apply zg1|apply zg2|apply zg3|apply zg4|apply zg5|apply zg6|apply zg7)<;>intro ht));all_goals try simp (disch:=first|omega|(simp only [lens,z7,z6,lQr,zl,z11];first|done|omega)) only [go_sem,nQ1,nQ2,nQ3,nQ4,nQ5,nQ6,nQ7,nQ8,hf,hft,hl,hfc,hfd,hfk,List.append_nil,zj4]))
  exact DownV.pure hw (rl_un (z2c _))
 ·rw [zta h, ztb]
  have ht : z3x s 32 = none := by simp [z3x, h]
  rw [ht] at hT
  unfold stV at hT
  have hbe : (zh []).flatten = ([] : List AV) := rfl
  repeat' (first|apply zs_|apply zb_|apply zc_|apply zt_ rfl|apply zf_ rfl|(refine zd_ rfl (fun ht => ?_) (fun ht => ?_)<;>try (exfalso;omega))|((first|apply zr_|apply zk_|apply ze_|apply zq_|(apply callW.mk_pu; (first | exact (fun _ => hT _))) | (apply callW.za; (first | exact (hT _))) | ((first|apply zg0|apply zg1|apply zg2|apply zg3|apply zg4|apply zg5|apply zg6|apply zg7)<;>intro ht));all_goals try simp (disch:=first|omega|(simp only [lens,z7,z6,lQr,zl,z11];first|done|omega)) only [go_sem,nQ1,nQ2,nQ3,nQ4,nQ5,nQ6,nQ7,nQ8,zj4,hbe,List.nil_append,List.drop_zero]))
  exact DownV.pure hw (rl_un (cs := z32) (z2c (List.replicate 32 0)))
end
section
attribute [local irreducible] ACallsTo ACallsP
end
section
attribute [local irreducible] ACallsTo ACallsP
def catS (l : List Hash) : List UInt8 := (l.map (·.1)).flatten
theorem z6p : ∀ (l : List Hash), (catS l).length = 32 * l.length
 | [] => rfl
 | h :: l => by
  have := z6p l
  simp only [catS, List.map_cons, List.flatten_cons, List.length_append, List.length_cons, h.2] at this ⊢
  omega
theorem zfd {l : List Hash} {i : Nat} (h : i < l.length) : catS (l.take (i + 1)) = catS (l.take i) ++ (hd l i).1 := by
 rw [z5e h]; simp [catS]
end
section
set_option maxRecDepth 10000
@[go_sem] def q14r0 : List AIns := [
 ⟨some 4,none,.no,.mv (.v .nilsl)⟩,
 ⟨some 5,none,.no,.mv (.v (.int .i64 0))⟩]
@[go_sem] def q14r1 : List AIns := [
 ⟨some 8,none,.no,.mv (.t 1)⟩,
 ⟨some 9,none,.no,.bin .lss .none (.t 8) (.v (.int .i64 0))⟩,
 ⟨some 10,none,.no,.mv (.t 9)⟩,
 ⟨some 11, some (10, false), .no, .mv (.t 1)⟩,
 ⟨some 12, some (10, false), .no, .mv (.t 0)⟩,
 ⟨some 13, some (10, false), .no, .lenSl (.t 12)⟩,
 ⟨some 14, some (10, false), .no, .bin .geq .none (.t 11) (.t 13)⟩,
 ⟨some 15,none,.no,.pick (.t 10) (.v (.bool true)) (.t 14)⟩]
@[go_sem] def q14r2 : List AIns := [
 ⟨some 4,none,.no,.mv (.v .nilsl)⟩,
 ⟨some 5,none,.no,.mv (.v (.int .i64 2))⟩]
def q14c3 : ACode := .seq (.reg q14r2) .ret
def q14c4 : ACode := .cond (.t 15) q14c3 .skip
def q14c5 : ACode := .seq (.reg q14r1) q14c4
@[go_sem] def q14r6 : List AIns := [
 ⟨some 6,none,.no,.mv (.v .nilsl)⟩]
@[go_sem] def q14r7 : List AIns := [
 ⟨some 16,none,.no,.mv (.t 0)⟩,
 ⟨some 17,none,.no,.lenSl (.t 16)⟩,
 ⟨some 18,none,.no,.bin .gtr .none (.t 17) (.v (.int .i64 1))⟩]
def q14c8 : ACode := .cond (.t 18) .skip (.exit 0)
def q14c9 : ACode := .seq (.reg q14r7) q14c8
@[go_sem] def q14r10 : List AIns := [
 ⟨some 19,none,.no,.mv (.t 0)⟩,
 ⟨some 20,none,.no,.lenSl (.t 19)⟩,
 ⟨some 21,none,.no,.call (.v (.fn 74 [])) [(.t 20)]⟩,
 ⟨some 7,none,.no,.mv (.t 21)⟩]
@[go_sem] def q14r11 : List AIns := [
 ⟨some 22,none,.no,.mv (.t 1)⟩,
 ⟨some 23,none,.no,.mv (.t 7)⟩,
 ⟨some 24,none,.no,.bin .lss .none (.t 22) (.t 23)⟩]
@[go_sem] def q14r12 : List AIns := [
 ⟨some 25,none,.no,.mv (.t 6)⟩,
 ⟨some 26,none,.no,.mv (.t 0)⟩,
 ⟨some 27,none,.no,.mv (.t 7)⟩,
 ⟨some 28,none,.no,.slice (.sl 32) (.t 26) (some (.t 27)) none none⟩,
 ⟨some 29,none,.no,.call (.v (.fn 45 [])) [(.t 28)]⟩,
 ⟨some 30,none,.no,.lit 32 [(.t 29)]⟩,
 ⟨some 31,none,.no,.app 32 (.t 25) (.t 30)⟩,
 ⟨some 6,none,.no,.mv (.t 31)⟩]
@[go_sem] def q14r13 : List AIns := [
 ⟨some 32,none,.no,.mv (.t 0)⟩,
 ⟨some 33,none,.no,.mv (.t 7)⟩,
 ⟨some 34,none,.no,.slice (.sl 32) (.t 32) none (some (.t 33)) none⟩,
 ⟨some 0,none,.no,.mv (.t 34)⟩]
def q14c14 : ACode := .seq (.reg q14r12) (.reg q14r13)
@[go_sem] def q14r15 : List AIns := [
 ⟨some 35,none,.no,.mv (.t 6)⟩,
 ⟨some 36,none,.no,.mv (.t 0)⟩,
 ⟨some 37,none,.no,.mv (.t 7)⟩,
 ⟨some 38,none,.no,.slice (.sl 32) (.t 36) none (some (.t 37)) none⟩,
 ⟨some 39,none,.no,.call (.v (.fn 45 [])) [(.t 38)]⟩,
 ⟨some 40,none,.no,.lit 32 [(.t 39)]⟩,
 ⟨some 41,none,.no,.app 32 (.t 35) (.t 40)⟩,
 ⟨some 6,none,.no,.mv (.t 41)⟩]
@[go_sem] def q14r16 : List AIns := [
 ⟨some 42,none,.no,.mv (.t 0)⟩,
 ⟨some 43,none,.no,.mv (.t 7)⟩,
 ⟨some 44,none,.no,.slice (.sl 32) (.t 42) (some (.t 43)) none none⟩,
 ⟨some 45,none,.no,.mv (.t 1)⟩,
 ⟨some 46,none,.no,.mv (.t 7)⟩,
 ⟨some 47,none,.no,.bin .sub .none (.t 45) (.t 46)⟩,
 ⟨some 0,none,.no,.mv (.t 44)⟩,
 ⟨some 1,none,.no,.mv (.t 47)⟩]
def q14c17 : ACode := .seq (.reg q14r15) (.reg q14r16)
def q14c18 : ACode := .cond (.t 24) q14c14 q14c17
def q14c19 : ACode := .seq (.reg q14r11) q14c18
def q14c20 : ACode := .seq (.reg q14r10) q14c19
def q14c21 : ACode := .block 1 q14c20
def q14c22 : ACode := .seq q14c9 q14c21
def q14c23 : ACode := .loop q14c22
@[go_sem] def q14r24 : List AIns := [
 ⟨some 48,none,.no,.mv (.t 6)⟩,
 ⟨some 49,none,.no,.call (.v (.fn 75 [])) [(.t 48)]⟩]
@[go_sem] def q14r25 : List AIns := [
 ⟨some 50,none,.no,.mv (.t 6)⟩,
 ⟨some 4,none,.no,.mv (.t 50)⟩,
 ⟨some 5,none,.no,.mv (.v (.int .i64 0))⟩]
def q14c26 : ACode := .seq (.reg q14r25) .ret
def q14c27 : ACode := .seq (.reg q14r24) q14c26
def q14c28 : ACode := .seq (.block 0 q14c23) q14c27
def q14c29 : ACode := .seq (.reg q14r6) q14c28
def q14c30 : ACode := .seq q14c5 q14c29
def q14c31 : ACode := .seq (.reg q14r0) q14c30
theorem q14ok : cFn TC 43 = some (51, [.t 4, .t 5], q14c31) := by kernel_rfl
@[go_sem] def q15r0 : List AIns := [
 ⟨some 4,none,.no,.mv (.v .nilsl)⟩,
 ⟨some 5,none,.no,.mv (.v (.int .i64 0))⟩]
@[go_sem] def q15r1 : List AIns := [
 ⟨some 11,none,.no,.mv (.t 1)⟩,
 ⟨some 12,none,.no,.bin .lss .none (.t 11) (.v (.int .i64 0))⟩,
 ⟨some 13,none,.no,.mv (.t 12)⟩,
 ⟨some 14, some (13, false), .no, .mv (.t 1)⟩,
 ⟨some 15, some (13, false), .no, .mv (.t 0)⟩,
 ⟨some 16, some (13, false), .no, .lenSl (.t 15)⟩,
 ⟨some 17, some (13, false), .no, .bin .geq .none (.t 14) (.t 16)⟩,
 ⟨some 18,none,.no,.pick (.t 13) (.v (.bool true)) (.t 17)⟩]
@[go_sem] def q15r2 : List AIns := [
 ⟨some 4,none,.no,.mv (.v .nilsl)⟩,
 ⟨some 5,none,.no,.mv (.v (.int .i64 2))⟩]
def q15c3 : ACode := .seq (.reg q15r2) .ret
def q15c4 : ACode := .cond (.t 18) q15c3 .skip
def q15c5 : ACode := .seq (.reg q15r1) q15c4
@[go_sem] def q15r6 : List AIns := [
 ⟨some 19,none,.no,.mv (.t 0)⟩,
 ⟨some 20,none,.no,.lenSl (.t 19)⟩,
 ⟨some 21,none,.no,.bin .eql .none (.t 20) (.v (.int .i64 1))⟩]
@[go_sem] def q15r7 : List AIns := [
 ⟨some 4,none,.no,.mv (.v .nilsl)⟩,
 ⟨some 5,none,.no,.mv (.v (.int .i64 0))⟩]
def q15c8 : ACode := .seq (.reg q15r7) .ret
def q15c9 : ACode := .cond (.t 21) q15c8 .skip
def q15c10 : ACode := .seq (.reg q15r6) q15c9
@[go_sem] def q15r11 : List AIns := [
 ⟨some 22,none,.no,.mv (.t 0)⟩,
 ⟨some 23,none,.no,.lenSl (.t 22)⟩,
 ⟨some 24,none,.no,.call (.v (.fn 55 [])) [(.t 23)]⟩,
 ⟨some 6,none,.no,.mv (.t 24)⟩]
@[go_sem] def q15r12 : List AIns := [
 ⟨some 25,none,.no,.mv (.t 1)⟩,
 ⟨some 26,none,.no,.mv (.t 6)⟩,
 ⟨some 27,none,.no,.bin .lss .none (.t 25) (.t 26)⟩]
@[go_sem] def q15r13 : List AIns := [
 ⟨some 29,none,.no,.mv (.t 0)⟩,
 ⟨some 30,none,.no,.mv (.t 6)⟩,
 ⟨some 31,none,.no,.slice (.sl 32) (.t 29) none (some (.t 30)) none⟩,
 ⟨some 32,none,.no,.mv (.t 1)⟩,
 ⟨some 33,none,.no,.call (.v (.fn 14 [])) [(.t 31), (.t 32)]⟩,
 ⟨some 28,none,.no,.mv (.t 33)⟩,
 ⟨some 34,none,.no,.ext 0 (.t 28)⟩,
 ⟨some 35,none,.no,.ext 1 (.t 28)⟩,
 ⟨some 7,none,.no,.mv (.t 34)⟩,
 ⟨some 8,none,.no,.mv (.t 35)⟩]
@[go_sem] def q15r14 : List AIns := [
 ⟨some 36,none,.no,.mv (.t 7)⟩,
 ⟨some 37,none,.no,.mv (.t 0)⟩,
 ⟨some 38,none,.no,.mv (.t 6)⟩,
 ⟨some 39,none,.no,.slice (.sl 32) (.t 37) (some (.t 38)) none none⟩,
 ⟨some 40,none,.no,.call (.v (.fn 56 [])) [(.t 39)]⟩,
 ⟨some 41,none,.no,.lit 32 [(.t 40)]⟩,
 ⟨some 42,none,.no,.app 32 (.t 36) (.t 41)⟩,
 ⟨some 4,none,.no,.mv (.t 42)⟩,
 ⟨some 5,none,.no,.mv (.v (.int .i64 0))⟩]
def q15c15 : ACode := .seq (.reg q15r14) .ret
def q15c16 : ACode := .seq (.reg q15r13) q15c15
def q15c17 : ACode := .cond (.t 27) q15c16 .skip
def q15c18 : ACode := .seq (.reg q15r12) q15c17
@[go_sem] def q15r19 : List AIns := [
 ⟨some 44,none,.no,.mv (.t 0)⟩,
 ⟨some 45,none,.no,.mv (.t 6)⟩,
 ⟨some 46,none,.no,.slice (.sl 32) (.t 44) (some (.t 45)) none none⟩,
 ⟨some 47,none,.no,.mv (.t 1)⟩,
 ⟨some 48,none,.no,.mv (.t 6)⟩,
 ⟨some 49,none,.no,.bin .sub .none (.t 47) (.t 48)⟩,
 ⟨some 50,none,.no,.call (.v (.fn 14 [])) [(.t 46), (.t 49)]⟩,
 ⟨some 43,none,.no,.mv (.t 50)⟩,
 ⟨some 51,none,.no,.ext 0 (.t 43)⟩,
 ⟨some 52,none,.no,.ext 1 (.t 43)⟩,
 ⟨some 9,none,.no,.mv (.t 51)⟩,
 ⟨some 10,none,.no,.mv (.t 52)⟩]
@[go_sem] def q15r20 : List AIns := [
 ⟨some 53,none,.no,.mv (.t 9)⟩,
 ⟨some 54,none,.no,.mv (.t 0)⟩,
 ⟨some 55,none,.no,.mv (.t 6)⟩,
 ⟨some 56,none,.no,.slice (.sl 32) (.t 54) none (some (.t 55)) none⟩,
 ⟨some 57,none,.no,.call (.v (.fn 56 [])) [(.t 56)]⟩,
 ⟨some 58,none,.no,.lit 32 [(.t 57)]⟩,
 ⟨some 59,none,.no,.app 32 (.t 53) (.t 58)⟩,
 ⟨some 4,none,.no,.mv (.t 59)⟩,
 ⟨some 5,none,.no,.mv (.v (.int .i64 0))⟩]
def q15c21 : ACode := .seq (.reg q15r20) .ret
def q15c22 : ACode := .seq (.reg q15r19) q15c21
def q15c23 : ACode := .seq q15c18 q15c22
def q15c24 : ACode := .seq (.reg q15r11) q15c23
def q15c25 : ACode := .seq q15c10 q15c24
def q15c26 : ACode := .seq q15c5 q15c25
def q15c27 : ACode := .seq (.reg q15r0) q15c26
theorem zd9 : cFn TC 14 = some (60, [.t 4, .t 5], q15c27) := by kernel_rfl
@[go_sem] def q16r0 : List AIns := [
 ⟨some 5,none,.no,.box (.t 0)⟩,
 ⟨some 9,none,.no,.box (.t 4)⟩,
 ⟨some 10,none,.no,.mv (.v (.int .i64 0))⟩]
@[go_sem] def q16r1 : List AIns := [
 ⟨some 15,none,.no,.mv (.t 2)⟩,
 ⟨some 16,none,.no,.bin .lss .none (.t 15) (.v (.int .i64 1))⟩,
 ⟨some 17,none,.no,.mv (.t 16)⟩,
 ⟨some 18, some (17, false), .no, .mv (.t 2)⟩,
 ⟨some 19, some (17, false), .no, .bin .gtr .none (.t 18) (.v (.int .i64 4096))⟩,
 ⟨some 20,none,.no,.pick (.t 17) (.v (.bool true)) (.t 19)⟩,
 ⟨some 21,none,.no,.mv (.t 20)⟩,
 ⟨some 22, some (21, false), .no, .mv (.t 1)⟩,
 ⟨some 23, some (21, false), .no, .bin .lss .none (.t 22) (.v (.int .i64 0))⟩,
 ⟨some 24,none,.no,.pick (.t 21) (.v (.bool true)) (.t 23)⟩,
 ⟨some 25,none,.no,.mv (.t 24)⟩,
 ⟨some 26, some (25, false), .no, .mv (.t 1)⟩,
 ⟨some 27, some (25, false), .no, .mv (.t 2)⟩,
 ⟨some 28, some (25, false), .no, .bin .geq .none (.t 26) (.t 27)⟩,
 ⟨some 29,none,.no,.pick (.t 25) (.v (.bool true)) (.t 28)⟩]
@[go_sem] def q16r2 : List AIns := [
 ⟨some 10,none,.no,.mv (.v (.int .i64 2))⟩]
def q16c3 : ACode := .seq (.reg q16r2) .ret
def q16c4 : ACode := .cond (.t 29) q16c3 .skip
def q16c5 : ACode := .seq (.reg q16r1) q16c4
@[go_sem] def q16r6 : List AIns := [
 ⟨some 30,none,.no,.mv (.t 2)⟩,
 ⟨some 31,none,.no,.bin .sub .none (.t 30) (.v (.int .i64 1))⟩,
 ⟨some 11,none,.no,.mv (.t 31)⟩]
@[go_sem] def q16r7 : List AIns := [
 ⟨some 12,none,.no,.mv (.v (.int .i64 0))⟩]
@[go_sem] def q16r8 : List AIns := [
 ⟨some 32,none,.no,.mv (.t 3)⟩,
 ⟨some 33,none,.no,.lenSl (.t 32)⟩,
 ⟨some 34,none,.no,.mv (.v (.int .i64 0))⟩]
@[go_sem] def q16r9 : List AIns := [
 ⟨some 35,none,.no,.bin .lss .none (.t 34) (.t 33)⟩]
@[go_sem] def q16r10 : List AIns := [
 ⟨some 36,none,.no,.iaSl 32 (.t 32) (.t 34)⟩,
 ⟨some 37,none,.no,.load true 32 (.t 36)⟩,
 ⟨some 14,none,.no,.alloc zZ0⟩,
 ⟨none,none,.no,.store 32 (.t 14) (.t 37)⟩]
@[go_sem] def q16r11 : List AIns := [
 ⟨some 38,none,.no,.mv (.t 11)⟩,
 ⟨some 39,none,.no,.bin .eql .none (.t 38) (.v (.int .i64 0))⟩]
def q16c12 : ACode := .cond (.t 39) (.exit 0) .skip
def q16c13 : ACode := .seq (.reg q16r11) q16c12
@[go_sem] def q16r14 : List AIns := [
 ⟨some 40,none,.no,.mv (.t 1)⟩,
 ⟨some 41,none,.no,.bin .rem .none (.t 40) (.v (.int .i64 2))⟩,
 ⟨some 42,none,.no,.bin .eql .none (.t 41) (.v (.int .i64 1))⟩,
 ⟨some 43,none,.no,.mv (.t 42)⟩,
 ⟨some 44, some (43, false), .no, .mv (.t 1)⟩,
 ⟨some 45, some (43, false), .no, .mv (.t 11)⟩,
 ⟨some 46, some (43, false), .no, .bin .eql .none (.t 44) (.t 45)⟩,
 ⟨some 47,none,.no,.pick (.t 43) (.v (.bool true)) (.t 46)⟩]
@[go_sem] def q16r15 : List AIns := [
 ⟨some 48,none,.no,.load true 32 (.t 14)⟩,
 ⟨some 49,none,.no,.load true 32 (.t 5)⟩,
 ⟨some 50,none,.no,.call (.v (.fn 78 [])) [(.t 48), (.t 49)]⟩,
 ⟨none,none,.no,.store 32 (.t 5) (.t 50)⟩]
@[go_sem] def q16r16 : List AIns := [
 ⟨some 51,none,.no,.mv (.t 1)⟩,
 ⟨some 52,none,.no,.bin .rem .none (.t 51) (.v (.int .i64 2))⟩,
 ⟨some 53,none,.no,.bin .eql .none (.t 52) (.v (.int .i64 0))⟩,
 ⟨some 54,none,.no,.mv (.t 53)⟩,
 ⟨some 55, some (54, true), .no, .mv (.t 1)⟩,
 ⟨some 56, some (54, true), .no, .bin .gtr .none (.t 55) (.v (.int .i64 0))⟩,
 ⟨some 57,none,.no,.pick (.t 54) (.t 56) (.v (.bool false))⟩]
def q16c17 : ACode := .cond (.t 57) .skip (.exit 2)
def q16c18 : ACode := .seq (.reg q16r16) q16c17
@[go_sem] def q16r19 : List AIns := [
 ⟨some 58,none,.no,.mv (.t 1)⟩,
 ⟨some 59,none,.no,.bin .quo .none (.t 58) (.v (.int .i64 2))⟩,
 ⟨some 60,none,.no,.mv (.t 11)⟩,
 ⟨some 61,none,.no,.bin .quo .none (.t 60) (.v (.int .i64 2))⟩,
 ⟨some 1,none,.no,.mv (.t 59)⟩,
 ⟨some 11,none,.no,.mv (.t 61)⟩]
def q16c20 : ACode := .block 3 (.reg q16r19)
def q16c21 : ACode := .seq q16c18 q16c20
def q16c22 : ACode := .loop q16c21
def q16c23 : ACode := .block 2 q16c22
def q16c24 : ACode := .seq (.reg q16r15) q16c23
@[go_sem] def q16r25 : List AIns := [
 ⟨some 62,none,.no,.load true 32 (.t 5)⟩,
 ⟨some 63,none,.no,.load true 32 (.t 14)⟩,
 ⟨some 64,none,.no,.call (.v (.fn 78 [])) [(.t 62), (.t 63)]⟩,
 ⟨none,none,.no,.store 32 (.t 5) (.t 64)⟩]
def q16c26 : ACode := .cond (.t 47) q16c24 (.reg q16r25)
def q16c27 : ACode := .seq (.reg q16r14) q16c26
@[go_sem] def q16r28 : List AIns := [
 ⟨some 65,none,.no,.mv (.t 1)⟩,
 ⟨some 66,none,.no,.bin .quo .none (.t 65) (.v (.int .i64 2))⟩,
 ⟨some 67,none,.no,.mv (.t 11)⟩,
 ⟨some 68,none,.no,.bin .quo .none (.t 67) (.v (.int .i64 2))⟩,
 ⟨some 1,none,.no,.mv (.t 66)⟩,
 ⟨some 11,none,.no,.mv (.t 68)⟩]
@[go_sem] def q16r29 : List AIns := [
 ⟨some 69,none,.no,.mv (.t 12)⟩,
 ⟨some 70,none,.no,.bin .add .none (.t 69) (.v (.int .i64 1))⟩,
 ⟨some 12,none,.no,.mv (.t 70)⟩]
def q16c30 : ACode := .seq (.reg q16r28) (.reg q16r29)
def q16c31 : ACode := .seq q16c27 q16c30
def q16c32 : ACode := .seq q16c13 q16c31
def q16c33 : ACode := .seq (.reg q16r10) q16c32
@[go_sem] def q16r34 : List AIns := [
 ⟨some 71,none,.no,.bin .add .none (.t 34) (.v (.int .i64 1))⟩,
 ⟨some 34,none,.no,.mv (.t 71)⟩]
def q16c35 : ACode := .seq (.block 1 q16c33) (.reg q16r34)
def q16c36 : ACode := .seq (.cond (.t 35) .skip (.exit 0)) q16c35
def q16c37 : ACode := .seq (.reg q16r9) q16c36
def q16c38 : ACode := .loop q16c37
def q16c39 : ACode := .block 0 q16c38
def q16c40 : ACode := .seq (.reg q16r8) q16c39
@[go_sem] def q16r41 : List AIns := [
 ⟨some 72,none,.no,.mv (.t 11)⟩,
 ⟨some 73,none,.no,.bin .neq .none (.t 72) (.v (.int .i64 0))⟩,
 ⟨some 74,none,.no,.mv (.t 73)⟩,
 ⟨some 75, some (74, false), .no, .mv (.t 12)⟩,
 ⟨some 76, some (74, false), .no, .mv (.t 3)⟩,
 ⟨some 77, some (74, false), .no, .lenSl (.t 76)⟩,
 ⟨some 78, some (74, false), .no, .bin .neq .none (.t 75) (.t 77)⟩,
 ⟨some 79,none,.no,.pick (.t 74) (.v (.bool true)) (.t 78)⟩,
 ⟨some 80,none,.no,.mv (.t 79)⟩,
 ⟨some 81, some (80, false), .no, .load true 32 (.t 5)⟩,
 ⟨some 82, some (80, false), .no, .load true 32 (.t 9)⟩,
 ⟨some 83, some (80, false), .no, .bin .neq (.agg (List.replicate 32 (.i .u8) ++ [])) (.t 81) (.t 82)⟩,
 ⟨some 84,none,.no,.pick (.t 80) (.v (.bool true)) (.t 83)⟩]
@[go_sem] def q16r42 : List AIns := [
 ⟨some 10,none,.no,.mv (.v (.int .i64 80))⟩]
def q16c43 : ACode := .seq (.reg q16r42) .ret
def q16c44 : ACode := .cond (.t 84) q16c43 .skip
def q16c45 : ACode := .seq (.reg q16r41) q16c44
@[go_sem] def q16r46 : List AIns := [
 ⟨some 10,none,.no,.mv (.v (.int .i64 0))⟩]
def q16c47 : ACode := .seq (.reg q16r46) .ret
def q16c48 : ACode := .seq q16c45 q16c47
def q16c49 : ACode := .seq q16c40 q16c48
def q16c50 : ACode := .seq .skip q16c49
def q16c51 : ACode := .seq (.reg q16r7) q16c50
def q16c52 : ACode := .seq (.reg q16r6) q16c51
def q16c53 : ACode := .seq q16c5 q16c52
def q16c54 : ACode := .scope q16c53
def q16c55 : ACode := .seq (.reg q16r0) q16c54
theorem q16ok : cFn TC 57 = some (85, [.t 10], q16c55) := by kernel_rfl
@[go_sem] def q17r0 : List AIns := [
 ⟨some 4,none,.no,.mv (.t 0)⟩,
 ⟨some 5,none,.no,.lenSl (.t 4)⟩,
 ⟨some 6,none,.no,.bin .sub .none (.t 5) (.v (.int .i64 1))⟩,
 ⟨some 2,none,.no,.mv (.v (.int .i64 0))⟩,
 ⟨some 3,none,.no,.mv (.t 6)⟩]
@[go_sem] def q17r1 : List AIns := [
 ⟨some 7,none,.no,.mv (.t 2)⟩,
 ⟨some 8,none,.no,.mv (.t 3)⟩,
 ⟨some 9,none,.no,.bin .lss .none (.t 7) (.t 8)⟩]
def q17c2 : ACode := .cond (.t 9) .skip (.exit 0)
def q17c3 : ACode := .seq (.reg q17r1) q17c2
@[go_sem] def q17r4 : List AIns := [
 ⟨some 14,none,.no,.mv (.t 0)⟩,
 ⟨some 15,none,.no,.mv (.t 2)⟩,
 ⟨some 16,none,.no,.mv (.t 0)⟩,
 ⟨some 17,none,.no,.mv (.t 3)⟩,
 ⟨some 18,none,.no,.mv (.t 0)⟩,
 ⟨some 19,none,.no,.mv (.t 3)⟩,
 ⟨some 20,none,.no,.iaSl 32 (.t 18) (.t 19)⟩,
 ⟨some 21, none, .rd, .load true 32 (.t 20)⟩,
 ⟨some 22,none,.no,.mv (.t 0)⟩,
 ⟨some 23,none,.no,.mv (.t 2)⟩,
 ⟨some 24,none,.no,.iaSl 32 (.t 22) (.t 23)⟩,
 ⟨some 25, none, .rd, .load true 32 (.t 24)⟩,
 ⟨some 26,none,.no,.iaSl 32 (.t 14) (.t 15)⟩,
 ⟨none,none,.no,.store 32 (.t 26) (.t 21)⟩,
 ⟨some 27,none,.no,.iaSl 32 (.t 16) (.t 17)⟩,
 ⟨none,none,.no,.store 32 (.t 27) (.t 25)⟩]
@[go_sem] def q17r5 : List AIns := [
 ⟨some 10,none,.no,.mv (.t 2)⟩,
 ⟨some 11,none,.no,.bin .add .none (.t 10) (.v (.int .i64 1))⟩,
 ⟨some 12,none,.no,.mv (.t 3)⟩,
 ⟨some 13,none,.no,.bin .sub .none (.t 12) (.v (.int .i64 1))⟩,
 ⟨some 2,none,.no,.mv (.t 11)⟩,
 ⟨some 3,none,.no,.mv (.t 13)⟩]
def q17c6 : ACode := .seq (.block 1 (.reg q17r4)) (.reg q17r5)
def q17c7 : ACode := .seq q17c3 q17c6
def q17c8 : ACode := .loop q17c7
def q17c9 : ACode := .block 0 q17c8
def q17c10 : ACode := .seq (.reg q17r0) q17c9
theorem q17ok : cFn TC 75 = some (28, [], q17c10) := by kernel_rfl
end
end Am
end Go.Proofs.YtjgljhbmljgaeaaGreatDoor
