import Derived.Test.YtjgljhbmljgaeaaDoorK5cd29e300
set_option linter.unusedSimpArgs false
set_option linter.unusedVariables false
open Nat (reduceEqDiff reduceAdd reduceMul reduceSub reduceLeDiff)
open Int (reduceToNat reducePow)
section
/- Publishers: what they sign; Publish. -/
namespace Go.Proofs.YtjgljhbmljgaeaaDoor
namespace Am
/-- What a publisher of a seed signs with a key of a log. -/
def mkH (seed : List UInt8) (i : Nat) (M : List (List UInt8)) : Hdr := ⟨M.length, z15 (lvs M), i, ksgS seed i (digH M.length (z15 (lvs M))).1, z1m (keyL seed) i⟩
theorem zce (seed : List UInt8) (i : Nat) : (z1m (keyL seed) i).length = 3 := by unfold z1m; rw [List.length_reverse, zgo _ i (z2e seed)]
theorem zmn (seed : List UInt8) (i : Nat) (M : List (List UInt8)) (hi : i < 8) (hM : M.length <= 4096) : z9y (z15 (keyL seed)) (mkH seed i M).n (mkH seed i M).i (mkH seed i M).r (mkH seed i M).s (mkH seed i M).p = 0 := by
  have hv : z8x (mkH seed i M).n (mkH seed i M).i (mkH seed i M).s (mkH seed i M).p = true := decide_eq_true ⟨by simp only [mkH]; omega, by simp only [mkH]; omega, by simp only [mkH]; omega, by simp only [mkH]; omega, zfs _ _ _, zce _ _⟩
  unfold z9y
  rw [hv, if_neg (by simp)]
  exact if_pos (zs0 seed i hi _)
def pubN (H : List Hdr) : Int := ((H[H.length - 1]?).map Hdr.n).getD 0
structure PubOk (seed : List UInt8) (L : List (List UInt8)) (H : List Hdr) : Prop where
  len : H.length <= 8
  at' : ∀ i h, H[i]? = some h -> ∃ n, h = mkH seed i (L.take n) /\ 0 < n /\ n <= L.length
  up : ∀ i h h', H[i]? = some h -> H[i + 1]? = some h' -> h.n < h'.n
theorem PubOk.nil (seed : List UInt8) : PubOk seed [] [] := ⟨by simp, by simp, by simp⟩
theorem PubOk.app {seed : List UInt8} {L : List (List UInt8)} {H : List Hdr} (h : PubOk seed L H) (M : List (List UInt8)) : PubOk seed (L ++ M) H := by
  refine ⟨h.len, fun i x hx => ?_, h.up⟩
  obtain ⟨n, e, h0, hn⟩ := h.at' i x hx
  exact ⟨n, by rw [List.take_append_of_le_length hn]; exact e, h0, by rw [List.length_append]; omega⟩
theorem PubOk.path {seed : List UInt8} {L : List (List UInt8)} {H : List Hdr} (h : PubOk seed L H) : ∀ x ∈ H, x.p.length < 1000000 := by
  intro x hx
  obtain ⟨i, hi⟩ := List.mem_iff_getElem?.1 hx
  obtain ⟨n, rfl, _, _⟩ := h.at' i x hi
  show (z1m (keyL seed) i).length < 1000000
  rw [zce]; omega
/-- What Publish answers. -/
def puE (L : List (List UInt8)) (H : List Hdr) : Int := if 8 <= H.length then 85 else if (L.length : Int) = pubN H then 83 else 0
def puV (seed : List UInt8) (L : List (List UInt8)) (H : List Hdr) : AV := .tup [.agg (if puE L H = 0 then hdrC (mkH seed H.length L) else sgZ), .int .i64 (puE L H)]
def puH (seed : List UInt8) (L : List (List UInt8)) (H : List Hdr) : List Hdr := if puE L H = 0 then H ++ [mkH seed H.length L] else H
def PublishP (Y : Store) (r : Nat) (seed : List UInt8) (L : List (List UInt8)) (H : List Hdr) (own : List Nat) (a : AV) (Y' : Store) : Prop :=
  a = puV seed L H /\ ∃ own', Fr Y Y' own own' /\ PubIs Y' r seed L (puH seed L H) own'
theorem zlh (A B : List Hdr) : hdrs (A ++ B) = hdrs A ++ hdrs B := by simp [hdrs]
theorem PublishP.ok {Y Y' : Store} {r t q : Nat} {seed : List UInt8} {L : List (List UInt8)} {H : List Hdr} {lg lv z hs : AV} {sl sv sh : Option Nat} (he : puE L H = 0)
    (hg0 : Y[r]? = some (some [pbC (.ptr t 0 0) lg lv L.length z hs])) (ht0 : Y[t]? = some (some [z1b true seed (keyL seed)])) (h1 : RowAt 1 Y sl lg (strs L)) (h2 : RowAt 32 Y sv lv (hr (lvs L))) (h3 : RowAt 36 Y sh hs (hdrs H))
    (hg : Y'[r]? = some (some [pbC (.ptr t 0 0) lg lv L.length z (.sl q 0 (H.length + 1) none 36)])) (hz : SlV 32 (hr (ofR (lvs L)).reverse) z)
    (hq : Y'[q]? = some (some (hdrs (H ++ [mkH seed H.length L])))) (hqn : Y.length <= q) (hle : Y.length <= Y'.length) (hst : ∀ j, j < Y.length -> j ≠ r -> sh ≠ some j -> Y'[j]? = Y[j]?) :
    PublishP Y r seed L H (r :: t :: (Option.toList sl ++ (Option.toList sv ++ Option.toList sh))) (.tup [.agg (hdrC (mkH seed H.length L)), .int .i64 0]) Y' := by
  refine ⟨by unfold puV; rw [he, if_pos rfl], r :: t :: (Option.toList sl ++ (Option.toList sv ++ Option.toList (some q))), ⟨fun j hj hn => ?_, fun j hj => ?_, hle⟩, ?_⟩
  · simp only [List.mem_cons, List.mem_append, Option.mem_toList, not_or] at hn
    exact hst j hj hn.1 (fun e => hn.2.2.2.2 e)
  · simp only [List.mem_cons, List.mem_append, Option.mem_toList, Option.some.injEq] at hj ⊢
    rcases hj with h | h | h | h | h
    · exact .inl (.inl h)
    · exact .inl (.inr (.inl h))
    · exact .inl (.inr (.inr (.inl h)))
    · exact .inl (.inr (.inr (.inr (.inl h))))
    · exact .inr (by omega)
  · unfold puH
    rw [if_pos he]
    have hne : H ++ [mkH seed H.length L] ≠ [] := by simp
    have hpl : (pbC (.ptr t 0 0) lg lv L.length z hs).length = 6 := rfl
    have htl : (z1b true seed (keyL seed)).length = 258 := by rw [z6b, z2e]
    have hrt : t ≠ r := z3i ht0 hg0 (a := z1b true seed (keyL seed)) (b := pbC (.ptr t 0 0) lg lv L.length z hs) rfl rfl (by omega)
    refine ⟨t, lg, lv, z, _, sl, sv, some q, rfl, hg, by rw [hst t (slen ht0) hrt fun e => h3.ne z62 ht0 (b := z1b true seed (keyL seed)) rfl (by omega) t e rfl]; exact ht0, h1.keep fun j e => hst j (h1.lt e) ?_ ?_, h2.keep fun j e => hst j (h2.lt e) ?_ ?_, hz, .inr ⟨q, rfl, zbq hne, ?_, hq⟩⟩
    · exact h1.ne zdj hg0 (b := pbC (.ptr t 0 0) lg lv L.length z hs) rfl (by omega) j e
    · exact h1.ne2 zdj h3 z62 (by omega) j e
    · exact h2.ne hr_w hg0 (b := pbC (.ptr t 0 0) lg lv L.length z hs) rfl (by omega) j e
    · exact h2.ne2 hr_w h3 z62 (by omega) j e
    · rw [z1j, List.length_append]; rfl
theorem PublishP.no {Y : Store} {r : Nat} {seed : List UInt8} {L : List (List UInt8)} {H : List Hdr} {own : List Nat} {e : Int} (hT : PubIs Y r seed L H own) (he : puE L H = e) (h0 : e ≠ 0) : PublishP Y r seed L H own (.tup [.agg sgZ, .int .i64 e]) Y := by
  subst he
  exact ⟨by unfold puV; rw [if_neg h0], own, .ext (.refl _), by unfold puH; rw [if_neg h0]; exact hT⟩
theorem PublishP.is {Y : Store} {r : Nat} {seed : List UInt8} {L : List (List UInt8)} {H : List Hdr} {own : List Nat} (hT : PubIs Y r seed L H own) : ∃ a Y', PublishP Y r seed L H own a Y' := by
  by_cases he : puE L H = 0
  · obtain ⟨t, lg, lv, z, hs, sl, sv, sh, rfl, hg, ht, h1, h2, hz, h3⟩ := hT
    have d := slen hg
    refine ⟨_, (Y.set r (some [pbC (.ptr t 0 0) lg lv L.length z (.sl Y.length 0 (H.length + 1) none 36)])) ++ [some (hdrs (H ++ [mkH seed H.length L]))], .ok (q := Y.length) he hg ht h1 h2 h3 ?_ hz ?_ (Nat.le_refl _) (by simp) fun j hj hjr _ => ?_⟩
    · rw [gapp (by simpa using d), z2o d]
    · rw [z1i (by simp)]; simp
    · rw [gapp (by simpa using hj), z1e (fun e => hjr e.symm)]
  · exact ⟨_, Y, .no hT rfl he⟩
@[go_sem] theorem sgC_set33 (n : Int) (r : Hash) (i j : Int) (s u : List UInt8) (x v : AV) : (sgC n r i s x).take 33 ++ .int .i64 j :: .str u :: v :: (sgC n r i s x).drop 36 = sgC n r j u v := by
  rw [zqj, zd6]; rfl
theorem zhi (n : Int) (r : Hash) (i : Int) (s : List UInt8) (x : AV) : AV.int .i64 n :: (hc r ++ [AV.int .i64 i, .str s, x]) = sgC n r i s x := rfl
attribute [local irreducible] ACallsTo ACallsP
set_option maxHeartbeats 16000000 in
theorem zci (Y : Store) (r : Nat) (seed : List UInt8) (L : List (List UInt8)) (H : List Hdr) (own : List Nat) (hT : PubIs Y r seed L H own) (hok : PubOk seed L H) (hL : L.length <= 4096) (hs : seed.length < 1000000) :
    ACallsP TC 13 [.ptr r 0 0] Y (PublishP Y r seed L H own) := by
  have hT' := hT
  obtain ⟨t, lg, lv, z, hs', sl, sv, sh, rfl, hg, ht, h1, h2, hz, h3⟩ := hT'
  have hp := hok.path
  have hlen := hok.len
  have r1 := h1.rd.len
  rw [z1d] at r1
  by_cases h8 : H.length = 8
  · rcases h3 with ⟨_, h0, rfl⟩ | ⟨q, rfl, hn, rfl, hgq⟩
    · have := congrArg List.length h0
      rw [z1j] at this; simp at this; rw [this] at h8; simp at h8
    · rw [z1j] at hg
      exact (zpg Y r t q lg lv z L.length H hg hgq h8 hp).toP (.no hT (by unfold puE; rw [if_pos (by omega)]) (by omega))
  by_cases hold : (L.length : Int) = pubN H
  · have he : puE L H = 83 := by unfold puE; rw [if_neg (by omega), if_pos hold]
    rcases h3 with ⟨_, h0, rfl⟩ | ⟨q, rfl, hn, rfl, hgq⟩
    · have hH : H = [] := by have := congrArg List.length h0; rw [z1j] at this; exact List.eq_nil_of_length_eq_zero this
      subst hH
      have hL0 : L = [] := List.eq_nil_of_length_eq_zero (by simp [pubN] at hold; rw [hold]; rfl)
      subst hL0
      rcases h1 with ⟨_, _, rfl⟩ | ⟨_, _, hn, _⟩
      · exact (zph Y r t lv z _ hg).toP (.no hT he (by omega))
      · exact absurd rfl hn
    · have hn0 : H ≠ [] := fun e => hn (by rw [e]; rfl)
      rw [z1j] at hg
      refine (zpi Y r t q lg lv z L.length H L.length hg hgq hn0 (by omega) hp r1 fun x hx => ?_).toP (.no hT he (by omega))
      rw [hold]; unfold pubN; rw [hx]; rfl
  have he : puE L H = 0 := by unfold puE; rw [if_neg (by omega), if_neg hold]
  have d := slen hg
  have d2 := slen ht
  have hg0 := hg
  have hN := fun y => z50 (Y ++ y) r t lg lv z hs' L.length (by rw [gapp d]; exact hg)
  have c3 := h3.cells
  have zc := z8q hz
  have hRt := fun Y' => Root_h Y' (L.length : Int) (ofR (lvs L)).reverse z (.of hz) (by rw [List.length_reverse, za2 _ (by rw [z1c]; omega)]; have := zcf 13 (lvs L).length; omega) (by omega)
  have hval : z3l (L.length : Int) (ofR (lvs L)).reverse.length = true := decide_eq_true ⟨by omega, by omega, by rw [Int.toNat_natCast, pc13 (by omega), List.length_reverse, za2 _ (by rw [z1c]; omega), z1c]⟩
  unfold z66 at hRt
  rw [if_neg (by rw [hval]; simp), List.reverse_reverse, zge ((lvs L).length + 1) (lvs L) (by omega)] at hRt
  have hD := fun Y => zdu Y (L.length : Int) (z15 (lvs L))
  have hS := fun y => zrp (Y ++ y) t seed (keyL seed) H.length (digH L.length (z15 (lvs L))) (by rw [gapp d2]; exact ht) (z2e seed) (by omega) hs
  have hC := fun Y => zf0 Y L.length (z15 (lvs L)) H.length (ksgS seed H.length (digH L.length (z15 (lvs L))).1) (z1m (keyL seed) H.length) _ (.of (z73 _ _)) (by rw [zce]; omega)
  have hmk : sgC L.length (z15 (lvs L)) H.length (ksgS seed H.length (digH L.length (z15 (lvs L))).1) (zz 32 (hr (z1m (keyL seed) H.length))) = hdrC (mkH seed H.length L) := rfl
  have h3' := h3
  have hHn := fun y => z8d (Y ++ y) r t H hs' lg lv z L.length (by rw [gapp d]; exact hg)
  unfold zd4 at hS
  unfold z1l at r1
  unfold cellsOf at c3 zc
  refine ACallsP.of_keepW z8g (by simp) fun hw => ?_
  rcases h3 with ⟨rfl, h0, rfl⟩ | ⟨q, rfl, hn, rfl, hgq⟩
  · have hH : H = [] := by have := congrArg List.length h0; rw [z1j] at this; exact List.eq_nil_of_length_eq_zero this
    subst hH
    have hL0 : ¬ (L.length : Int) = 0 := by simpa [pubN] using hold
    have hH := fun y => hHn y (.inl ⟨rfl, rfl⟩) (by simp) hp
    rw [show zz 36 (hdrs []) = .nilsl from rfl] at hH
    unfold pbC at hg
    repeat' (first|refine zW.zs ?_|refine zW.zb ?_|refine zW.zc ?_|refine zW.zt rfl ?_|refine zW.zf rfl ?_|(refine zW.zd rfl (fun ht => ?_) (fun ht => ?_)<;>try (exfalso;omega))|((first|refine zW.zr ?_|refine zW.zk ?_|refine zW.ze ?_|refine zW.zq ?_|(apply callW.mk_pu; (first | exact (fun _ => hN _) | exact (fun _ => hH _) | exact (fun _ => hRt _) | exact (fun _ => hD _) | exact (fun _ => hS _) | exact (fun _ => hC _))) | (apply callW.za; (first | exact (hN _) | exact (hH _) | exact (hRt _) | exact (hD _) | exact (hS _) | exact (hC _))) | ((first|apply zg0|apply zg1|apply zg2|apply zg3|apply zg4|apply zg5|apply zg6|apply zg7)<;>intro ht));all_goals try simp (disch:=first|omega|(simp only [lens,z7,z6,List.length_reverse,List.length_map,List.length_take,List.length_drop,zw,z1d,z1c,z1j,z1y];first|done|omega)) only [go_sem,reduceEqDiff,Nat.reduceBEq,reduceAdd,reduceMul,reduceSub,reduceLeDiff,reduceToNat,reducePow, hg, r1, hL0, zc, c3, zhi, zd6]))
    refine PublishP.ok (q := Y.length + 3) he hg0 ht h1 h2 h3' ?_ hz ?_ (by omega) (by simp) fun j hj hjr hjs => ?_
    · rw [gapp (by simpa using d), z2o d]; rfl
    · rw [z1i (by simp)]
      simp only [List.length_set, Nat.add_sub_cancel_left]; rfl
    · rw [gapp (by simpa using hj), z1e (fun e => hjr e.symm)]
  · have h0 : H ≠ [] := fun e => hn (by rw [e]; rfl)
    have dq := slen hgq
    have hl0 : H.length ≠ 0 := fun e => h0 (List.eq_nil_of_length_eq_zero e)
    have hne : hdrs H ≠ [] := zbq h0
    have hdl := z1j H
    have hgi := zbp (H := H) (i := H.length - 1) (by omega)
    have hk' : pubN H = (H[H.length - 1]'(by omega)).n := by
      unfold pubN
      rw [List.getElem?_eq_getElem (by omega)]; rfl
    rw [hk'] at hold
    generalize H[H.length - 1]'(by omega) = h at *
    have hc0 : (hdrC h)[0]? = some (.int .i64 h.n) := rfl
    have hcl := z1y h
    have hH := fun y => hHn y (.inr ⟨q, h0, by rw [hdl], by rw [gapp dq]; exact hgq⟩) (by omega) hp
    rw [show zz 36 (hdrs H) = .vsl 36 (hdrs H) false by unfold zz; rw [if_neg hne]] at hH
    have e1 : ((H.length : Int) - 1).toNat = H.length - 1 := by omega
    have e8 : ¬ (H.length : Int) >= 8 := by omega
    have e0 : (H.length : Int) > 0 := by omega
    have hqr : q ≠ r := h3'.ne z62 hg0 (b := pbC (.ptr t 0 0) lg lv L.length z _) rfl (by simp [pbC]) q rfl
    have hqt : q ≠ t := h3'.ne z62 ht (b := z1b true seed (keyL seed)) rfl (by rw [z6b, z2e]; omega) q rfl
    have hqr' := hqr.symm
    unfold pbC at hg
    rw [hdl] at hg
    repeat' (first|refine zW.zs ?_|refine zW.zb ?_|refine zW.zc ?_|refine zW.zt rfl ?_|refine zW.zf rfl ?_|(refine zW.zd rfl (fun ht => ?_) (fun ht => ?_)<;>try (exfalso;omega))|((first|refine zW.zr ?_|refine zW.zk ?_|refine zW.ze ?_|refine zW.zq ?_|(apply callW.mk_pu; (first | exact (fun _ => hN _) | exact (fun _ => hH _) | exact (fun _ => hRt _) | exact (fun _ => hD _) | exact (fun _ => hS _) | exact (fun _ => hC _))) | (apply callW.za; (first | exact (hN _) | exact (hH _) | exact (hRt _) | exact (hD _) | exact (hS _) | exact (hC _))) | ((first|apply zg0|apply zg1|apply zg2|apply zg3|apply zg4|apply zg5|apply zg6|apply zg7)<;>intro ht));all_goals try simp (disch:=first|omega|(simp only [lens,z7,z6,List.length_reverse,List.length_map,List.length_take,List.length_drop,zw,z1d,z1c,z1j,z1y];first|done|omega)) only [go_sem,reduceEqDiff,Nat.reduceBEq,reduceAdd,reduceMul,reduceSub,reduceLeDiff,reduceToNat,reducePow, hg, hgq, hdl, hgi, hc0, hcl, e1, e8, e0, r1, hold, zc, c3, hqr, hqr', zhi, zd6]))
    refine PublishP.ok (q := Y.length + 3) he hg0 ht h1 h2 h3' ?_ hz ?_ (by omega) (by simp) fun j hj hjr hjs => ?_
    · rw [gapp (by simpa using d), z2o (by simpa using d)]; rfl
    · rw [z1i (by simp), zlh]
      simp only [List.length_set, Nat.add_sub_cancel_left]; rfl
    · rw [gapp (by simpa using hj), z1e (fun e => hjr e.symm), z1e (fun e => hjs (by rw [e]))]
end Am
end Go.Proofs.YtjgljhbmljgaeaaDoor
end
section
/- Publishers: contracts: New, Key, Log, Heads, Source of one in memory. -/
namespace Go.Proofs.YtjgljhbmljgaeaaDoor
namespace Am
attribute [local irreducible] ACallsTo ACallsP
theorem zpe (Y : Store) (seed : List UInt8) : PubIs (Y ++ [some [z1b true seed (keyL seed)], some [pbC (.ptr Y.length 0 0) .nilsl .nilsl 0 .nilsl .nilsl]]) (Y.length + 1) seed [] [] [Y.length + 1, Y.length] := by
  refine ⟨Y.length, .nilsl, .nilsl, .nilsl, .nilsl, none, none, none, rfl, ?_, ?_, .inl ⟨rfl, rfl, rfl⟩, .inl ⟨rfl, rfl, rfl⟩, .inl ⟨rfl, rfl⟩, .inl ⟨rfl, rfl, rfl⟩⟩
  · rw [z1i (by omega), Nat.add_sub_cancel_left]; rfl
  · rw [z1i (by omega), Nat.sub_self]; rfl
theorem PubIs.key {Y : Store} {r : Nat} {seed : List UInt8} {L : List (List UInt8)} {H : List Hdr} {own : List Nat} (h : PubIs Y r seed L H own) : ACallsTo TC 15 [.ptr r 0 0] Y (.agg (hc (z15 (keyL seed)))) Y := by
  obtain ⟨t, lg, lv, z, hs, sl, sv, sh, rfl, hg, ht, h1, h2, hz, h3⟩ := h
  exact zpb Y r t seed (keyL seed) lg lv z hs L.length hg ht (z2e seed)
theorem PubIs.log {Y : Store} {r : Nat} {seed : List UInt8} {L : List (List UInt8)} {H : List Hdr} {own : List Nat} (h : PubIs Y r seed L H own) (hL : L.length < 1000000) : ACallsTo TC 17 [.ptr r 0 0] Y (zz 1 (strs L)) Y := by
  obtain ⟨t, lg, lv, z, hs, sl, sv, sh, rfl, hg, ht, h1, h2, hz, h3⟩ := h
  refine zpd Y r t L lg lv z hs L.length hg ?_ hL
  rcases h1 with ⟨_, e, rfl⟩ | ⟨q, _, hn, rfl, hq⟩
  · refine .inl ⟨?_, rfl⟩
    have := congrArg List.length e
    rw [z1d] at this
    exact List.eq_nil_of_length_eq_zero this
  · exact .inr ⟨q, fun e => hn (by rw [e]; rfl), by rw [z1d], hq⟩
theorem PubIs.heads {Y : Store} {r : Nat} {seed : List UInt8} {L : List (List UInt8)} {H : List Hdr} {own : List Nat} (h : PubIs Y r seed L H own) (hok : PubOk seed L H) : ACallsTo TC 18 [.ptr r 0 0] Y (zz 36 (hdrs H)) Y := by
  obtain ⟨t, lg, lv, z, hs, sl, sv, sh, rfl, hg, ht, h1, h2, hz, h3⟩ := h
  refine z8d Y r t H hs lg lv z L.length hg ?_ (by have := hok.len; omega) hok.path
  rcases h3 with ⟨_, e, rfl⟩ | ⟨q, _, hn, rfl, hq⟩
  · refine .inl ⟨?_, rfl⟩
    have := congrArg List.length e
    rw [z1j] at this
    exact List.eq_nil_of_length_eq_zero this
  · exact .inr ⟨q, fun e => hn (by rw [e]; rfl), by rw [z1j], hq⟩
/-- What is served. -/
def srcV (L : List (List UInt8)) (h : Hdr) (n : Nat) : AV := .agg [.vsl 1 (strs (L.take n)) false, .vsl 32 (hr (lvs (L.take n))) false, .vsl 36 [hdrC h] true, .nilsl]
set_option maxHeartbeats 8000000 in
theorem PubIs.source {Y : Store} {r : Nat} {seed : List UInt8} {L : List (List UInt8)} {H : List Hdr} {own : List Nat} (h : PubIs Y r seed L H own) (hok : PubOk seed L H) (hL : L.length < 1000000) (x : Hdr) (n : Nat) (hx : H[H.length - 1]? = some x) (hn : x.n = n) (hn0 : 0 < n) (hn1 : n <= L.length) :
    ACallsTo TC 14 [.ptr r 0 0] Y (srcV L x n) Y := by
  have hH := fun y => (h.ext (Y' := Y ++ y) ⟨y, rfl⟩).heads hok
  have hLg := fun y => (h.ext (Y' := Y ++ y) ⟨y, rfl⟩).log hL
  obtain ⟨t, lg, lv, z, hs, sl, sv, sh, rfl, hg, ht, h1, h2, hz, h3⟩ := h
  have d := slen hg
  have hl8 := hok.len
  have hHl : ¬ H.length = 0 := fun e => by rw [List.eq_nil_of_length_eq_zero e] at hx; simp at hx
  have hne : hdrs H ≠ [] := zbq fun e => hHl (by rw [e]; rfl)
  have hLne : L ≠ [] := fun e => by rw [e] at hn1; simp at hn1; omega
  have hdl := z1j H
  have hgi : (hdrs H)[H.length - 1]? = some (hdrC x) := by unfold hdrs; rw [List.getElem?_map, hx]; rfl
  have e1 : ((H.length : Int) - 1).toNat = H.length - 1 := by omega
  have e8 : ¬ (H.length : Int) = 0 := by omega
  have hc0 : (hdrC x)[0]? = some (.int .i64 n) := by rw [<- hn]; rfl
  have hcl := z1y x
  rw [show zz 36 (hdrs H) = .vsl 36 (hdrs H) false by unfold zz; rw [if_neg hne]] at hH
  rw [show zz 1 (strs L) = .vsl 1 (strs L) false by unfold zz; rw [if_neg (zdi hLne)]] at hLg
  rcases h2 with ⟨_, e, _⟩ | ⟨q, _, hnv, rfl, hq⟩
  · exact absurd e (zbx hLne)
  have dq := slen hq
  have l2 : (hr (lvs L)).length = L.length := by rw [z6, z1c]
  have tk : (hr (lvs L)).take n = hr (lvs (L.take n)) := by simp [hr, lvs, List.map_take]
  rw [l2] at hg
  have hn0' : ¬ n = 0 := by omega
  unfold pbC at hg
  refine ACallsTo.of_body q1eok (by simp) fun hw _ => ?_
  repeat' (first|refine zW.zs ?_|refine zW.zb ?_|refine zW.zc ?_|refine zW.zt rfl ?_|refine zW.zf rfl ?_|(refine zW.zd rfl (fun ht => ?_) (fun ht => ?_)<;>try (exfalso;omega))|((first|refine zW.zr ?_|refine zW.zk ?_|refine zW.ze ?_|refine zW.zq ?_|(apply callW.mk_pu; (first | exact (fun _ => hH _) | exact (fun _ => hLg _))) | (apply callW.za; (first | exact (hH _) | exact (hLg _))) | ((first|apply zg0|apply zg1|apply zg2|apply zg3|apply zg4|apply zg5|apply zg6|apply zg7)<;>intro ht));all_goals try simp (disch:=first|omega|(simp only [lens,z7,z6,List.length_reverse,List.length_map,List.length_take,List.length_drop,zw,z1d,z1c,z1j,z1y];first|done|omega)) only [go_sem,reduceEqDiff,Nat.reduceBEq,reduceAdd,reduceMul,reduceSub,reduceLeDiff,reduceToNat,reducePow, hg, hq, hdl, hgi, hc0, hcl, e1, e8, l2, tk, hn0', Int.toNat_natCast, zre]))
  have htl : lvs (L.take n) = (lvs L).take n := by simp [lvs, List.map_take]
  unfold srcV
  rw [htl]
  simp only [Nat.sub_zero, Bool.false_and]
  refine DownV.all hw (drA (drsc (FrzD.same (by simp only [RL]; exact zct _)) (drsc ?_ (drsc (FrzD.same (by simp only [RL, RLss]; exact ⟨zh3 x, trivial⟩)) (drs1 (FrzD.same (by simp [RL])))))))
  rw [<- z6]
  exact FrzD.sl (o := hr ((lvs L).take n)) (off := 0) (by omega) (by rw [z1i (by omega), Nat.add_sub_cancel_left]; rfl) (by omega) (by simp) (z2q _)
end Am
end Go.Proofs.YtjgljhbmljgaeaaDoor
end
section
/- Publishers: the chapter's publisher. -/
namespace Go.Proofs.YtjgljhbmljgaeaaDoor
namespace Am
theorem puV_0 (seed : List UInt8) : puV seed [] [] = .tup [.agg sgZ, .int .i64 83] /\ puH seed [] [] = [] := by
  have e : puE [] [] = 83 := by simp [puE, pubN]
  exact ⟨by unfold puV; rw [e, if_neg (by omega)], by unfold puH; rw [e, if_neg (by omega)]⟩
theorem puV_1 (seed : List UInt8) (s : List UInt8) : puV seed [s] [] = .tup [.agg (hdrC (mkH seed 0 [s])), .int .i64 0] /\ puH seed [s] [] = [mkH seed 0 [s]] := by
  have e : puE [s] [] = 0 := by simp [puE, pubN]
  exact ⟨by unfold puV; rw [e, if_pos rfl]; rfl, by unfold puH; rw [e, if_pos rfl]; rfl⟩
theorem puV_2 (seed : List UInt8) (s : List UInt8) : puV seed [s] [mkH seed 0 [s]] = .tup [.agg sgZ, .int .i64 83] /\ puH seed [s] [mkH seed 0 [s]] = [mkH seed 0 [s]] := by
  have e : puE [s] [mkH seed 0 [s]] = 83 := by simp [puE, pubN, mkH]
  exact ⟨by unfold puV; rw [e, if_neg (by omega)], by unfold puH; rw [e, if_neg (by omega)]⟩
theorem PubOk.one (seed : List UInt8) (s : List UInt8) (M : List (List UInt8)) : PubOk seed (s :: M) [mkH seed 0 [s]] := by
  refine ⟨by simp, fun i h hi => ?_, fun i h h' hi hi' => by simp at hi'⟩
  match i, hi with
  | 0, hi =>
    simp only [List.getElem?_cons_zero, Option.some.injEq] at hi
    exact ⟨1, by rw [<- hi]; simp, by omega, by simp⟩
  | i + 1, hi => simp at hi
theorem PubOk.none1 (seed : List UInt8) (L : List (List UInt8)) : PubOk seed L [] := ⟨by simp, by simp, by simp⟩
attribute [local irreducible] ACallsTo ACallsP
theorem zmm (Y : Store) (seed : List UInt8) (i : Nat) (M : List (List UInt8)) (hi : i < 8) (hM : M.length <= 4096) : ACallsTo TC 22 [.agg (hc (z15 (keyL seed))), .agg (hdrC (mkH seed i M))] Y (.int .i64 0) Y := by
  have h := zil Y (z15 (keyL seed)) (mkH seed i M).n (mkH seed i M).i (mkH seed i M).r (mkH seed i M).s (mkH seed i M).p _ (.of (z73 _ _))
  rw [zmn seed i M hi hM] at h
  exact h
theorem apE_s {s : List UInt8} (h : s.length <= 200) : apE s = 0 := by unfold apE; rw [if_neg (by omega)]
theorem apL_s {L : List (List UInt8)} {s : List UInt8} (h : s.length <= 200) : apL L s = L ++ [s] := by unfold apL; rw [if_neg (by omega)]
theorem zlf (h : Hdr) : (hdrC h)[0]? = some (.int .i64 h.n) := rfl
theorem zlg (h : Hdr) : ((hdrC h).drop 1).take 32 = hc h.r := zql _ _ _ _ _
theorem zle (h : Hdr) : (hdrC h).take 36 = hdrC h := List.take_of_length_le (by rw [z1y]; omega)
set_option maxHeartbeats 16000000 in
theorem zqz : ACallsTo TC 12 [] [] (.bool true) [] := by
  have hNew := fun Y => zpf Y [115, 101, 101, 100] (by simp)
  have P0 := zpe [] [115, 101, 101, 100]
  refine ACallsTo.of_body q1cok (by simp) fun hw _ => ?_
  repeat' (first|refine zW.zs ?_|refine zW.zb ?_|refine zW.zc ?_|refine zW.zt rfl ?_|refine zW.zf rfl ?_|(refine zW.zd rfl (fun ht => ?_) (fun ht => ?_)<;>try (exfalso;omega))|((first|refine zW.zr ?_|refine zW.zk ?_|refine zW.ze ?_|refine zW.zq ?_|(apply callW.mk_pu; (first | exact (fun _ => hNew _))) | (apply callW.za; (first | exact (hNew _))) | ((first|apply zg0|apply zg1|apply zg2|apply zg3|apply zg4|apply zg5|apply zg6|apply zg7)<;>intro ht));all_goals try simp (disch:=first|omega|(simp only [lens,z7,z6,List.length_reverse,List.length_map,List.length_take,List.length_drop,zw,z1d,z1c,z1j,z1y];first|done|omega)) only [go_sem,reduceEqDiff,Nat.reduceBEq,reduceAdd,reduceMul,reduceSub,reduceLeDiff,reduceToNat,reducePow]))
  simp only [List.nil_append, List.length_nil, Nat.zero_add] at P0 ⊢
  have hsl : ([115, 101, 101, 100] : List UInt8).length < 1000000 := by simp
  generalize ([115, 101, 101, 100] : List UInt8) = seed at *
  generalize [some [z1b true seed (keyL seed)], some [pbC (.ptr 0 0 0) .nilsl .nilsl 0 .nilsl .nilsl]] = Y1 at *
  refine callW.mkP (caps := []) (zci Y1 1 seed [] [] _ P0 (.nil seed) (by simp) hsl) (PublishP.is P0) ?_
  rintro v Y2 ⟨rfl, own2, fr2, P2⟩
  rw [(puV_0 seed).2] at P2
  rw [(puV_0 seed).1]
  simp (disch:=first|omega|(simp only [lens,z7,z6,List.length_reverse,List.length_map,List.length_take,List.length_drop,zw,z1d,z1c,z1j,z1y];first|done|omega)) only [go_sem,reduceEqDiff,Nat.reduceBEq,reduceAdd,reduceMul,reduceSub,reduceLeDiff,reduceToNat,reducePow]
  repeat' (first|refine zW.zs ?_|refine zW.zb ?_|refine zW.zc ?_|refine zW.zt rfl ?_|refine zW.zf rfl ?_|(refine zW.zd rfl (fun ht => ?_) (fun ht => ?_)<;>try (exfalso;omega))|((first|refine zW.zr ?_|refine zW.zk ?_|refine zW.ze ?_|refine zW.zq ?_|((first|apply zg0|apply zg1|apply zg2|apply zg3|apply zg4|apply zg5|apply zg6|apply zg7)<;>intro ht));all_goals try simp (disch:=first|omega|(simp only [lens,z7,z6,List.length_reverse,List.length_map,List.length_take,List.length_drop,zw,z1d,z1c,z1j,z1y];first|done|omega)) only [go_sem,reduceEqDiff,Nat.reduceBEq,reduceAdd,reduceMul,reduceSub,reduceLeDiff,reduceToNat,reducePow]))
  have hza : (sgZ ++ List.drop sgZ.length ([] : List AV)) = sgZ := by simp
  generalize hX : (some [sgZ ++ List.drop sgZ.length _] : Option AObj) = x1
  have P2' := P2.ext (Y' := Y2 ++ [x1]) ⟨_, rfl⟩
  refine callW.mkP (caps := []) (zgt _ 1 seed [] [] own2 [97] P2' (by simp) (by simp)) (AppendP.is P2') ?_
  rintro v Y3 ⟨rfl, own3, fr3, P3⟩
  rw [apL_s (by simp), List.nil_append] at P3
  rw [apE_s (by simp)]
  simp (disch:=first|omega|(simp only [lens,z7,z6,List.length_reverse,List.length_map,List.length_take,List.length_drop,zw,z1d,z1c,z1j,z1y];first|done|omega)) only [go_sem,reduceEqDiff,Nat.reduceBEq,reduceAdd,reduceMul,reduceSub,reduceLeDiff,reduceToNat,reducePow]
  repeat' (first|refine zW.zs ?_|refine zW.zb ?_|refine zW.zc ?_|refine zW.zt rfl ?_|refine zW.zf rfl ?_|(refine zW.zd rfl (fun ht => ?_) (fun ht => ?_)<;>try (exfalso;omega))|((first|refine zW.zr ?_|refine zW.zk ?_|refine zW.ze ?_|refine zW.zq ?_|((first|apply zg0|apply zg1|apply zg2|apply zg3|apply zg4|apply zg5|apply zg6|apply zg7)<;>intro ht));all_goals try simp (disch:=first|omega|(simp only [lens,z7,z6,List.length_reverse,List.length_map,List.length_take,List.length_drop,zw,z1d,z1c,z1j,z1y];first|done|omega)) only [go_sem,reduceEqDiff,Nat.reduceBEq,reduceAdd,reduceMul,reduceSub,reduceLeDiff,reduceToNat,reducePow]))
  refine callW.mkP (caps := []) (zci Y3 1 seed [[97]] [] own3 P3 (.none1 _ _) (by simp) hsl) (PublishP.is P3) ?_
  rintro v Y4 ⟨rfl, own4, fr4, P4⟩
  rw [(puV_1 seed [97]).2] at P4
  rw [(puV_1 seed [97]).1]
  have hm0 := zlf (mkH seed 0 [[97]])
  have hmr := zlg (mkH seed 0 [[97]])
  have hma := zle (mkH seed 0 [[97]])
  have hml := z1y (mkH seed 0 [[97]])
  have hmc := fun Y => zmm Y seed 0 [[97]] (by omega) (by simp)
  rw [show (mkH seed 0 [[97]]).n = 1 from rfl] at hm0
  rw [show (mkH seed 0 [[97]]).r = lfH [97] from rfl] at hmr
  have ok4 : PubOk seed [[97]] [mkH seed 0 [[97]]] := .one seed [97] []
  have ok6 : PubOk seed [[97], [98]] [mkH seed 0 [[97]]] := .one seed [97] [[98]]
  have pv := puV_2 seed [97]
  have hsx : ([mkH seed 0 [[97]]] : List Hdr)[[mkH seed 0 [[97]]].length - 1]? = some (mkH seed 0 [[97]]) := rfl
  have hmn : (mkH seed 0 [[97]]).n = (1 : Nat) := rfl
  generalize mkH seed 0 [[97]] = m at *
  simp (disch:=first|omega|(simp only [lens,z7,z6,List.length_reverse,List.length_map,List.length_take,List.length_drop,zw,z1d,z1c,z1j,z1y];first|done|omega)) only [go_sem,reduceEqDiff,Nat.reduceBEq,reduceAdd,reduceMul,reduceSub,reduceLeDiff,reduceToNat,reducePow, hml]
  repeat' (first|refine zW.zs ?_|refine zW.zb ?_|refine zW.zc ?_|refine zW.zt rfl ?_|refine zW.zf rfl ?_|(refine zW.zd rfl (fun ht => ?_) (fun ht => ?_)<;>try (exfalso;omega))|((first|refine zW.zr ?_|refine zW.zk ?_|refine zW.ze ?_|refine zW.zq ?_|((first|apply zg0|apply zg1|apply zg2|apply zg3|apply zg4|apply zg5|apply zg6|apply zg7)<;>intro ht));all_goals try simp (disch:=first|omega|(simp only [lens,z7,z6,List.length_reverse,List.length_map,List.length_take,List.length_drop,zw,z1d,z1c,z1j,z1y];first|done|omega)) only [go_sem,reduceEqDiff,Nat.reduceBEq,reduceAdd,reduceMul,reduceSub,reduceLeDiff,reduceToNat,reducePow, hml]))
  have P4' := P4.ext (Y' := Y4 ++ [some [hdrC m]]) ⟨_, rfl⟩
  refine callW.mkP (caps := []) (zci _ 1 seed [[97]] [m] own4 P4' ok4 (by simp) hsl) (PublishP.is P4') ?_
  rintro v Y5 ⟨rfl, own5, fr5, P5⟩
  rw [pv.2] at P5
  rw [pv.1]
  have hs5 : Y5[Y4.length]? = some (some [hdrC m]) := fr5.get (by simp) fun h => by have := P4.lt h; omega
  have d5 := slen hs5
  simp (disch:=first|omega|(simp only [lens,z7,z6,List.length_reverse,List.length_map,List.length_take,List.length_drop,zw,z1d,z1c,z1j,z1y];first|done|omega)) only [go_sem,reduceEqDiff,Nat.reduceBEq,reduceAdd,reduceMul,reduceSub,reduceLeDiff,reduceToNat,reducePow, hml]
  repeat' (first|refine zW.zs ?_|refine zW.zb ?_|refine zW.zc ?_|refine zW.zt rfl ?_|refine zW.zf rfl ?_|(refine zW.zd rfl (fun ht => ?_) (fun ht => ?_)<;>try (exfalso;omega))|((first|refine zW.zr ?_|refine zW.zk ?_|refine zW.ze ?_|refine zW.zq ?_|((first|apply zg0|apply zg1|apply zg2|apply zg3|apply zg4|apply zg5|apply zg6|apply zg7)<;>intro ht));all_goals try simp (disch:=first|omega|(simp only [lens,z7,z6,List.length_reverse,List.length_map,List.length_take,List.length_drop,zw,z1d,z1c,z1j,z1y];first|done|omega)) only [go_sem,reduceEqDiff,Nat.reduceBEq,reduceAdd,reduceMul,reduceSub,reduceLeDiff,reduceToNat,reducePow, hml]))
  generalize hX2 : (some [sgZ ++ List.drop sgZ.length _] : Option AObj) = x2
  have P5' := P5.ext (Y' := Y5 ++ [x2]) ⟨_, rfl⟩
  refine callW.mkP (caps := []) (zgt _ 1 seed [[97]] [m] own5 [98] P5' (by simp) (by simp)) (AppendP.is P5') ?_
  rintro v Y6 ⟨rfl, own6, fr6, P6⟩
  rw [apL_s (by simp)] at P6
  rw [apE_s (by simp)]
  change PubIs Y6 1 seed [[97], [98]] [m] own6 at P6
  have hs6 : Y6[Y4.length]? = some (some [hdrC m]) := fr6.get (by rw [gapp d5]; exact hs5) fun h => by
    rcases fr5.new _ h with h | h
    · have := P4.lt h; omega
    · simp at h; omega
  have d6 := slen hs6
  have hSrc := P6.source ok6 (by simp) m 1 hsx hmn (by omega) (by simp)
  rw [show srcV [[97], [98]] m 1 = .agg [.vsl 1 [[.str [97]]] false, .vsl 32 (hr (lvs [[97]])) false, .vsl 36 [hdrC m] true, .nilsl] from rfl] at hSrc
  have hKey := fun y => (P6.ext (Y' := Y6 ++ y) ⟨_, rfl⟩).key
  have hLog := fun y => (P6.ext (Y' := Y6 ++ y) ⟨_, rfl⟩).log (by simp)
  have hHd := fun y => (P6.ext (Y' := Y6 ++ y) ⟨_, rfl⟩).heads ok6
  rw [show zz 1 (strs [[97], [98]]) = .vsl 1 [[.str [97]], [.str [98]]] false from rfl] at hLog
  rw [show zz 36 (hdrs [m]) = .vsl 36 [hdrC m] false from rfl] at hHd
  have hLf := fun Y => zhy Y [97] (by simp)
  simp (disch:=first|omega|(simp only [lens,z7,z6,List.length_reverse,List.length_map,List.length_take,List.length_drop,zw,z1d,z1c,z1j,z1y];first|done|omega)) only [go_sem,reduceEqDiff,Nat.reduceBEq,reduceAdd,reduceMul,reduceSub,reduceLeDiff,reduceToNat,reducePow]
  repeat' (first|refine zW.zs ?_|refine zW.zb ?_|refine zW.zc ?_|refine zW.zt rfl ?_|refine zW.zf rfl ?_|(refine zW.zd rfl (fun ht => ?_) (fun ht => ?_)<;>try (exfalso;omega))|((first|refine zW.zr ?_|refine zW.zk ?_|refine zW.ze ?_|refine zW.zq ?_|(apply callW.mk_pu; (first | exact (fun _ => hSrc) | exact (fun _ => hLf _) | exact (fun _ => hKey _) | exact (fun _ => hmc _) | exact (fun _ => hLog _) | exact (fun _ => hHd _))) | (apply callW.za; (first | exact (hSrc) | exact (hLf _) | exact (hKey _) | exact (hmc _) | exact (hLog _) | exact (hHd _))) | ((first|apply zg0|apply zg1|apply zg2|apply zg3|apply zg4|apply zg5|apply zg6|apply zg7)<;>intro ht));all_goals try simp (disch:=first|omega|(simp only [lens,z7,z6,List.length_reverse,List.length_map,List.length_take,List.length_drop,zw,z1d,z1c,z1j,z1y];first|done|omega)) only [go_sem,reduceEqDiff,Nat.reduceBEq,reduceAdd,reduceMul,reduceSub,reduceLeDiff,reduceToNat,reducePow, hs6, hm0, hmr, hma, hml]))
  exact DownV.pure (G := []) (news := _) hw (zy _ rfl)
theorem zr0 (Y : Store) : ACallsTo TC 12 [] Y (.bool true) Y := ACallsTo.frame glok zqz (by simp [RLs]) Y
theorem PublishNone_law (avs : List AV) (h : z6d [.str] avs) : ACallsTo TC 4 avs [] (.bool true) [] := by
  simp only [z6d] at h
  obtain ⟨_, _, rfl, h1, rfl⟩ := h
  simp only [Sh, ShC] at h1
  obtain ⟨s, e, hl⟩ := h1
  cases e
  exact zio zr0 s
end Am
end Go.Proofs.YtjgljhbmljgaeaaDoor
end
