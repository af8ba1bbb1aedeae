/- THE ABSTRACT MACHINE, part 14: its own code, with all that types say written out; that a Go function's code is turned into it; what it says of the model's run. -/
import Derived.Test.YtkffgmpbhahioaaAmRegion
namespace Go.Proofs.Ytkffgmpbhahioaa
namespace Am

/-- Operands. -/
inductive AX where
  | t (n : Nat)
  | v (a : AV)
  deriving Inhabited
def AX.ev (ρ : Env) : AX → AV
  | .t n => ρ n
  | .v a => a
/-- How values other than numbers and texts are compared. -/
inductive BK where
  | none
  | bool
  | ptr
  | slc
  | fn
  | agg (l : List LK)
inductive CK where
  | int (k : IntKind)
  | strId
  | bytes
  | str
inductive SK where
  | str
  | sl (sz : Nat)
  | arr (n sz : Nat)
inductive AOp where
  | mv (x : AX)
  | pick (c a b : AX)
  | alloc (z : List AV)
  | box (x : AX)
  | build (z : List AV) (ps : List (Nat × Nat × AX))
  | lit (sz : Nat) (xs : List AX)
  | load (ag : Bool) (n : Nat) (x : AX)
  | store (n : Nat) (a x : AX)
  | nilc (x : AX)
  | bin (op : BinOp) (bk : BK) (x y : AX)
  | un (op : UnOp) (x : AX)
  | conv (c : CK) (x : AX)
  | mkfn (f : FuncId) (caps : List AX)
  | make (sz : Nat) (z : List AV) (l c : AX)
  | slice (k : SK) (x : AX) (lo hi mx : Option AX)
  | fa (k : Nat) (x : AX)
  | fld (ag : Bool) (n off : Nat) (x : AX)
  | iaArr (n sz : Nat) (x i : AX)
  | iaSl (sz : Nat) (x i : AX)
  | ixArr (n : Nat) (ag : Bool) (sz : Nat) (x i : AX)
  | ixStr (x i : AX)
  | ext (i : Nat) (x : AX)
  | lenStr (x : AX)
  | lenSl (x : AX)
  | lenArr (n : Nat)
  | app (sz : Nat) (s x : AX)
  | copy (sz : Nat) (d s : AX)
  | clear (z : List AV) (x : AX)
  | minmax (mx : Bool) (x y : AX)
  | call (f : AX) (xs : List AX)

def rLoad (ag : Bool) (n : Nat) (σ : Store) : AV → Option AV
  | .ptr r i off => match σ[r]? with | some (some o) => (o[i]?).bind fun cs => subCells cs off n ag | _ => none
  | .vp cs => subCells cs 0 n ag
  | _ => none
def rStore (n : Nat) (σ : Store) (p v : AV) : Option Store :=
  (cellsOf v).bind fun vs => if vs.length = n then
    (match p with
     | .ptr r i off => match σ[r]? with | some (some o) => (o[i]?).bind fun cs => if off + vs.length ≤ cs.length then some (σ.set r (some (o.set i (overw cs off vs)))) else none | _ => none
     | _ => none) else none
def rFill (cells : List AV) : List (Nat × Nat × AV) → Option (List AV)
  | [] => some cells
  | p :: rest => (cellsOf p.2.2).bind fun vs => if vs.length = p.2.1 ∧ p.1 + p.2.1 ≤ cells.length then rFill (overw cells p.1 vs) rest else none
def rElems (sz : Nat) : List AV → Option (List (List AV))
  | [] => some []
  | v :: l => (cellsOf v).bind fun vs => if vs.length = sz then (rElems sz l).map (vs :: ·) else none
def rMake (sz : Nat) (z : List AV) (σ : Store) (l c : AV) : Option (AV × Store) :=
  match l, c with
  | .int _ n, .int _ m => if 0 ≤ n ∧ n ≤ m ∧ m ≤ 4294967296 then some (.sl σ.length 0 n.toNat (some m.toNat) sz, σ ++ [some (List.replicate m.toNat z)]) else none
  | _, _ => none
def rSlice (k : SK) (σ : Store) (x : AV) (lo hi mx : Option AV) : Option AV :=
  match k, x with
  | .str, .str s => aSliceStr s lo hi mx
  | .sl _, .nilsl => (bnd hi 0).bind fun h => (bnd lo 0).bind fun l => (bnd mx 0).bind fun m => if h = 0 ∧ l = 0 ∧ m = 0 ∧ (mx.isSome = true → hi.isSome = true) then some .nilsl else none
  | .sl sz, .vsl esz es ex => if sz = esz then aSliceVsl esz es ex lo hi mx else none
  | .sl sz, .sl r off len lim esz => if sz = esz then aSliceSl (knownN σ r) r off len lim esz lo hi mx else none
  | .sl sz, .asl r i off len cap esz => if sz = esz then aSliceAsl r i off len cap esz lo hi mx else none
  | .arr n sz, .ptr r i off => aSliceAsl r i off n n sz lo hi mx
  | _, _ => none
def rFa (k : Nat) : AV → Option AV
  | .ptr r i off => some (.ptr r i (off + k))
  | .vp cs => if k ≤ cs.length then some (.vp (cs.drop k)) else none
  | _ => none
def rFld (ag : Bool) (n off : Nat) : AV → Option AV
  | .agg cs => subCells cs off n ag
  | _ => none
def rIxArr (n : Nat) (ag : Bool) (sz : Nat) (x ix : AV) : Option AV :=
  match x, ix with
  | .agg cs, .int _ i => if 0 ≤ i ∧ i < (n : Int) then subCells cs (i.toNat * sz) sz ag else none
  | _, _ => none
def rIxStr (x ix : AV) : Option AV :=
  match x, ix with
  | .str s, .int _ i => if 0 ≤ i then (s[i.toNat]?).map fun b => .int .u8 b.toNat else none
  | _, _ => none
def rLenSl : AV → Option AV
  | .nilsl => some (.int .i64 0)
  | .vsl _ es _ => some (.int .i64 es.length)
  | .sl _ _ len _ _ => some (.int .i64 len)
  | .asl _ _ _ len _ _ => some (.int .i64 len)
  | _ => none
def rEq (bk : BK) (x y : AV) : Option Bool :=
  match x, y with
  | .bool a, .bool b => match bk with | .bool => some (a == b) | _ => none
  | .nilp, .nilp => match bk with | .ptr => some true | _ => none
  | .ptr _ _ _, .nilp => match bk with | .ptr => some false | _ => none
  | .vp _, .nilp => match bk with | .ptr => some false | _ => none
  | .nilp, .ptr _ _ _ => match bk with | .ptr => some false | _ => none
  | .nilp, .vp _ => match bk with | .ptr => some false | _ => none
  | .nilsl, .nilsl => match bk with | .slc => some true | _ => none
  | .vsl _ _ _, .nilsl => match bk with | .slc => some false | _ => none
  | .sl _ _ _ _ _, .nilsl => match bk with | .slc => some false | _ => none
  | .asl _ _ _ _ _ _, .nilsl => match bk with | .slc => some false | _ => none
  | .nilfn, .nilfn => match bk with | .fn => some true | _ => none
  | .fn _ _, .nilfn => match bk with | .fn => some false | _ => none
  | .agg xs, .agg ys => match bk with | .agg l => if xs.map kindOf = l.map some ∧ ys.map kindOf = l.map some then some (eqCells xs ys) else none | _ => none
  | _, _ => none
def rBin (op : BinOp) (bk : BK) (x y : AV) : Option AV :=
  match x, y with
  | .int k a, .int k' b => match op with
    | .shl => shBin .shl k a b
    | .shr => shBin .shr k a b
    | op => if k = k' then intBin op k a b else none
  | .str a, .str b => strBin op a b
  | x, y => (rEq bk x y).bind (eqOp op)
def rConv (c : CK) (σ : Store) (x : AV) : Option (AV × Store) :=
  match c, x with
  | .int k, .int _ n => some (.int k (k.wrap n), σ)
  | .strId, .str s => some (.str s, σ)
  | .bytes, .str s => some (.sl σ.length 0 s.length none 1, σ ++ [some (byteEs s)])
  | .str, .int _ _ => none
  | .str, .str _ => none
  | .str, x => (slElems σ x).bind fun es => (bytesOf es).map fun s => (.str s, σ)
  | _, _ => none
def rCopy (sz : Nat) (σ : Store) (d s : AV) : Option (AV × Store) :=
  (srcElems σ sz s).bind fun ys =>
    match d with
    | .nilsl => some (.int .i64 0, σ)
    | .sl r off len _ esz => match σ[r]? with
      | some (some o) => if esz = sz ∧ off + len ≤ o.length then some (.int .i64 (min ys.length len : Nat), σ.set r (some (o.take off ++ ys.take len ++ o.drop (off + min ys.length len)))) else none
      | _ => none
    | .asl r i off len _ esz => match σ[r]? with
      | some (some o) => (o[i]?).bind fun cs => if esz = sz ∧ off + len * esz ≤ cs.length then some (.int .i64 (min ys.length len : Nat), σ.set r (some (o.set i (overw cs off (ys.take len).flatten)))) else none
      | _ => none
    | _ => none
def rClear (z : List AV) (σ : Store) : AV → Option (AV × Store)
  | .nilsl => some (.tup [], σ)
  | .sl r off len _ esz => if len = 0 then some (.tup [], σ) else match σ[r]? with
    | some (some o) => if z.length = esz ∧ off + len ≤ o.length then some (.tup [], σ.set r (some (o.take off ++ List.replicate len z ++ o.drop (off + len)))) else none
    | _ => none
  | _ => none

/-- What an operation that is no call gives. -/
def AOp.run (ρ : Env) (σ : Store) : AOp → Option (AV × Store)
  | .mv x => some (x.ev ρ, σ)
  | .pick c a b => match c.ev ρ with | .bool t => some (if t then a.ev ρ else b.ev ρ, σ) | _ => none
  | .alloc z => some (.ptr σ.length 0 0, σ ++ [some [z]])
  | .box x => aBox σ (x.ev ρ)
  | .build z ps => (rFill z (ps.map fun p => (p.1, p.2.1, p.2.2.ev ρ))).map fun c => (.agg c, σ)
  | .lit sz xs => (rElems sz (xs.map (AX.ev ρ))).map fun es => (.vsl sz es true, σ)
  | .load ag n x => (rLoad ag n σ (x.ev ρ)).map fun v => (v, σ)
  | .store n a x => (rStore n σ (a.ev ρ) (x.ev ρ)).map fun σ' => (.undef, σ')
  | .nilc x => match x.ev ρ with
    | .ptr r i off => some (.ptr r i off, σ)
    | .vp cs => some (.vp cs, σ)
    | .fn f caps => some (.fn f caps, σ)
    | _ => none
  | .bin op bk x y => (rBin op bk (x.ev ρ) (y.ev ρ)).map fun v => (v, σ)
  | .un op x => (aUn op (x.ev ρ)).map fun v => (v, σ)
  | .conv c x => rConv c σ (x.ev ρ)
  | .mkfn f caps => some (.fn f (caps.map (AX.ev ρ)), σ)
  | .make sz z l c => rMake sz z σ (l.ev ρ) (c.ev ρ)
  | .slice k x lo hi mx => (rSlice k σ (x.ev ρ) (lo.map (AX.ev ρ)) (hi.map (AX.ev ρ)) (mx.map (AX.ev ρ))).map fun v => (v, σ)
  | .fa k x => (rFa k (x.ev ρ)).map fun v => (v, σ)
  | .fld ag n off x => (rFld ag n off (x.ev ρ)).map fun v => (v, σ)
  | .iaArr n sz x i => (match i.ev ρ with | .int _ k => aIdxArr n sz k (x.ev ρ) | _ => none).map fun v => (v, σ)
  | .iaSl sz x i => (match i.ev ρ with | .int _ k => aIdxSl sz k (x.ev ρ) | _ => none).map fun v => (v, σ)
  | .ixArr n ag sz x i => (rIxArr n ag sz (x.ev ρ) (i.ev ρ)).map fun v => (v, σ)
  | .ixStr x i => (rIxStr (x.ev ρ) (i.ev ρ)).map fun v => (v, σ)
  | .ext i x => match x.ev ρ with | .tup vs => (vs[i]?).map fun v => (v, σ) | _ => none
  | .lenStr x => match x.ev ρ with | .str s => some (.int .i64 s.length, σ) | _ => none
  | .lenSl x => (rLenSl (x.ev ρ)).map fun v => (v, σ)
  | .lenArr n => some (.int .i64 n, σ)
  | .app sz s x => (srcElems σ sz (x.ev ρ)).bind fun ys => aApp σ sz (s.ev ρ) ys
  | .copy sz d s => rCopy sz σ (d.ev ρ) (s.ev ρ)
  | .clear z x => rClear z σ (x.ev ρ)
  | .minmax mx x y => (aMin mx (x.ev ρ) (y.ev ρ)).map fun v => (v, σ)
  | .call _ _ => none

/-- An operation in its place: where its value goes, when it is carried out (a slot, and what it is to hold), whether it must leave the store as it is. -/
structure AIns where
  dst : Option Nat
  guard : Option (Nat × Bool)
  need : Nd
  op : AOp
inductive ACode where
  | skip
  | reg (ops : List AIns)
  | seq (a b : ACode)
  | cond (c : AX) (a b : ACode)
  | block (id : Nat) (a : ACode)
  | loop (a : ACode)
  | exit (id : Nat)
  | ret
inductive AExit where
  | normal
  | exit (id : Nat)
  | ret

def guardV (ρ : Env) : Option (Nat × Bool) → Option Bool
  | none => some true
  | some g => match ρ g.1 with | .bool b => some (b == g.2) | .undef => some false | _ => none
/-! From a Go function's code. -/
def cX (C : Ctx) : Operand → Option AX
  | .tmp t => some (.t t)
  | .const v => some (.v (ofV v))
  | .global g => (C.gl g).map fun cs => .v (.vp cs)
  | .func f => some (.v (.fn f []))
def cXo (C : Ctx) : Option Operand → Option (Option AX)
  | none => some none
  | some x => (cX C x).map some
theorem cX_ok {C : Ctx} {x : Operand} {a : AX} (h : cX C x = some a) (ρ : Env) : a.ev ρ = ev C ρ x := by
  cases x <;> simp only [cX, Option.some.injEq, Option.map_eq_some_iff] at h
  · subst h; rfl
  · subst h; rfl
  · obtain ⟨cs, h1, rfl⟩ := h; simp [AX.ev, ev, h1]
  · subst h; rfl
theorem cXo_ok {C : Ctx} {x : Option Operand} {a : Option AX} (h : cXo C x = some a) (ρ : Env) : a.map (AX.ev ρ) = x.map (ev C ρ) := by
  cases x with
  | none => simp only [cXo, Option.some.injEq] at h; subst h; rfl
  | some x =>
    simp only [cXo, Option.map_eq_some_iff] at h
    obtain ⟨a, h1, rfl⟩ := h
    simp [cX_ok h1]
def cXs (C : Ctx) : List Operand → Option (List AX)
  | [] => some []
  | x :: l => (cX C x).bind fun a => (cXs C l).map (a :: ·)
theorem cXs_ok {C : Ctx} {l : List Operand} {as : List AX} (h : cXs C l = some as) (ρ : Env) : as.map (AX.ev ρ) = l.map (ev C ρ) := by
  induction l generalizing as with
  | nil => simp only [cXs, Option.some.injEq] at h; subst h; rfl
  | cons x l ih =>
    simp only [cXs, Option.bind_eq_some_iff, Option.map_eq_some_iff] at h
    obtain ⟨a, h1, as', h2, rfl⟩ := h
    simp [cX_ok h1, ih h2]
/-- The parts of a literal of a struct or an array, with their places. -/
def cParts (C : Ctx) (place : Nat → Option (Nat × Nat)) : List (Nat × Operand) → Option (List (Nat × Nat × AX))
  | [] => some []
  | p :: l => (place p.1).bind fun x => (cX C p.2).bind fun a => (cParts C place l).map ((x.1, x.2, a) :: ·)
theorem cParts_ok {C : Ctx} {place : Nat → Option (Nat × Nat)} (ρ : Env) : ∀ {l : List (Nat × Operand)} {ps : List (Nat × Nat × AX)} (cells : List AV), cParts C place l = some ps →
    aFill place cells (l.map fun p => (p.1, ev C ρ p.2)) = rFill cells (ps.map fun p => (p.1, p.2.1, p.2.2.ev ρ))
  | [], ps, cells, h => by simp only [cParts, Option.some.injEq] at h; subst h; rfl
  | p :: l, ps, cells, h => by
    simp only [cParts, Option.bind_eq_some_iff, Option.map_eq_some_iff] at h
    obtain ⟨x, hx, a, ha, ps', hps, rfl⟩ := h
    simp only [List.map_cons, aFill, hx, Option.bind_some, rFill, cX_ok ha ρ]
    cases cellsOf (ev C ρ p.2) with
    | none => rfl
    | some vs =>
      simp only [Option.bind_some]
      rw [cParts_ok ρ (overw cells x.1 vs) hps]
def cElems (C : Ctx) : List (Nat × Operand) → Nat → Option (List AX)
  | [], _ => some []
  | p :: l, k => if p.1 = k then (cX C p.2).bind fun a => (cElems C l (k + 1)).map (a :: ·) else none
theorem cElems_ok {C : Ctx} {sz : Nat} (ρ : Env) : ∀ {l : List (Nat × Operand)} {k : Nat} {as : List AX}, cElems C l k = some as → aElems sz (l.map fun p => (p.1, ev C ρ p.2)) k = rElems sz (as.map (AX.ev ρ))
  | [], k, as, h => by simp only [cElems, Option.some.injEq] at h; subst h; rfl
  | p :: l, k, as, h => by
    simp only [cElems] at h
    split at h
    · rename_i hk
      simp only [Option.bind_eq_some_iff, Option.map_eq_some_iff] at h
      obtain ⟨a, ha, as', has, rfl⟩ := h
      simp only [List.map_cons, aElems, hk, if_true, rElems, cX_ok ha ρ, cElems_ok ρ has]
    · cases h

def cBK (C : Ctx) (t : TypeId) : BK :=
  if tyBool C t then .bool else if tyPtr C t then .ptr else if (tySl C t).isSome then .slc else if tyFunc C t then .fn else
    if tyAgg C t = some true then (match tyLeaves C t with | some l => .agg l | none => .none) else .none
theorem cBK_spec {C : Ctx} {t : TypeId} : (cBK C t = .bool → tyBool C t = true) ∧ (cBK C t = .ptr → tyPtr C t = true) ∧ (cBK C t = .slc → ∃ e, tySl C t = some e) ∧ (cBK C t = .fn → tyFunc C t = true) ∧
    (∀ l, cBK C t = .agg l → tyLeaves C t = some l ∧ tyAgg C t = some true) := by
  unfold cBK
  split
  · exact ⟨fun _ => by assumption, by simp, by simp, by simp, by simp⟩
  · split
    · exact ⟨by simp, fun _ => by assumption, by simp, by simp, by simp⟩
    · split
      · rename_i h; exact ⟨by simp, by simp, fun _ => Option.isSome_iff_exists.1 h, by simp, by simp⟩
      · split
        · exact ⟨by simp, by simp, by simp, fun _ => by assumption, by simp⟩
        · split
          · rename_i hag
            split
            · rename_i l hl
              exact ⟨by simp, by simp, by simp, by simp, fun l' h' => by cases h'; exact ⟨hl, hag⟩⟩
            · exact ⟨by simp, by simp, by simp, by simp, by simp⟩
          · exact ⟨by simp, by simp, by simp, by simp, by simp⟩
theorem cBK_ok {C : Ctx} {t : TypeId} {x y : AV} {b : Bool} (h : rEq (cBK C t) x y = some b) : aEq C t x y = some b := by
  obtain ⟨s1, s2, s3, s4, s5⟩ := cBK_spec (C := C) (t := t)
  generalize cBK C t = bk at *
  have hsl : bk = .slc → ∀ c : Bool, ((tySl C t).map fun _ => c) = some c := fun e c => by obtain ⟨e', h'⟩ := s3 e; rw [h']; rfl
  unfold rEq at h
  split at h <;> simp only [aEq] <;> (try (cases bk <;> simp only [reduceCtorEq] at h))
  case h_1 => rw [if_pos (s1 rfl)]; exact h
  case h_2 => rw [if_pos (s2 rfl)]; exact h
  case h_3 => rw [if_pos (s2 rfl)]; exact h
  case h_4 => rw [if_pos (s2 rfl)]; exact h
  case h_5 => rw [if_pos (s2 rfl)]; exact h
  case h_6 => rw [if_pos (s2 rfl)]; exact h
  case h_7 => simp only [Option.some.injEq] at h; subst h; exact hsl rfl _
  case h_8 => simp only [Option.some.injEq] at h; subst h; exact hsl rfl _
  case h_9 => simp only [Option.some.injEq] at h; subst h; exact hsl rfl _
  case h_10 => simp only [Option.some.injEq] at h; subst h; exact hsl rfl _
  case h_11 => rw [if_pos (s4 rfl)]; exact h
  case h_12 => rw [if_pos (s4 rfl)]; exact h
  case h_13 =>
    rename_i l
    obtain ⟨k1, k2⟩ := s5 l rfl
    rw [k1]
    simp only [Option.bind_some]
    split at h
    · rename_i hc
      rw [if_pos ⟨hc.1, hc.2, k2⟩]; exact h
    · cases h

def cOp (C : Ctx) : Op → Option AOp
  | .move x => (cX C x).map .mv
  | .assign x => (cX C x).map .mv
  | .pick c a b => (cX C c).bind fun c => (cX C a).bind fun a => (cX C b).map fun b => .pick c a b
  | .alloc t => (tyZero C t).bind fun z => (cellsOf z).map .alloc
  | .box _ x => (cX C x).map .box
  | .build t ps => (tyZero C t).bind fun z => (cellsOf z).bind fun zc => match stPlaces C t with
    | some pl => (cParts C (pl[·]?) ps.toList).map (.build zc)
    | none => (tyArr C t).bind fun ne => (tySize C ne.2).bind fun n => (cParts C (fun i => some (i * n, n)) ps.toList).map (.build zc)
  | .buildSlice t n ps => (tySl C t).bind fun e => (tySize C e).bind fun sz => (tyZero C e).bind fun _ => if ps.toList.length = n ∧ n * sz ≤ 16777216 then (cElems C ps.toList 0).map (.lit sz) else none
  | .load t x => (tyAgg C t).bind fun ag => (tySize C t).bind fun n => (cX C x).map (.load ag n)
  | .store t a x => (tySize C t).bind fun n => (cX C a).bind fun a => (cX C x).map (.store n a)
  | .nilCheck x => (cX C x).map .nilc
  | .binOp op t x y _ => (cX C x).bind fun x => (cX C y).map fun y => .bin op (cBK C t) x y
  | .unOp op _ x => (cX C x).map (.un op)
  | .convert s d x => (cX C x).bind fun x =>
      match tyInt C s, tyInt C d with
      | some _, some k => some (.conv (.int k) x)
      | _, _ => if tyStr C d = true then (if tyU8Sl C s = true then some (.conv .str x) else if tyStr C s = true then some (.conv .strId x) else none)
          else if tyU8Sl C d = true ∧ tyStr C s = true then some (.conv .bytes x) else none
  | .makeFunc (.func f) first captured => if first.size = 0 then (cXs C captured.toList).map (.mkfn f) else none
  | .makeSlice t l c => (tySl C t).bind fun e => (tySize C e).bind fun sz => (tyBytes C e).bind fun by_ => (tyZero C e).bind fun z => (cellsOf z).bind fun zc => (cX C l).bind fun l => (cX C c).bind fun c =>
      if by_ ≤ 16384 ∧ zc.length = sz then some (.make sz zc l c) else none
  | .slice t x lo hi mx => (cX C x).bind fun x => (cXo C lo).bind fun lo => (cXo C hi).bind fun hi => (cXo C mx).bind fun mx =>
      if tyStr C t = true then some (.slice .str x lo hi mx) else match tyArr C t with
        | some ne => (tySize C ne.2).map fun sz => .slice (.arr ne.1 sz) x lo hi mx
        | none => (tySl C t).bind fun e => (tySize C e).map fun sz => .slice (.sl sz) x lo hi mx
  | .fieldAddr s x f => (tyFieldOff C s f).bind fun k => (cX C x).map (.fa k)
  | .field s x f => (tyField C s f).bind fun y => (tyAgg C y.1).bind fun ag => (tySize C y.1).bind fun n => (cX C x).map (.fld ag n y.2)
  | .indexAddr t x i => (cX C x).bind fun x => (cX C i).bind fun i => match tyArr C t with
    | some ne => (tySize C ne.2).map fun sz => .iaArr ne.1 sz x i
    | none => (tySl C t).bind fun e => (tySize C e).map fun sz => .iaSl sz x i
  | .index t x i => (cX C x).bind fun x => (cX C i).bind fun i => if tyStr C t = true then some (.ixStr x i) else
      (tyArr C t).bind fun ne => (tyAgg C ne.2).bind fun ag => (tySize C ne.2).map fun sz => .ixArr ne.1 ag sz x i
  | .extract x i => (cX C x).map (.ext i)
  | .call c => match c.callee with
    | .value f => (cX C f).bind fun f => (cXs C c.args.toList).map (.call f)
    | .builtin b => (cXs C c.args.toList).bind fun xs =>
      match b, c.argTypes.toList, xs with
      | .len, [t], [x] => if tyStr C t = true then some (.lenStr x) else if (tySl C t).isSome = true then some (.lenSl x) else none
      | .append, [t, t'], [s, x] => (tySl C t).bind fun e => (tySize C e).bind fun sz => (tyBytes C e).bind fun by_ => (tyZero C e).bind fun z => (cellsOf z).bind fun zc =>
          if by_ ≤ 8192 ∧ zc.length = sz ∧ ((tySl C t').isSome || tyStr C t') = true then some (.app sz s x) else none
      | .copy, [t, _], [d, s] => (tySl C t).bind fun e => (tySize C e).map fun sz => .copy sz d s
      | .clear, [t], [x] => (tySl C t).bind fun e => (tyZero C e).bind fun z => (cellsOf z).map fun zc => .clear zc x
      | .min, _, [x, y] => some (.minmax false x y)
      | .max, _, [x, y] => some (.minmax true x y)
      | _, _, _ => none
    | _ => none
  | _ => none
end Am
end Go.Proofs.Ytkffgmpbhahioaa
