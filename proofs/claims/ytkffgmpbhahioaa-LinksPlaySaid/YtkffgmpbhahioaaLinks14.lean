/- Links: acts as arguments. -/
import Derived.Test.YtkffgmpbhahioaaLinks13
import Derived.Test.YtkffgmpbhahioaaAmOpen
set_option linter.unusedSimpArgs false
set_option linter.unusedVariables false
namespace Go.Proofs.Ytkffgmpbhahioaa
namespace Am
def actTy : Ty := .row [.int .u8, .row [.int .i64, .int .i64, .str], .int .i64, .int .i64, .int .u8]
def I64 (i : Int) : Prop := -9223372036854775808 ≤ i ∧ i ≤ 9223372036854775807
structure ActOk (a : ActV) : Prop where
  f : I64 a.m.f
  t : I64 a.m.t
  x : a.m.x.length ≤ maxLen
  i : I64 a.i
  k : I64 a.k
theorem u8_of {n : Int} (h0 : 0 ≤ n) (h1 : n ≤ 255) : ∃ b : UInt8, n = b.toNat :=
  ⟨UInt8.ofNat n.toNat, by rw [UInt8.toNat_ofNat']; omega⟩
theorem act_of {cs : List AV} (h : ShC actTy cs) : ∃ a : ActV, cs = actC a ∧ ActOk a := by
  simp only [actTy, ShC, ShRow] at h
  obtain ⟨_, _, rfl, ⟨n1, rfl, h1, h1'⟩, _, _, rfl, ⟨_, _, rfl, ⟨n2, rfl, h2, h2'⟩, _, _, rfl, ⟨n3, rfl, h3, h3'⟩, _, _, rfl, ⟨s, rfl, hs⟩, rfl⟩, _, _, rfl, ⟨n4, rfl, h4, h4'⟩, _, _, rfl, ⟨n5, rfl, h5, h5'⟩, _, _, rfl, ⟨n6, rfl, h6, h6'⟩, rfl⟩ := h
  simp only [IntKind.min, IntKind.max, IntKind.signed, IntKind.bits] at h1 h1' h2 h2' h3 h3' h4 h4' h5 h5' h6 h6'
  simp at h1 h1' h2 h2' h3 h3' h4 h4' h5 h5' h6 h6'
  obtain ⟨b1, rfl⟩ := u8_of h1 h1'
  obtain ⟨b6, rfl⟩ := u8_of h6 h6'
  exact ⟨⟨b1, ⟨n2, n3, s⟩, n4, n5, b6⟩, rfl, ⟨⟨h2, h2'⟩, ⟨h3, h3'⟩, hs, ⟨h4, h4'⟩, ⟨h5, h5'⟩⟩⟩
theorem LinksNone_law (avs : List AV) (h : ShAll [actTy] avs) : ACallsTo TC 5 avs [] (.bool true) [] := by
  obtain ⟨_, _, rfl, ⟨cs, rfl, h⟩, rfl⟩ := h
  obtain ⟨a, rfl, _⟩ := act_of (cs := cs) (by simpa only [actTy, ShC] using h)
  exact LinksNone_to a
end Am
end Go.Proofs.Ytkffgmpbhahioaa
