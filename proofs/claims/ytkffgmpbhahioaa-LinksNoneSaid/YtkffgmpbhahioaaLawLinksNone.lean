/- The law LinksNone returns true and leaves its arguments as they were. For every input, without conditions. -/
import Derived.Test.YtkffgmpbhahioaaLinks14
import Derived.Test.YtkffgmpbhahioaaAmLaw
namespace Go.Proofs.Ytkffgmpbhahioaa.linksNone
open Go.ChangeShapes Go.WideShapes Go.ChangeAt Go.RowKit
theorem own : ownKnob Try.prog.godebug = none := by kernel_rfl
theorem laidOut : laidOutB Try.prog = true := by kernel_rfl
set_option maxRecDepth 100000 in
theorem lifted (os : Os) (started : os.Started) (H : Type) (enc : TypeId × Value → H) :
    ReturnsInHanded {} Try.checked os 5 .any (Rows.linksNoneSpec.pre6 enc Try.prog Try.f5 Rows.linksNoneRow.domain false) (Rows.linksNoneSpec.post enc Try.prog Try.f5 false true false false) := by
  refine returnsInHanded_of_change (C := Try.checked) own started (by kernel_rfl) Try.func5
    (ChangeSpec.witness6 (enc := enc) (C := Try.checked) false ⟨#[], #[.agg #[.int .u8 0, .int .i64 0, .int .i64 0, .string ⟨#[]⟩, .int .i64 0, .int .i64 0, .int .u8 0]], []⟩ 8 (by kernel_rfl) (by kernel_rfl) (by kernel_rfl) (by kernel_rfl)) ?_
  intro W base args ds gs before hval hW _ _
  refine Am.law_contract (C := Am.TC) (fun _ => rfl) Am.speculumlaw20_LinksNone_ok (d := 12) (tys := _) (by kernel_rfl) Am.LinksNone_law rfl (tb := 4) ?_ (by kernel_rfl) (by kernel_rfl) laidOut (by kernel_rfl) hval hW
  intro ds hd
  match ds, hd with
  | [d1], _ => exact ⟨rfl, rfl, rfl⟩
theorem over : Rows.linksNoneRow.holds Try.pinned (OpenSpec.ofChange Rows.linksNoneSpec) :=
  OpenClaim.holds_of_wide 5 Try.f5 rfl rfl rfl rfl rfl rfl rfl ⟨rfl, rfl, rfl, rfl, rfl⟩ rfl rfl rfl rfl rfl (by kernel_rfl) Try.func5 (by kernel_rfl)
    (of_decide_eq_true (by kernel_rfl)) (by unfold Func.isWrapper; first | (rw [if_pos (by decide +kernel)]; kernel_rfl) | (rw [if_neg (by decide +kernel)]; exact ⟨rfl, rfl⟩))
    (fun os started H enc _ => lifted os started H enc)
theorem proved : Rows.LinksNoneSaid := over
#print axioms proved
end Go.Proofs.Ytkffgmpbhahioaa.linksNone
