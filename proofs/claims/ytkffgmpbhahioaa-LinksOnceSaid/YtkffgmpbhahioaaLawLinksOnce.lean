/- The law LinksOnce returns true and leaves its arguments as they were. For every input, without conditions. -/
import Derived.Test.YtkffgmpbhahioaaLinks23
import Derived.Test.YtkffgmpbhahioaaAmLaw
namespace Go.Proofs.Ytkffgmpbhahioaa.linksOnce
open Go.ChangeShapes Go.WideShapes Go.ChangeAt Go.RowKit
theorem own : ownKnob Try.prog.godebug = none := by kernel_rfl
theorem laidOut : laidOutB Try.prog = true := by kernel_rfl
set_option maxRecDepth 100000 in
theorem lifted (os : Os) (started : os.Started) (H : Type) (enc : TypeId × Value → H) :
    ReturnsInHanded {} Try.checked os 3 .any (Rows.linksOnceSpec.pre6 enc Try.prog Try.f3 Rows.linksOnceRow.domain false) (Rows.linksOnceSpec.post enc Try.prog Try.f3 false true false false) := by
  refine returnsInHanded_of_change (C := Try.checked) own started (by kernel_rfl) Try.func3
    (ChangeSpec.witness6 (enc := enc) (C := Try.checked) false ⟨#[], #[.slice none 0 0, .slice none 0 0, .int .u8 0], []⟩ 8 (by kernel_rfl) (by kernel_rfl) (by kernel_rfl) (by kernel_rfl)) ?_
  intro W base args ds gs before hval hW _ _
  refine Am.law_contract (C := Am.TC) (fun _ => rfl) Am.speculumlaw20_LinksOnce_ok (d := 12) (tys := _) (by kernel_rfl) Am.LinksOnce_law rfl (tb := 4) ?_ (by kernel_rfl) (by kernel_rfl) laidOut (by kernel_rfl) hval hW
  intro ds hd
  match ds, hd with
  | [d1, d2, d3], _ => exact ⟨rfl, rfl, rfl⟩
theorem over : Rows.linksOnceRow.holds Try.pinned (OpenSpec.ofChange Rows.linksOnceSpec) :=
  OpenClaim.holds_of_wide 3 Try.f3 rfl rfl rfl rfl rfl rfl rfl ⟨rfl, rfl, rfl, rfl, rfl⟩ rfl rfl rfl rfl rfl (by kernel_rfl) Try.func3 (by kernel_rfl)
    (of_decide_eq_true (by kernel_rfl)) (by unfold Func.isWrapper; first | (rw [if_pos (by decide +kernel)]; kernel_rfl) | (rw [if_neg (by decide +kernel)]; exact ⟨rfl, rfl⟩))
    (fun os started H enc _ => lifted os started H enc)
theorem proved : Rows.LinksOnceSaid := over
#print axioms proved
end Go.Proofs.Ytkffgmpbhahioaa.linksOnce
