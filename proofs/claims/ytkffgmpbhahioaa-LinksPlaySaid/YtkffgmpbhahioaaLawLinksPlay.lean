/- The law LinksPlay returns true and leaves its arguments as they were. For every input, without conditions. -/
import Derived.Test.YtkffgmpbhahioaaLinks17
import Derived.Test.YtkffgmpbhahioaaAmLaw
namespace Go.Proofs.Ytkffgmpbhahioaa.linksPlay
open Go.ChangeShapes Go.WideShapes Go.ChangeAt Go.RowKit
theorem own : ownKnob Try.prog.godebug = none := by kernel_rfl
theorem laidOut : laidOutB Try.prog = true := by kernel_rfl
set_option maxRecDepth 100000 in
theorem lifted (os : Os) (started : os.Started) (H : Type) (enc : TypeId × Value → H) :
    ReturnsInHanded {} Try.checked os 4 .any (Rows.linksPlaySpec.pre6 enc Try.prog Try.f4 Rows.linksPlayRow.domain false) (Rows.linksPlaySpec.post enc Try.prog Try.f4 false true false false) := by
  refine returnsInHanded_of_change (C := Try.checked) own started (by kernel_rfl) Try.func4
    (ChangeSpec.witness6 (enc := enc) (C := Try.checked) false ⟨#[], #[.int .i64 0, .slice none 0 0], []⟩ 8 (by kernel_rfl) (by kernel_rfl) (by kernel_rfl) (by kernel_rfl)) ?_
  intro W base args ds gs before hval hW _ _
  refine Am.law_contract (C := Am.TC) (fun _ => rfl) Am.speculumlaw20_LinksPlay_ok (d := 12) (tys := _) (by kernel_rfl) Am.LinksPlay_law rfl (tb := 4) ?_ (by kernel_rfl) (by kernel_rfl) laidOut (by kernel_rfl) hval hW
  intro ds hd
  match ds, hd with
  | [d1, d2], _ => exact ⟨rfl, rfl, rfl⟩
theorem over : Rows.linksPlayRow.holds Try.pinned (OpenSpec.ofChange Rows.linksPlaySpec) :=
  OpenClaim.holds_of_wide 4 Try.f4 rfl rfl rfl rfl rfl rfl rfl ⟨rfl, rfl, rfl, rfl, rfl⟩ rfl rfl rfl rfl rfl (by kernel_rfl) Try.func4 (by kernel_rfl)
    (of_decide_eq_true (by kernel_rfl)) (by unfold Func.isWrapper; first | (rw [if_pos (by decide +kernel)]; kernel_rfl) | (rw [if_neg (by decide +kernel)]; exact ⟨rfl, rfl⟩))
    (fun os started H enc _ => lifted os started H enc)
theorem proved : Rows.LinksPlaySaid := over
#print axioms proved
end Go.Proofs.Ytkffgmpbhahioaa.linksPlay
