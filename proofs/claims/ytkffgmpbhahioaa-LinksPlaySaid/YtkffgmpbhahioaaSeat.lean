/- The seat's program, for the abstract machine. -/
import Derived.Test.YtkffgmpbhahioaaAmLend
import Derived.Test.YtkffgmpbhahioaaAmHeap
import Derived.Test.YtkffgmpbhahioaaRows
import Derived.KernelRfl
namespace Go.Proofs.Ytkffgmpbhahioaa
namespace Am
noncomputable def TC : Ctx := ⟨Try.prog, fun _ => none⟩
theorem glok : GlOK TC := fun _ _ h => by cases h
end Am
end Go.Proofs.Ytkffgmpbhahioaa
