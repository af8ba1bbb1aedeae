/- Functions on bits: what runs on given values. -/
import Derived.Test.YtkffgmpbhahioaaBitsCode
namespace Go.Proofs.Ytkffgmpbhahioaa
namespace Am
def bitsTab : Tab := fun f => match f with
  | 29 => some (32, [4], bits_Put_c26)
  | 30 => some (26, [4], speculumref01_Put_c19)
  | 31 => some (9, [4], bits_Left_c3)
  | 32 => some (23, [4], speculumref01_Left_c22)
  | 33 => some (10, [4], bits_Right_c3)
  | 34 => some (10, [4], speculumref01_Right_c3)
  | 35 => some (7, [2], bits_Ones_c3)
  | 36 => some (13, [2], speculumref01_Ones_c15)
  | 37 => some (8, [2], bits_Log_c3)
  | 38 => some (11, [2], speculumref01_Log_c15)
  | 39 => some (55, [0], speculumlaw01_turned_c3)
  | 40 => some (24, [4], bits_Bit_c9)
  | 41 => some (31, [4], speculumref01_Bit_c23)
  | 42 => some (20, [2], bits_Get_c18)
  | 43 => some (23, [2], speculumref01_Get_c17)
  | 48 => some (17, [4], bits_RotateLeft32_c5)
  | 49 => some (8, [2], bits_OnesCount_c6)
  | 50 => some (8, [2], bits_Len_c6)
  | 51 => some (21, [2], bits_OnesCount32_c3)
  | 52 => some (35, [2], bits_OnesCount64_c15)
  | 53 => some (19, [2], bits_Len32_c17)
  | 54 => some (25, [2], bits_Len64_c24)
  | _ => none
theorem bitsTab_ok : ∀ f e, bitsTab f = some e → cFn TC f = some e := by
  intro f e h
  unfold bitsTab at h
  split at h
  · cases h; exact bits_Put_ok
  · cases h; exact speculumref01_Put_ok
  · cases h; exact bits_Left_ok
  · cases h; exact speculumref01_Left_ok
  · cases h; exact bits_Right_ok
  · cases h; exact speculumref01_Right_ok
  · cases h; exact bits_Ones_ok
  · cases h; exact speculumref01_Ones_ok
  · cases h; exact bits_Log_ok
  · cases h; exact speculumref01_Log_ok
  · cases h; exact speculumlaw01_turned_ok
  · cases h; exact bits_Bit_ok
  · cases h; exact speculumref01_Bit_ok
  · cases h; exact bits_Get_ok
  · cases h; exact speculumref01_Get_ok
  · cases h; exact bits_RotateLeft32_ok
  · cases h; exact bits_OnesCount_ok
  · cases h; exact bits_Len_ok
  · cases h; exact bits_OnesCount32_ok
  · cases h; exact bits_OnesCount64_ok
  · cases h; exact bits_Len32_ok
  · cases h; exact bits_Len64_ok
  · cases h
theorem turned_run : runF bitsTab 3000 8 39 [] [] = some (.bool true, []) := by kernel_rfl
end Am
end Go.Proofs.Ytkffgmpbhahioaa
