import Derived.Test.YthgcooppjhcgcaaDoorK52949dfed
import Derived.Test.YthgcooppjhcgcaaDoorK3b0e420df
import Derived.Test.YthgcooppjhcgcaaDoorRows
import Derived.Test.YthgcooppjhcgcaaDoorCards
import Derived.Test.YthgcooppjhcgcaaDoorTie
import Derived.ProofKit
import Derived.LaidMore
import Derived.OpenShut
import Derived.Stop.Joined
import Derived.SevenTiedAt
import Derived.MakeChecks
section
set_option linter.unusedSimpArgs false
set_option linter.unusedVariables false
/- Abstract code. (Printed by wip/gen.) -/
set_option maxRecDepth 10000
namespace Go.Proofs.YthgcooppjhcgcaaDoor
namespace Am



@[go_sem] def speculumlaw10_HeadsTell_r0 : List AIns := [
  ⟨some 3, none, .no, .box (.t 0)⟩,
  ⟨some 4, none, .no, .box (.t 1)⟩,
  ⟨some 5, none, .no, .box (.t 2)⟩,
  ⟨some 6, none, .no, .mv (.v (.bool false))⟩]
@[go_sem] def speculumlaw10_HeadsTell_r1 : List AIns := [
  ⟨some 13, none, .no, .load true 37 (.t 3)⟩,
  ⟨some 14, none, .no, .call (.v (.fn 30 [])) [(.t 13)]⟩,
  ⟨some 15, none, .no, .mv (.t 14)⟩,
  ⟨some 16, some (15, false), .no, .load true 37 (.t 4)⟩,
  ⟨some 17, some (15, false), .no, .call (.v (.fn 30 [])) [(.t 16)]⟩,
  ⟨some 18, none, .no, .pick (.t 15) (.v (.bool true)) (.t 17)⟩]
@[go_sem] def speculumlaw10_HeadsTell_r2 : List AIns := [
  ⟨some 19, none, .no, .call (.v (.fn 31 [])) []⟩,
  ⟨some 6, none, .no, .mv (.t 19)⟩]
def speculumlaw10_HeadsTell_c3 : ACode := .seq (.reg speculumlaw10_HeadsTell_r2) .ret
def speculumlaw10_HeadsTell_c4 : ACode := .cond (.t 18) speculumlaw10_HeadsTell_c3 .skip
def speculumlaw10_HeadsTell_c5 : ACode := .seq (.reg speculumlaw10_HeadsTell_r1) speculumlaw10_HeadsTell_c4
@[go_sem] def speculumlaw10_HeadsTell_r6 : List AIns := [
  ⟨some 20, none, .rd, .load true 37 (.t 3)⟩,
  ⟨some 21, none, .pu, .call (.v (.fn 33 [])) [(.t 20)]⟩,
  ⟨some 22, none, .rd, .load true 37 (.t 4)⟩,
  ⟨some 23, none, .pu, .call (.v (.fn 33 [])) [(.t 22)]⟩,
  ⟨some 7, none, .ef, .alloc [(.int .i64 (0)), (.int .u8 (0)), (.int .u8 (0)), (.int .u8 (0)), (.int .u8 (0)), (.int .u8 (0)), (.int .u8 (0)), (.int .u8 (0)), (.int .u8 (0)), (.int .u8 (0)), (.int .u8 (0)), (.int .u8 (0)), (.int .u8 (0)), (.int .u8 (0)), (.int .u8 (0)), (.int .u8 (0)), (.int .u8 (0)), (.int .u8 (0)), (.int .u8 (0)), (.int .u8 (0)), (.int .u8 (0)), (.int .u8 (0)), (.int .u8 (0)), (.int .u8 (0)), (.int .u8 (0)), (.int .u8 (0)), (.int .u8 (0)), (.int .u8 (0)), (.int .u8 (0)), (.int .u8 (0)), (.int .u8 (0)), (.int .u8 (0)), (.int .u8 (0)), (.int .i64 (0)), (.str []), .nilsl]⟩,
  ⟨some 8, none, .ef, .alloc [(.int .i64 (0)), (.int .u8 (0)), (.int .u8 (0)), (.int .u8 (0)), (.int .u8 (0)), (.int .u8 (0)), (.int .u8 (0)), (.int .u8 (0)), (.int .u8 (0)), (.int .u8 (0)), (.int .u8 (0)), (.int .u8 (0)), (.int .u8 (0)), (.int .u8 (0)), (.int .u8 (0)), (.int .u8 (0)), (.int .u8 (0)), (.int .u8 (0)), (.int .u8 (0)), (.int .u8 (0)), (.int .u8 (0)), (.int .u8 (0)), (.int .u8 (0)), (.int .u8 (0)), (.int .u8 (0)), (.int .u8 (0)), (.int .u8 (0)), (.int .u8 (0)), (.int .u8 (0)), (.int .u8 (0)), (.int .u8 (0)), (.int .u8 (0)), (.int .u8 (0)), (.int .i64 (0)), (.str []), .nilsl]⟩,
  ⟨none, none, .no, .store 36 (.t 7) (.t 21)⟩,
  ⟨none, none, .no, .store 36 (.t 8) (.t 23)⟩]
@[go_sem] def speculumlaw10_HeadsTell_r7 : List AIns := [
  ⟨some 4, none, .pu, .stuck⟩,
  ⟨some 8, none, .ef, .alloc [(.int .i64 (0)), (.int .u8 (0)), (.int .u8 (0)), (.int .u8 (0)), (.int .u8 (0)), (.int .u8 (0)), (.int .u8 (0)), (.int .u8 (0)), (.int .u8 (0)), (.int .u8 (0)), (.int .u8 (0)), (.int .u8 (0)), (.int .u8 (0)), (.int .u8 (0)), (.int .u8 (0)), (.int .u8 (0)), (.int .u8 (0)), (.int .u8 (0)), (.int .u8 (0)), (.int .u8 (0)), (.int .u8 (0)), (.int .u8 (0)), (.int .u8 (0)), (.int .u8 (0)), (.int .u8 (0)), (.int .u8 (0)), (.int .u8 (0)), (.int .u8 (0)), (.int .u8 (0)), (.int .u8 (0)), (.int .u8 (0)), (.int .u8 (0)), (.int .u8 (0)), (.int .i64 (0)), (.str []), .nilsl]⟩,
  ⟨some 7, none, .ef, .alloc [(.int .i64 (0)), (.int .u8 (0)), (.int .u8 (0)), (.int .u8 (0)), (.int .u8 (0)), (.int .u8 (0)), (.int .u8 (0)), (.int .u8 (0)), (.int .u8 (0)), (.int .u8 (0)), (.int .u8 (0)), (.int .u8 (0)), (.int .u8 (0)), (.int .u8 (0)), (.int .u8 (0)), (.int .u8 (0)), (.int .u8 (0)), (.int .u8 (0)), (.int .u8 (0)), (.int .u8 (0)), (.int .u8 (0)), (.int .u8 (0)), (.int .u8 (0)), (.int .u8 (0)), (.int .u8 (0)), (.int .u8 (0)), (.int .u8 (0)), (.int .u8 (0)), (.int .u8 (0)), (.int .u8 (0)), (.int .u8 (0)), (.int .u8 (0)), (.int .u8 (0)), (.int .i64 (0)), (.str []), .nilsl]⟩,
  ⟨none, none, .no, .store 36 (.t 7) (.t 21)⟩,
  ⟨none, none, .no, .store 36 (.t 8) (.t 23)⟩]
@[go_sem] def speculumlaw10_HeadsTell_r8 : List AIns := [
  ⟨some 25, none, .no, .load true 36 (.t 7)⟩,
  ⟨some 26, none, .no, .call (.v (.fn 37 [])) [(.t 25)]⟩,
  ⟨some 24, none, .no, .mv (.t 26)⟩,
  ⟨some 27, none, .no, .ext 0 (.t 24)⟩,
  ⟨some 28, none, .no, .ext 1 (.t 24)⟩,
  ⟨some 9, none, .no, .mv (.t 27)⟩,
  ⟨some 10, none, .no, .mv (.t 28)⟩]
@[go_sem] def speculumlaw10_HeadsTell_r9 : List AIns := [
  ⟨some 30, none, .no, .load true 36 (.t 7)⟩,
  ⟨some 31, none, .no, .call (.v (.fn 32 [])) [(.t 30)]⟩,
  ⟨some 29, none, .no, .mv (.t 31)⟩,
  ⟨some 32, none, .no, .ext 0 (.t 29)⟩,
  ⟨some 33, none, .no, .ext 1 (.t 29)⟩,
  ⟨some 11, none, .no, .mv (.t 32)⟩,
  ⟨some 12, none, .no, .mv (.t 33)⟩]
@[go_sem] def speculumlaw10_HeadsTell_r10 : List AIns := [
  ⟨some 34, none, .no, .mv (.t 9)⟩,
  ⟨some 35, none, .no, .mv (.t 11)⟩,
  ⟨some 36, none, .no, .bin .neq .none (.t 34) (.t 35)⟩,
  ⟨some 37, none, .no, .mv (.t 36)⟩,
  ⟨some 38, some (37, false), .no, .mv (.t 10)⟩,
  ⟨some 39, some (37, false), .no, .mv (.t 12)⟩,
  ⟨some 40, some (37, false), .no, .bin .neq .none (.t 38) (.t 39)⟩,
  ⟨some 41, none, .no, .pick (.t 37) (.v (.bool true)) (.t 40)⟩,
  ⟨some 42, none, .no, .mv (.t 41)⟩,
  ⟨some 43, some (42, false), .no, .fa 0 (.t 7)⟩,
  ⟨some 44, some (42, false), .rd, .load true 33 (.t 43)⟩,
  ⟨some 45, some (42, false), .ef, .call (.v (.fn 49 [])) [(.t 44)]⟩,
  ⟨some 46, some (42, false), .no, .fa 0 (.t 7)⟩,
  ⟨some 47, some (42, false), .rd, .load true 33 (.t 46)⟩,
  ⟨some 48, some (42, false), .no, .call (.v (.fn 50 [])) [(.t 47)]⟩,
  ⟨some 49, some (42, false), .no, .bin .neq (.agg (List.replicate 32 (.i .u8) ++ [])) (.t 45) (.t 48)⟩,
  ⟨some 50, none, .no, .pick (.t 42) (.v (.bool true)) (.t 49)⟩,
  ⟨some 51, none, .no, .mv (.t 50)⟩,
  ⟨some 52, some (51, false), .rd, .load true 36 (.t 7)⟩,
  ⟨some 53, some (51, false), .ef, .call (.v (.fn 38 [])) [(.t 52)]⟩,
  ⟨some 54, some (51, false), .rd, .load true 36 (.t 7)⟩,
  ⟨some 55, some (51, false), .no, .call (.v (.fn 51 [])) [(.t 54)]⟩,
  ⟨some 56, some (51, false), .no, .bin .neq .bool (.t 53) (.t 55)⟩,
  ⟨some 57, none, .no, .pick (.t 51) (.v (.bool true)) (.t 56)⟩,
  ⟨some 58, none, .no, .mv (.t 57)⟩,
  ⟨some 59, some (58, false), .rd, .load true 32 (.t 5)⟩,
  ⟨some 60, some (58, false), .rd, .load true 36 (.t 7)⟩,
  ⟨some 61, some (58, false), .ef, .call (.v (.fn 52 [])) [(.t 59), (.t 60)]⟩,
  ⟨some 62, some (58, false), .rd, .load true 32 (.t 5)⟩,
  ⟨some 63, some (58, false), .rd, .load true 36 (.t 7)⟩,
  ⟨some 64, some (58, false), .no, .call (.v (.fn 53 [])) [(.t 62), (.t 63)]⟩,
  ⟨some 65, some (58, false), .no, .bin .neq .none (.t 61) (.t 64)⟩,
  ⟨some 66, none, .no, .pick (.t 58) (.v (.bool true)) (.t 65)⟩]
@[go_sem] def speculumlaw10_HeadsTell_r11 : List AIns := [
  ⟨some 6, none, .no, .mv (.v (.bool false))⟩]
def speculumlaw10_HeadsTell_c12 : ACode := .seq (.reg speculumlaw10_HeadsTell_r11) .ret
def speculumlaw10_HeadsTell_c13 : ACode := .cond (.t 66) speculumlaw10_HeadsTell_c12 .skip
def speculumlaw10_HeadsTell_c14 : ACode := .seq (.reg speculumlaw10_HeadsTell_r10) speculumlaw10_HeadsTell_c13
@[go_sem] def speculumlaw10_HeadsTell_r15 : List AIns := [
  ⟨some 67, none, .no, .fa 0 (.t 7)⟩,
  ⟨some 68, none, .rd, .load true 33 (.t 67)⟩,
  ⟨some 69, none, .no, .fa 0 (.t 8)⟩,
  ⟨some 70, none, .rd, .load true 33 (.t 69)⟩,
  ⟨some 71, none, .ef, .call (.v (.fn 54 [])) [(.t 68), (.t 70)]⟩,
  ⟨some 72, none, .no, .fa 0 (.t 7)⟩,
  ⟨some 73, none, .rd, .load true 33 (.t 72)⟩,
  ⟨some 74, none, .no, .fa 0 (.t 8)⟩,
  ⟨some 75, none, .rd, .load true 33 (.t 74)⟩,
  ⟨some 76, none, .no, .call (.v (.fn 55 [])) [(.t 73), (.t 75)]⟩,
  ⟨some 77, none, .no, .bin .eql .none (.t 71) (.t 76)⟩,
  ⟨some 78, none, .no, .mv (.t 77)⟩,
  ⟨some 79, some (78, true), .rd, .load true 36 (.t 7)⟩,
  ⟨some 80, some (78, true), .rd, .load true 36 (.t 8)⟩,
  ⟨some 81, some (78, true), .ef, .call (.v (.fn 56 [])) [(.t 79), (.t 80)]⟩,
  ⟨some 82, some (78, true), .rd, .load true 36 (.t 7)⟩,
  ⟨some 83, some (78, true), .rd, .load true 36 (.t 8)⟩,
  ⟨some 84, some (78, true), .no, .call (.v (.fn 57 [])) [(.t 82), (.t 83)]⟩,
  ⟨some 85, some (78, true), .no, .bin .eql .bool (.t 81) (.t 84)⟩,
  ⟨some 86, none, .no, .pick (.t 78) (.t 85) (.v (.bool false))⟩,
  ⟨some 87, none, .no, .mv (.t 86)⟩,
  ⟨some 88, some (87, true), .rd, .load true 36 (.t 7)⟩,
  ⟨some 89, some (87, true), .rd, .load true 36 (.t 7)⟩,
  ⟨some 90, some (87, true), .no, .call (.v (.fn 56 [])) [(.t 88), (.t 89)]⟩,
  ⟨some 91, none, .no, .pick (.t 87) (.t 90) (.v (.bool false))⟩,
  ⟨some 92, none, .no, .mv (.t 91)⟩,
  ⟨some 93, some (92, true), .no, .call (.v (.fn 31 [])) []⟩,
  ⟨some 94, none, .no, .pick (.t 92) (.t 93) (.v (.bool false))⟩,
  ⟨some 6, none, .no, .mv (.t 94)⟩]
def speculumlaw10_HeadsTell_c16 : ACode := .seq (.reg speculumlaw10_HeadsTell_r15) .ret
def speculumlaw10_HeadsTell_c17 : ACode := .seq speculumlaw10_HeadsTell_c14 speculumlaw10_HeadsTell_c16
def speculumlaw10_HeadsTell_c18 : ACode := .seq (.reg speculumlaw10_HeadsTell_r9) speculumlaw10_HeadsTell_c17
def speculumlaw10_HeadsTell_c19 : ACode := .seq (.reg speculumlaw10_HeadsTell_r8) speculumlaw10_HeadsTell_c18
def speculumlaw10_HeadsTell_c20 : ACode := .seq (.reg2 speculumlaw10_HeadsTell_r6 speculumlaw10_HeadsTell_r7) speculumlaw10_HeadsTell_c19
def speculumlaw10_HeadsTell_c21 : ACode := .seq speculumlaw10_HeadsTell_c5 speculumlaw10_HeadsTell_c20
def speculumlaw10_HeadsTell_c22 : ACode := .seq (.reg speculumlaw10_HeadsTell_r0) speculumlaw10_HeadsTell_c21
theorem speculumlaw10_HeadsTell_ok : cFn TC 10 = some (95, [.t 6], speculumlaw10_HeadsTell_c22) := by kernel_rfl

@[go_sem] def speculumref10_Digest_r0 : List AIns := [
  ⟨some 1, none, .no, .box (.t 0)⟩,
  ⟨some 2, none, .no, .alloc [(.int .u8 (0)), (.int .u8 (0)), (.int .u8 (0)), (.int .u8 (0)), (.int .u8 (0)), (.int .u8 (0)), (.int .u8 (0)), (.int .u8 (0)), (.int .u8 (0)), (.int .u8 (0)), (.int .u8 (0)), (.int .u8 (0)), (.int .u8 (0)), (.int .u8 (0)), (.int .u8 (0)), (.int .u8 (0)), (.int .u8 (0)), (.int .u8 (0)), (.int .u8 (0)), (.int .u8 (0)), (.int .u8 (0)), (.int .u8 (0)), (.int .u8 (0)), (.int .u8 (0)), (.int .u8 (0)), (.int .u8 (0)), (.int .u8 (0)), (.int .u8 (0)), (.int .u8 (0)), (.int .u8 (0)), (.int .u8 (0)), (.int .u8 (0))]⟩]
@[go_sem] def speculumref10_Digest_r1 : List AIns := [
  ⟨some 3, none, .no, .fa 0 (.t 1)⟩,
  ⟨some 4, none, .rd, .load false 1 (.t 3)⟩,
  ⟨some 5, none, .no, .conv (.int .u64) (.t 4)⟩,
  ⟨some 6, none, .ef, .call (.v (.fn 128 [])) [(.t 5), (.v (.int .i64 (8)))]⟩,
  ⟨some 7, none, .no, .bin .add .none (.v (.str [5])) (.t 6)⟩,
  ⟨some 8, none, .no, .fa 1 (.t 1)⟩,
  ⟨some 9, none, .rd, .load true 32 (.t 8)⟩,
  ⟨some 10, none, .no, .call (.v (.fn 99 [])) [(.t 9)]⟩,
  ⟨some 11, none, .no, .bin .add .none (.t 7) (.t 10)⟩,
  ⟨some 12, none, .no, .call (.v (.fn 88 [])) [(.t 11)]⟩,
  ⟨none, none, .no, .store 32 (.t 2) (.t 12)⟩]
def speculumref10_Digest_c2 : ACode := .seq (.reg speculumref10_Digest_r1) .ret
def speculumref10_Digest_c3 : ACode := .seq (.reg speculumref10_Digest_r0) speculumref10_Digest_c2
theorem speculumref10_Digest_ok : cFn TC 50 = some (13, [.c 2 true 32], speculumref10_Digest_c3) := by kernel_rfl

@[go_sem] def speculumref10_Check_r0 : List AIns := [
  ⟨some 2, none, .no, .box (.t 0)⟩,
  ⟨some 3, none, .no, .box (.t 1)⟩,
  ⟨some 4, none, .no, .mv (.v (.int .i64 (0)))⟩]
@[go_sem] def speculumref10_Check_r1 : List AIns := [
  ⟨some 5, none, .no, .load true 36 (.t 3)⟩,
  ⟨some 6, none, .no, .call (.v (.fn 51 [])) [(.t 5)]⟩,
  ⟨some 7, none, .no, .un .not (.t 6)⟩]
@[go_sem] def speculumref10_Check_r2 : List AIns := [
  ⟨some 4, none, .no, .mv (.v (.int .i64 (2)))⟩]
def speculumref10_Check_c3 : ACode := .seq (.reg speculumref10_Check_r2) .ret
def speculumref10_Check_c4 : ACode := .cond (.t 7) speculumref10_Check_c3 .skip
def speculumref10_Check_c5 : ACode := .seq (.reg speculumref10_Check_r1) speculumref10_Check_c4
@[go_sem] def speculumref10_Check_r6 : List AIns := [
  ⟨some 8, none, .rd, .load true 32 (.t 2)⟩,
  ⟨some 9, none, .no, .fa 0 (.t 3)⟩,
  ⟨some 10, none, .rd, .load true 33 (.t 9)⟩,
  ⟨some 11, none, .ef, .call (.v (.fn 50 [])) [(.t 10)]⟩,
  ⟨some 12, none, .no, .fa 33 (.t 3)⟩,
  ⟨some 13, none, .rd, .load true 3 (.t 12)⟩,
  ⟨some 14, none, .no, .call (.v (.fn 48 [])) [(.t 8), (.t 11), (.t 13)]⟩,
  ⟨some 15, none, .no, .bin .neq .none (.t 14) (.v (.int .i64 (0)))⟩]
@[go_sem] def speculumref10_Check_r7 : List AIns := [
  ⟨some 4, none, .no, .mv (.v (.int .i64 (81)))⟩]
def speculumref10_Check_c8 : ACode := .seq (.reg speculumref10_Check_r7) .ret
def speculumref10_Check_c9 : ACode := .cond (.t 15) speculumref10_Check_c8 .skip
def speculumref10_Check_c10 : ACode := .seq (.reg speculumref10_Check_r6) speculumref10_Check_c9
@[go_sem] def speculumref10_Check_r11 : List AIns := [
  ⟨some 4, none, .no, .mv (.v (.int .i64 (0)))⟩]
def speculumref10_Check_c12 : ACode := .seq (.reg speculumref10_Check_r11) .ret
def speculumref10_Check_c13 : ACode := .seq speculumref10_Check_c10 speculumref10_Check_c12
def speculumref10_Check_c14 : ACode := .seq speculumref10_Check_c5 speculumref10_Check_c13
def speculumref10_Check_c15 : ACode := .seq (.reg speculumref10_Check_r0) speculumref10_Check_c14
theorem speculumref10_Check_ok : cFn TC 53 = some (16, [.t 4], speculumref10_Check_c15) := by kernel_rfl

@[go_sem] def speculumref10_Order_r0 : List AIns := [
  ⟨some 2, none, .no, .box (.t 0)⟩,
  ⟨some 3, none, .no, .box (.t 1)⟩,
  ⟨some 4, none, .no, .mv (.v (.int .i64 (0)))⟩]
@[go_sem] def speculumref10_Order_r1 : List AIns := [
  ⟨some 5, none, .no, .fa 0 (.t 2)⟩,
  ⟨some 6, none, .no, .load false 1 (.t 5)⟩,
  ⟨some 7, none, .no, .fa 0 (.t 3)⟩,
  ⟨some 8, none, .no, .load false 1 (.t 7)⟩,
  ⟨some 9, none, .no, .bin .neq .none (.t 6) (.t 8)⟩]
@[go_sem] def speculumref10_Order_r2 : List AIns := [
  ⟨some 10, none, .no, .fa 0 (.t 2)⟩,
  ⟨some 11, none, .no, .load false 1 (.t 10)⟩,
  ⟨some 12, none, .no, .fa 0 (.t 3)⟩,
  ⟨some 13, none, .no, .load false 1 (.t 12)⟩,
  ⟨some 14, none, .no, .bin .lss .none (.t 11) (.t 13)⟩]
@[go_sem] def speculumref10_Order_r3 : List AIns := [
  ⟨some 4, none, .no, .mv (.v (.int .i64 (0)))⟩]
def speculumref10_Order_c4 : ACode := .seq (.reg speculumref10_Order_r3) .ret
def speculumref10_Order_c5 : ACode := .cond (.t 14) speculumref10_Order_c4 .skip
def speculumref10_Order_c6 : ACode := .seq (.reg speculumref10_Order_r2) speculumref10_Order_c5
@[go_sem] def speculumref10_Order_r7 : List AIns := [
  ⟨some 4, none, .no, .mv (.v (.int .i64 (2)))⟩]
def speculumref10_Order_c8 : ACode := .seq (.reg speculumref10_Order_r7) .ret
def speculumref10_Order_c9 : ACode := .seq speculumref10_Order_c6 speculumref10_Order_c8
def speculumref10_Order_c10 : ACode := .cond (.t 9) speculumref10_Order_c9 .skip
def speculumref10_Order_c11 : ACode := .seq (.reg speculumref10_Order_r1) speculumref10_Order_c10
@[go_sem] def speculumref10_Order_r12 : List AIns := [
  ⟨some 15, none, .no, .fa 1 (.t 2)⟩,
  ⟨some 16, none, .no, .load true 32 (.t 15)⟩,
  ⟨some 17, none, .no, .fa 1 (.t 3)⟩,
  ⟨some 18, none, .no, .load true 32 (.t 17)⟩,
  ⟨some 19, none, .no, .bin .neq (.agg (List.replicate 32 (.i .u8) ++ [])) (.t 16) (.t 18)⟩]
@[go_sem] def speculumref10_Order_r13 : List AIns := [
  ⟨some 4, none, .no, .mv (.v (.int .i64 (3)))⟩]
def speculumref10_Order_c14 : ACode := .seq (.reg speculumref10_Order_r13) .ret
def speculumref10_Order_c15 : ACode := .cond (.t 19) speculumref10_Order_c14 .skip
def speculumref10_Order_c16 : ACode := .seq (.reg speculumref10_Order_r12) speculumref10_Order_c15
@[go_sem] def speculumref10_Order_r17 : List AIns := [
  ⟨some 4, none, .no, .mv (.v (.int .i64 (1)))⟩]
def speculumref10_Order_c18 : ACode := .seq (.reg speculumref10_Order_r17) .ret
def speculumref10_Order_c19 : ACode := .seq speculumref10_Order_c16 speculumref10_Order_c18
def speculumref10_Order_c20 : ACode := .seq speculumref10_Order_c11 speculumref10_Order_c19
def speculumref10_Order_c21 : ACode := .seq (.reg speculumref10_Order_r0) speculumref10_Order_c20
theorem speculumref10_Order_ok : cFn TC 55 = some (20, [.t 4], speculumref10_Order_c21) := by kernel_rfl

@[go_sem] def heads_Same_r0 : List AIns := [
  ⟨some 2, none, .no, .box (.t 0)⟩,
  ⟨some 3, none, .no, .box (.t 1)⟩,
  ⟨some 4, none, .no, .mv (.v (.bool false))⟩]
@[go_sem] def heads_Same_r1 : List AIns := [
  ⟨some 5, none, .no, .fa 0 (.t 2)⟩,
  ⟨some 6, none, .no, .load true 33 (.t 5)⟩,
  ⟨some 7, none, .no, .fa 0 (.t 3)⟩,
  ⟨some 8, none, .no, .load true 33 (.t 7)⟩,
  ⟨some 9, none, .no, .bin .eql (.agg ([(.i .i64)] ++ (List.replicate 32 (.i .u8) ++ []))) (.t 6) (.t 8)⟩,
  ⟨some 10, none, .no, .mv (.t 9)⟩,
  ⟨some 11, some (10, true), .no, .fa 33 (.t 2)⟩,
  ⟨some 12, some (10, true), .no, .fa 0 (.t 11)⟩,
  ⟨some 13, some (10, true), .no, .load false 1 (.t 12)⟩,
  ⟨some 14, some (10, true), .no, .fa 33 (.t 3)⟩,
  ⟨some 15, some (10, true), .no, .fa 0 (.t 14)⟩,
  ⟨some 16, some (10, true), .no, .load false 1 (.t 15)⟩,
  ⟨some 17, some (10, true), .no, .bin .eql .none (.t 13) (.t 16)⟩,
  ⟨some 18, none, .no, .pick (.t 10) (.t 17) (.v (.bool false))⟩,
  ⟨some 19, none, .no, .mv (.t 18)⟩,
  ⟨some 20, some (19, true), .no, .fa 33 (.t 2)⟩,
  ⟨some 21, some (19, true), .no, .fa 1 (.t 20)⟩,
  ⟨some 22, some (19, true), .no, .load false 1 (.t 21)⟩,
  ⟨some 23, some (19, true), .no, .fa 33 (.t 3)⟩,
  ⟨some 24, some (19, true), .no, .fa 1 (.t 23)⟩,
  ⟨some 25, some (19, true), .no, .load false 1 (.t 24)⟩,
  ⟨some 26, some (19, true), .no, .bin .eql .none (.t 22) (.t 25)⟩,
  ⟨some 27, none, .no, .pick (.t 19) (.t 26) (.v (.bool false))⟩,
  ⟨some 28, none, .no, .mv (.t 27)⟩,
  ⟨some 29, some (28, true), .no, .fa 33 (.t 2)⟩,
  ⟨some 30, some (28, true), .no, .fa 2 (.t 29)⟩,
  ⟨some 31, some (28, true), .no, .load false 1 (.t 30)⟩,
  ⟨some 32, some (28, true), .no, .fa 33 (.t 3)⟩,
  ⟨some 33, some (28, true), .no, .fa 2 (.t 32)⟩,
  ⟨some 34, some (28, true), .no, .load false 1 (.t 33)⟩,
  ⟨some 35, some (28, true), .no, .call (.v (.fn 94 [])) [(.t 31), (.t 34)]⟩,
  ⟨some 36, none, .no, .pick (.t 28) (.t 35) (.v (.bool false))⟩,
  ⟨some 4, none, .no, .mv (.t 36)⟩]
def heads_Same_c2 : ACode := .seq (.reg heads_Same_r1) .ret
def heads_Same_c3 : ACode := .seq (.reg heads_Same_r0) heads_Same_c2
theorem heads_Same_ok : cFn TC 56 = some (37, [.t 4], heads_Same_c3) := by kernel_rfl

@[go_sem] def speculumref10_Same_r0 : List AIns := [
  ⟨some 2, none, .no, .box (.t 0)⟩,
  ⟨some 3, none, .no, .box (.t 1)⟩,
  ⟨some 4, none, .no, .mv (.v (.bool false))⟩]
@[go_sem] def speculumref10_Same_r1 : List AIns := [
  ⟨some 6, none, .no, .fa 0 (.t 2)⟩,
  ⟨some 7, none, .no, .load true 33 (.t 6)⟩,
  ⟨some 8, none, .no, .fa 0 (.t 3)⟩,
  ⟨some 9, none, .no, .load true 33 (.t 8)⟩,
  ⟨some 10, none, .no, .bin .neq (.agg ([(.i .i64)] ++ (List.replicate 32 (.i .u8) ++ []))) (.t 7) (.t 9)⟩,
  ⟨some 11, none, .no, .mv (.t 10)⟩,
  ⟨some 12, some (11, false), .no, .fa 33 (.t 2)⟩,
  ⟨some 13, some (11, false), .no, .fa 0 (.t 12)⟩,
  ⟨some 14, some (11, false), .no, .load false 1 (.t 13)⟩,
  ⟨some 15, some (11, false), .no, .fa 33 (.t 3)⟩,
  ⟨some 16, some (11, false), .no, .fa 0 (.t 15)⟩,
  ⟨some 17, some (11, false), .no, .load false 1 (.t 16)⟩,
  ⟨some 18, some (11, false), .no, .bin .neq .none (.t 14) (.t 17)⟩,
  ⟨some 19, none, .no, .pick (.t 11) (.v (.bool true)) (.t 18)⟩,
  ⟨some 20, none, .no, .mv (.t 19)⟩,
  ⟨some 21, some (20, false), .no, .fa 33 (.t 2)⟩,
  ⟨some 22, some (20, false), .no, .fa 1 (.t 21)⟩,
  ⟨some 23, some (20, false), .no, .load false 1 (.t 22)⟩,
  ⟨some 24, some (20, false), .no, .fa 33 (.t 3)⟩,
  ⟨some 25, some (20, false), .no, .fa 1 (.t 24)⟩,
  ⟨some 26, some (20, false), .no, .load false 1 (.t 25)⟩,
  ⟨some 27, some (20, false), .no, .bin .neq .none (.t 23) (.t 26)⟩,
  ⟨some 28, none, .no, .pick (.t 20) (.v (.bool true)) (.t 27)⟩,
  ⟨some 29, none, .no, .mv (.t 28)⟩,
  ⟨some 30, some (29, false), .no, .fa 33 (.t 2)⟩,
  ⟨some 31, some (29, false), .no, .fa 2 (.t 30)⟩,
  ⟨some 32, some (29, false), .no, .load false 1 (.t 31)⟩,
  ⟨some 33, some (29, false), .no, .lenSl (.t 32)⟩,
  ⟨some 34, some (29, false), .no, .fa 33 (.t 3)⟩,
  ⟨some 35, some (29, false), .no, .fa 2 (.t 34)⟩,
  ⟨some 36, some (29, false), .no, .load false 1 (.t 35)⟩,
  ⟨some 37, some (29, false), .no, .lenSl (.t 36)⟩,
  ⟨some 38, some (29, false), .no, .bin .neq .none (.t 33) (.t 37)⟩,
  ⟨some 39, none, .no, .pick (.t 29) (.v (.bool true)) (.t 38)⟩]
@[go_sem] def speculumref10_Same_r2 : List AIns := [
  ⟨some 4, none, .no, .mv (.v (.bool false))⟩]
def speculumref10_Same_c3 : ACode := .seq (.reg speculumref10_Same_r2) .ret
def speculumref10_Same_c4 : ACode := .cond (.t 39) speculumref10_Same_c3 .skip
def speculumref10_Same_c5 : ACode := .seq (.reg speculumref10_Same_r1) speculumref10_Same_c4
@[go_sem] def speculumref10_Same_r6 : List AIns := [
  ⟨some 5, none, .no, .mv (.v (.int .i64 (0)))⟩]
@[go_sem] def speculumref10_Same_r7 : List AIns := [
  ⟨some 40, none, .no, .mv (.t 5)⟩,
  ⟨some 41, none, .no, .fa 33 (.t 2)⟩,
  ⟨some 42, none, .no, .fa 2 (.t 41)⟩,
  ⟨some 43, none, .no, .load false 1 (.t 42)⟩,
  ⟨some 44, none, .no, .lenSl (.t 43)⟩,
  ⟨some 45, none, .no, .bin .lss .none (.t 40) (.t 44)⟩]
def speculumref10_Same_c8 : ACode := .cond (.t 45) .skip (.exit 0)
def speculumref10_Same_c9 : ACode := .seq (.reg speculumref10_Same_r7) speculumref10_Same_c8
@[go_sem] def speculumref10_Same_r10 : List AIns := [
  ⟨some 48, none, .no, .fa 33 (.t 2)⟩,
  ⟨some 49, none, .no, .fa 2 (.t 48)⟩,
  ⟨some 50, none, .rd, .load false 1 (.t 49)⟩,
  ⟨some 51, none, .no, .mv (.t 5)⟩,
  ⟨some 52, none, .no, .iaSl 32 (.t 50) (.t 51)⟩,
  ⟨some 53, none, .rd, .load true 32 (.t 52)⟩,
  ⟨some 54, none, .no, .fa 33 (.t 3)⟩,
  ⟨some 55, none, .no, .fa 2 (.t 54)⟩,
  ⟨some 56, none, .rd, .load false 1 (.t 55)⟩,
  ⟨some 57, none, .no, .mv (.t 5)⟩,
  ⟨some 58, none, .no, .iaSl 32 (.t 56) (.t 57)⟩,
  ⟨some 59, none, .rd, .load true 32 (.t 58)⟩,
  ⟨some 60, none, .no, .bin .neq (.agg (List.replicate 32 (.i .u8) ++ [])) (.t 53) (.t 59)⟩]
@[go_sem] def speculumref10_Same_r11 : List AIns := [
  ⟨some 4, none, .no, .mv (.v (.bool false))⟩]
def speculumref10_Same_c12 : ACode := .seq (.reg speculumref10_Same_r11) .ret
def speculumref10_Same_c13 : ACode := .cond (.t 60) speculumref10_Same_c12 .skip
def speculumref10_Same_c14 : ACode := .seq (.reg speculumref10_Same_r10) speculumref10_Same_c13
@[go_sem] def speculumref10_Same_r15 : List AIns := [
  ⟨some 46, none, .no, .mv (.t 5)⟩,
  ⟨some 47, none, .no, .bin .add .none (.t 46) (.v (.int .i64 (1)))⟩,
  ⟨some 5, none, .no, .mv (.t 47)⟩]
def speculumref10_Same_c16 : ACode := .seq (.block 1 speculumref10_Same_c14) (.reg speculumref10_Same_r15)
def speculumref10_Same_c17 : ACode := .seq speculumref10_Same_c9 speculumref10_Same_c16
def speculumref10_Same_c18 : ACode := .loop speculumref10_Same_c17
def speculumref10_Same_c19 : ACode := .block 0 speculumref10_Same_c18
def speculumref10_Same_c20 : ACode := .seq (.reg speculumref10_Same_r6) speculumref10_Same_c19
@[go_sem] def speculumref10_Same_r21 : List AIns := [
  ⟨some 4, none, .no, .mv (.v (.bool true))⟩]
def speculumref10_Same_c22 : ACode := .seq (.reg speculumref10_Same_r21) .ret
def speculumref10_Same_c23 : ACode := .seq speculumref10_Same_c20 speculumref10_Same_c22
def speculumref10_Same_c24 : ACode := .seq speculumref10_Same_c5 speculumref10_Same_c23
def speculumref10_Same_c25 : ACode := .seq (.reg speculumref10_Same_r0) speculumref10_Same_c24
theorem speculumref10_Same_ok : cFn TC 57 = some (61, [.t 4], speculumref10_Same_c25) := by kernel_rfl
end Am
end Go.Proofs.YthgcooppjhcgcaaDoor
end
section
set_option linter.unusedSimpArgs false
set_option linter.unusedVariables false
/- Heads: contracts: Digest, Check. -/
namespace Go.Proofs.YthgcooppjhcgcaaDoor
namespace Am
def digH (n : Int) (r : Hash) : Hash := shaH (5 :: (putS (n % 18446744073709551616) 8 ++ r.1))
/-- What Check answers. -/
def hchkI (key : Hash) (n i : Int) (r : Hash) (s : List UInt8) (l : List Hash) : Int :=
  if validB n i s l = false then 2 else if verI key (digH n r) i s l = 0 then 0 else 81
theorem ref_Hash_h (σ : Store) (h : Hash) : ACallsTo TC 99 [.agg (hc h)] σ (.str h.1) σ := ref_Hash_to σ h.1 h.2
attribute [local irreducible] ACallsTo ACallsP
theorem Digest_to (σ : Store) (n : Int) (r : Hash) : ACallsTo TC 49 [.agg (.int .i64 n :: hc r)] σ (.agg (hc (digH n r))) σ := by
  have hP := fun σ => bits_Put_to σ (n % 18446744073709551616) 8 (by omega) (by omega)
  have hl := putS_len (n % 18446744073709551616) 8
  have hH := fun σ => codec_Hash_h σ r
  have h32 := r.2
  have hS := fun σ => sha_Sum_h σ (5 :: (putS (n % 18446744073709551616) 8 ++ r.1)) (by simp; omega)
  unfold digH
  generalize putS (n % 18446744073709551616) 8 = p at *
  refine ACallsTo.of_body heads_Digest_ok (by simp) fun hw _ => ?_
  repeat' (first | refine SWp.seq ?_ | refine SWp.block ?_ | refine SWp.scope ?_ | refine SWp.condT rfl ?_ | refine SWp.condF rfl ?_ | (refine SWp.condD rfl (fun ht => ?_) (fun ht => ?_) <;> try (exfalso; omega)) | ((first | refine SWp.reg ?_ | refine SWp.skip ?_ | refine SWp.exit ?_ | refine SWp.ret ?_ | (apply callW.mk_pu; (first | exact (fun _ => hP _) | exact (fun _ => hH _) | exact (fun _ => hS _))) | (apply callW.any; (first | exact (hP _) | exact (hH _) | exact (hS _))) | ((first | apply splitG | apply splitGB | apply splitR | apply splitRB | apply splitE | apply splitEB | apply splitC | apply splitCB) <;> intro ht)); all_goals try simp (disch := first | omega | (simp only [lens, hc_len, hr_len, List.length_reverse]; first | done | omega)) only [go_sem, Nat.reduceEqDiff, Nat.reduceBEq, Nat.reduceAdd, Nat.reduceMul, Nat.reduceSub, Nat.reduceLeDiff, Int.reduceToNat, Int.reducePow, h32]))
  exact DownV.pure hw (rl_agg_hc _)
theorem refDigest_to (σ : Store) (n : Int) (r : Hash) : ACallsTo TC 50 [.agg (.int .i64 n :: hc r)] σ (.agg (hc (digH n r))) σ := by
  have hP := fun σ => speculumref01_Put_to σ (n % 18446744073709551616) 8 (by omega) (by omega)
  have hl := putS_len (n % 18446744073709551616) 8
  have hH := fun σ => ref_Hash_h σ r
  have h32 := r.2
  have hS := fun σ => ref_Sum_h σ (5 :: (putS (n % 18446744073709551616) 8 ++ r.1)) (by simp; omega)
  unfold digH
  generalize putS (n % 18446744073709551616) 8 = p at *
  refine ACallsTo.of_body speculumref10_Digest_ok (by simp) fun hw _ => ?_
  repeat' (first | refine SWp.seq ?_ | refine SWp.block ?_ | refine SWp.scope ?_ | refine SWp.condT rfl ?_ | refine SWp.condF rfl ?_ | (refine SWp.condD rfl (fun ht => ?_) (fun ht => ?_) <;> try (exfalso; omega)) | ((first | refine SWp.reg ?_ | refine SWp.skip ?_ | refine SWp.exit ?_ | refine SWp.ret ?_ | (apply callW.mk_pu; (first | exact (fun _ => hP _) | exact (fun _ => hH _) | exact (fun _ => hS _))) | (apply callW.any; (first | exact (hP _) | exact (hH _) | exact (hS _))) | ((first | apply splitG | apply splitGB | apply splitR | apply splitRB | apply splitE | apply splitEB | apply splitC | apply splitCB) <;> intro ht)); all_goals try simp (disch := first | omega | (simp only [lens, hc_len, hr_len, List.length_reverse]; first | done | omega)) only [go_sem, Nat.reduceEqDiff, Nat.reduceBEq, Nat.reduceAdd, Nat.reduceMul, Nat.reduceSub, Nat.reduceLeDiff, Int.reduceToNat, Int.reducePow, h32]))
  exact DownV.pure hw (rl_agg_hc _)
set_option maxHeartbeats 4000000 in
theorem HCheck_to (σ : Store) (key : Hash) (n i : Int) (r : Hash) (s : List UInt8) (l : List Hash) (x : AV) (hx : RdSl σ 32 (hr l) x) :
    ACallsTo TC 52 [.agg (hc key), .agg (sgC n r i s x)] σ (.int .i64 (hchkI key n i r s l)) σ := by
  have xc := hx.cells
  unfold cellsOf at xc
  have hV := fun y => Valid_to (σ ++ y) n i r s l x hx.app
  unfold hchkI
  refine ACallsTo.of_body heads_Check_ok (by simp) fun hw _ => ?_
  cases hv : validB n i s l with
  | false =>
    rw [hv] at hV
    rw [if_pos rfl]
    repeat' (first | refine SWp.seq ?_ | refine SWp.block ?_ | refine SWp.scope ?_ | refine SWp.condT rfl ?_ | refine SWp.condF rfl ?_ | (refine SWp.condD rfl (fun ht => ?_) (fun ht => ?_) <;> try (exfalso; omega)) | ((first | refine SWp.reg ?_ | refine SWp.skip ?_ | refine SWp.exit ?_ | refine SWp.ret ?_ | (apply callW.mk_pu; (first | exact (fun _ => hV _))) | (apply callW.any; (first | exact (hV _))) | ((first | apply splitG | apply splitGB | apply splitR | apply splitRB | apply splitE | apply splitEB | apply splitC | apply splitCB) <;> intro ht)); all_goals try simp (disch := first | omega | (simp only [lens, hc_len, hr_len, List.length_reverse]; first | done | omega)) only [go_sem, Nat.reduceEqDiff, Nat.reduceBEq, Nat.reduceAdd, Nat.reduceMul, Nat.reduceSub, Nat.reduceLeDiff, Int.reduceToNat, Int.reducePow, xc]))
    exact DownV.pure hw (rlB_ok _ rfl)
  | true =>
    rw [hv] at hV
    rw [if_neg (by simp)]
    have hv2 := of_decide_eq_true hv
    have hD := fun σ => Digest_to σ n r
    have hY := fun y => Verify_to (σ ++ y) key (digH n r) i s l x hx.app (by omega) (by omega) (by omega)
    generalize verI key (digH n r) i s l = c at *
    by_cases h0 : c = 0
    · subst h0
      rw [if_pos rfl]
      repeat' (first | refine SWp.seq ?_ | refine SWp.block ?_ | refine SWp.scope ?_ | refine SWp.condT rfl ?_ | refine SWp.condF rfl ?_ | (refine SWp.condD rfl (fun ht => ?_) (fun ht => ?_) <;> try (exfalso; omega)) | ((first | refine SWp.reg ?_ | refine SWp.skip ?_ | refine SWp.exit ?_ | refine SWp.ret ?_ | (apply callW.mk_pu; (first | exact (fun _ => hV _) | exact (fun _ => hD _) | exact (fun _ => hY _))) | (apply callW.any; (first | exact (hV _) | exact (hD _) | exact (hY _))) | ((first | apply splitG | apply splitGB | apply splitR | apply splitRB | apply splitE | apply splitEB | apply splitC | apply splitCB) <;> intro ht)); all_goals try simp (disch := first | omega | (simp only [lens, hc_len, hr_len, List.length_reverse]; first | done | omega)) only [go_sem, Nat.reduceEqDiff, Nat.reduceBEq, Nat.reduceAdd, Nat.reduceMul, Nat.reduceSub, Nat.reduceLeDiff, Int.reduceToNat, Int.reducePow, xc]))
      exact DownV.pure hw (rlB_ok _ rfl)
    · rw [if_neg h0]
      repeat' (first | refine SWp.seq ?_ | refine SWp.block ?_ | refine SWp.scope ?_ | refine SWp.condT rfl ?_ | refine SWp.condF rfl ?_ | (refine SWp.condD rfl (fun ht => ?_) (fun ht => ?_) <;> try (exfalso; omega)) | ((first | refine SWp.reg ?_ | refine SWp.skip ?_ | refine SWp.exit ?_ | refine SWp.ret ?_ | (apply callW.mk_pu; (first | exact (fun _ => hV _) | exact (fun _ => hD _) | exact (fun _ => hY _))) | (apply callW.any; (first | exact (hV _) | exact (hD _) | exact (hY _))) | ((first | apply splitG | apply splitGB | apply splitR | apply splitRB | apply splitE | apply splitEB | apply splitC | apply splitCB) <;> intro ht)); all_goals try simp (disch := first | omega | (simp only [lens, hc_len, hr_len, List.length_reverse]; first | done | omega)) only [go_sem, Nat.reduceEqDiff, Nat.reduceBEq, Nat.reduceAdd, Nat.reduceMul, Nat.reduceSub, Nat.reduceLeDiff, Int.reduceToNat, Int.reducePow, xc, h0]))
      exact DownV.pure hw (rlB_ok _ rfl)
set_option maxHeartbeats 4000000 in
theorem refHCheck_to (σ : Store) (key : Hash) (n i : Int) (r : Hash) (s : List UInt8) (l : List Hash) (x : AV) (hx : RdSl σ 32 (hr l) x) :
    ACallsTo TC 53 [.agg (hc key), .agg (sgC n r i s x)] σ (.int .i64 (hchkI key n i r s l)) σ := by
  have xc := hx.cells
  unfold cellsOf at xc
  have hV := fun y => refValid_to (σ ++ y) n i r s l x hx.app
  unfold hchkI
  refine ACallsTo.of_body speculumref10_Check_ok (by simp) fun hw _ => ?_
  cases hv : validB n i s l with
  | false =>
    rw [hv] at hV
    rw [if_pos rfl]
    repeat' (first | refine SWp.seq ?_ | refine SWp.block ?_ | refine SWp.scope ?_ | refine SWp.condT rfl ?_ | refine SWp.condF rfl ?_ | (refine SWp.condD rfl (fun ht => ?_) (fun ht => ?_) <;> try (exfalso; omega)) | ((first | refine SWp.reg ?_ | refine SWp.skip ?_ | refine SWp.exit ?_ | refine SWp.ret ?_ | (apply callW.mk_pu; (first | exact (fun _ => hV _))) | (apply callW.any; (first | exact (hV _))) | ((first | apply splitG | apply splitGB | apply splitR | apply splitRB | apply splitE | apply splitEB | apply splitC | apply splitCB) <;> intro ht)); all_goals try simp (disch := first | omega | (simp only [lens, hc_len, hr_len, List.length_reverse]; first | done | omega)) only [go_sem, Nat.reduceEqDiff, Nat.reduceBEq, Nat.reduceAdd, Nat.reduceMul, Nat.reduceSub, Nat.reduceLeDiff, Int.reduceToNat, Int.reducePow, xc]))
    exact DownV.pure hw (rlB_ok _ rfl)
  | true =>
    rw [hv] at hV
    rw [if_neg (by simp)]
    have hv2 := of_decide_eq_true hv
    have hD := fun σ => refDigest_to σ n r
    have hY := fun y => refVerify_to (σ ++ y) key (digH n r) i s l x hx.app (by omega) (by omega) (by omega)
    generalize verI key (digH n r) i s l = c at *
    by_cases h0 : c = 0
    · subst h0
      rw [if_pos rfl]
      repeat' (first | refine SWp.seq ?_ | refine SWp.block ?_ | refine SWp.scope ?_ | refine SWp.condT rfl ?_ | refine SWp.condF rfl ?_ | (refine SWp.condD rfl (fun ht => ?_) (fun ht => ?_) <;> try (exfalso; omega)) | ((first | refine SWp.reg ?_ | refine SWp.skip ?_ | refine SWp.exit ?_ | refine SWp.ret ?_ | (apply callW.mk_pu; (first | exact (fun _ => hV _) | exact (fun _ => hD _) | exact (fun _ => hY _))) | (apply callW.any; (first | exact (hV _) | exact (hD _) | exact (hY _))) | ((first | apply splitG | apply splitGB | apply splitR | apply splitRB | apply splitE | apply splitEB | apply splitC | apply splitCB) <;> intro ht)); all_goals try simp (disch := first | omega | (simp only [lens, hc_len, hr_len, List.length_reverse]; first | done | omega)) only [go_sem, Nat.reduceEqDiff, Nat.reduceBEq, Nat.reduceAdd, Nat.reduceMul, Nat.reduceSub, Nat.reduceLeDiff, Int.reduceToNat, Int.reducePow, xc]))
      exact DownV.pure hw (rlB_ok _ rfl)
    · rw [if_neg h0]
      repeat' (first | refine SWp.seq ?_ | refine SWp.block ?_ | refine SWp.scope ?_ | refine SWp.condT rfl ?_ | refine SWp.condF rfl ?_ | (refine SWp.condD rfl (fun ht => ?_) (fun ht => ?_) <;> try (exfalso; omega)) | ((first | refine SWp.reg ?_ | refine SWp.skip ?_ | refine SWp.exit ?_ | refine SWp.ret ?_ | (apply callW.mk_pu; (first | exact (fun _ => hV _) | exact (fun _ => hD _) | exact (fun _ => hY _))) | (apply callW.any; (first | exact (hV _) | exact (hD _) | exact (hY _))) | ((first | apply splitG | apply splitGB | apply splitR | apply splitRB | apply splitE | apply splitEB | apply splitC | apply splitCB) <;> intro ht)); all_goals try simp (disch := first | omega | (simp only [lens, hc_len, hr_len, List.length_reverse]; first | done | omega)) only [go_sem, Nat.reduceEqDiff, Nat.reduceBEq, Nat.reduceAdd, Nat.reduceMul, Nat.reduceSub, Nat.reduceLeDiff, Int.reduceToNat, Int.reducePow, xc, h0]))
      exact DownV.pure hw (rlB_ok _ rfl)
end Am
end Go.Proofs.YthgcooppjhcgcaaDoor
end
section
set_option linter.unusedSimpArgs false
set_option linter.unusedVariables false
/- Heads: contracts: Same, Order. -/
namespace Go.Proofs.YthgcooppjhcgcaaDoor
namespace Am
def ordI (n m : Int) (a b : Hash) : Int := if n ≠ m then (if n < m then 0 else 2) else if a ≠ b then 3 else 1
def hsameB (n n2 i i2 : Int) (r r2 : Hash) (s s2 : List UInt8) (l l2 : List Hash) : Bool := decide (n = n2 ∧ r = r2 ∧ i = i2 ∧ s = s2 ∧ l = l2)
attribute [local irreducible] ACallsTo ACallsP
theorem HOrder_to (σ : Store) (n m : Int) (a b : Hash) : ACallsTo TC 54 [.agg (.int .i64 n :: hc a), .agg (.int .i64 m :: hc b)] σ (.int .i64 (ordI n m a b)) σ := by
  unfold ordI
  refine ACallsTo.of_body heads_Order_ok (by simp) fun hw _ => ?_
  rcases Int.lt_trichotomy n m with h | h | h
  · rw [if_pos (by omega), if_pos h]
    repeat' (first | refine SWp.seq ?_ | refine SWp.block ?_ | refine SWp.scope ?_ | refine SWp.condT rfl ?_ | refine SWp.condF rfl ?_ | (refine SWp.condD rfl (fun ht => ?_) (fun ht => ?_) <;> try (exfalso; omega)) | ((first | refine SWp.reg ?_ | refine SWp.skip ?_ | refine SWp.exit ?_ | refine SWp.ret ?_ | ((first | apply splitG | apply splitGB | apply splitR | apply splitRB | apply splitE | apply splitEB | apply splitC | apply splitCB) <;> intro ht)); all_goals try simp (disch := first | omega | (simp only [lens, hc_len, hr_len, List.length_reverse, sgC_len]; first | done | omega)) only [go_sem, Nat.reduceEqDiff, Nat.reduceBEq, Nat.reduceAdd, Nat.reduceMul, Nat.reduceSub, Nat.reduceLeDiff, Int.reduceToNat, Int.reducePow, h]))
    all_goals exact DownV.pure hw (rlB_ok _ rfl)
  · subst h
    by_cases h2 : a = b
    · subst h2
      rw [if_neg (by simp), if_neg (by simp)]
      repeat' (first | refine SWp.seq ?_ | refine SWp.block ?_ | refine SWp.scope ?_ | refine SWp.condT rfl ?_ | refine SWp.condF rfl ?_ | (refine SWp.condD rfl (fun ht => ?_) (fun ht => ?_) <;> try (exfalso; omega)) | ((first | refine SWp.reg ?_ | refine SWp.skip ?_ | refine SWp.exit ?_ | refine SWp.ret ?_ | ((first | apply splitG | apply splitGB | apply splitR | apply splitRB | apply splitE | apply splitEB | apply splitC | apply splitCB) <;> intro ht)); all_goals try simp (disch := first | omega | (simp only [lens, hc_len, hr_len, List.length_reverse, sgC_len]; first | done | omega)) only [go_sem, Nat.reduceEqDiff, Nat.reduceBEq, Nat.reduceAdd, Nat.reduceMul, Nat.reduceSub, Nat.reduceLeDiff, Int.reduceToNat, Int.reducePow]))
      all_goals exact DownV.pure hw (rlB_ok _ rfl)
    · rw [if_neg (by simp), if_pos h2]
      repeat' (first | refine SWp.seq ?_ | refine SWp.block ?_ | refine SWp.scope ?_ | refine SWp.condT rfl ?_ | refine SWp.condF rfl ?_ | (refine SWp.condD rfl (fun ht => ?_) (fun ht => ?_) <;> try (exfalso; omega)) | ((first | refine SWp.reg ?_ | refine SWp.skip ?_ | refine SWp.exit ?_ | refine SWp.ret ?_ | ((first | apply splitG | apply splitGB | apply splitR | apply splitRB | apply splitE | apply splitEB | apply splitC | apply splitCB) <;> intro ht)); all_goals try simp (disch := first | omega | (simp only [lens, hc_len, hr_len, List.length_reverse, sgC_len]; first | done | omega)) only [go_sem, Nat.reduceEqDiff, Nat.reduceBEq, Nat.reduceAdd, Nat.reduceMul, Nat.reduceSub, Nat.reduceLeDiff, Int.reduceToNat, Int.reducePow, h2]))
      all_goals exact DownV.pure hw (rlB_ok _ rfl)
  · rw [if_pos (by omega), if_neg (by omega)]
    repeat' (first | refine SWp.seq ?_ | refine SWp.block ?_ | refine SWp.scope ?_ | refine SWp.condT rfl ?_ | refine SWp.condF rfl ?_ | (refine SWp.condD rfl (fun ht => ?_) (fun ht => ?_) <;> try (exfalso; omega)) | ((first | refine SWp.reg ?_ | refine SWp.skip ?_ | refine SWp.exit ?_ | refine SWp.ret ?_ | ((first | apply splitG | apply splitGB | apply splitR | apply splitRB | apply splitE | apply splitEB | apply splitC | apply splitCB) <;> intro ht)); all_goals try simp (disch := first | omega | (simp only [lens, hc_len, hr_len, List.length_reverse, sgC_len]; first | done | omega)) only [go_sem, Nat.reduceEqDiff, Nat.reduceBEq, Nat.reduceAdd, Nat.reduceMul, Nat.reduceSub, Nat.reduceLeDiff, Int.reduceToNat, Int.reducePow, h]))
    all_goals exact DownV.pure hw (rlB_ok _ rfl)
theorem refHOrder_to (σ : Store) (n m : Int) (a b : Hash) : ACallsTo TC 55 [.agg (.int .i64 n :: hc a), .agg (.int .i64 m :: hc b)] σ (.int .i64 (ordI n m a b)) σ := by
  unfold ordI
  refine ACallsTo.of_body speculumref10_Order_ok (by simp) fun hw _ => ?_
  rcases Int.lt_trichotomy n m with h | h | h
  · rw [if_pos (by omega), if_pos h]
    have hne : ¬ n = m := by omega
    repeat' (first | refine SWp.seq ?_ | refine SWp.block ?_ | refine SWp.scope ?_ | refine SWp.condT rfl ?_ | refine SWp.condF rfl ?_ | (refine SWp.condD rfl (fun ht => ?_) (fun ht => ?_) <;> try (exfalso; omega)) | ((first | refine SWp.reg ?_ | refine SWp.skip ?_ | refine SWp.exit ?_ | refine SWp.ret ?_ | ((first | apply splitG | apply splitGB | apply splitR | apply splitRB | apply splitE | apply splitEB | apply splitC | apply splitCB) <;> intro ht)); all_goals try simp (disch := first | omega | (simp only [lens, hc_len, hr_len, List.length_reverse, sgC_len]; first | done | omega)) only [go_sem, Nat.reduceEqDiff, Nat.reduceBEq, Nat.reduceAdd, Nat.reduceMul, Nat.reduceSub, Nat.reduceLeDiff, Int.reduceToNat, Int.reducePow, h, hne]))
    all_goals exact DownV.pure hw (rlB_ok _ rfl)
  · subst h
    by_cases h2 : a = b
    · subst h2
      rw [if_neg (by simp), if_neg (by simp)]
      repeat' (first | refine SWp.seq ?_ | refine SWp.block ?_ | refine SWp.scope ?_ | refine SWp.condT rfl ?_ | refine SWp.condF rfl ?_ | (refine SWp.condD rfl (fun ht => ?_) (fun ht => ?_) <;> try (exfalso; omega)) | ((first | refine SWp.reg ?_ | refine SWp.skip ?_ | refine SWp.exit ?_ | refine SWp.ret ?_ | ((first | apply splitG | apply splitGB | apply splitR | apply splitRB | apply splitE | apply splitEB | apply splitC | apply splitCB) <;> intro ht)); all_goals try simp (disch := first | omega | (simp only [lens, hc_len, hr_len, List.length_reverse, sgC_len]; first | done | omega)) only [go_sem, Nat.reduceEqDiff, Nat.reduceBEq, Nat.reduceAdd, Nat.reduceMul, Nat.reduceSub, Nat.reduceLeDiff, Int.reduceToNat, Int.reducePow]))
      all_goals exact DownV.pure hw (rlB_ok _ rfl)
    · rw [if_neg (by simp), if_pos h2]
      repeat' (first | refine SWp.seq ?_ | refine SWp.block ?_ | refine SWp.scope ?_ | refine SWp.condT rfl ?_ | refine SWp.condF rfl ?_ | (refine SWp.condD rfl (fun ht => ?_) (fun ht => ?_) <;> try (exfalso; omega)) | ((first | refine SWp.reg ?_ | refine SWp.skip ?_ | refine SWp.exit ?_ | refine SWp.ret ?_ | ((first | apply splitG | apply splitGB | apply splitR | apply splitRB | apply splitE | apply splitEB | apply splitC | apply splitCB) <;> intro ht)); all_goals try simp (disch := first | omega | (simp only [lens, hc_len, hr_len, List.length_reverse, sgC_len]; first | done | omega)) only [go_sem, Nat.reduceEqDiff, Nat.reduceBEq, Nat.reduceAdd, Nat.reduceMul, Nat.reduceSub, Nat.reduceLeDiff, Int.reduceToNat, Int.reducePow, h2]))
      all_goals exact DownV.pure hw (rlB_ok _ rfl)
  · rw [if_pos (by omega), if_neg (by omega)]
    have hne : ¬ n = m := by omega
    repeat' (first | refine SWp.seq ?_ | refine SWp.block ?_ | refine SWp.scope ?_ | refine SWp.condT rfl ?_ | refine SWp.condF rfl ?_ | (refine SWp.condD rfl (fun ht => ?_) (fun ht => ?_) <;> try (exfalso; omega)) | ((first | refine SWp.reg ?_ | refine SWp.skip ?_ | refine SWp.exit ?_ | refine SWp.ret ?_ | ((first | apply splitG | apply splitGB | apply splitR | apply splitRB | apply splitE | apply splitEB | apply splitC | apply splitCB) <;> intro ht)); all_goals try simp (disch := first | omega | (simp only [lens, hc_len, hr_len, List.length_reverse, sgC_len]; first | done | omega)) only [go_sem, Nat.reduceEqDiff, Nat.reduceBEq, Nat.reduceAdd, Nat.reduceMul, Nat.reduceSub, Nat.reduceLeDiff, Int.reduceToNat, Int.reducePow, h, hne]))
    all_goals exact DownV.pure hw (rlB_ok _ rfl)
set_option maxHeartbeats 8000000 in
theorem HSame_to (σ : Store) (n n2 i i2 : Int) (r r2 : Hash) (s s2 : List UInt8) (l l2 : List Hash) (x y : AV) (hx : RdSl σ 32 (hr l) x) (hy : RdSl σ 32 (hr l2) y) (hl : l.length < 1000000) (hl2 : l2.length < 1000000) :
    ACallsTo TC 56 [.agg (sgC n r i s x), .agg (sgC n2 r2 i2 s2 y)] σ (.bool (hsameB n n2 i i2 r r2 s s2 l l2)) σ := by
  have hE := fun z => Equal_h (σ ++ z) l l2 x y hx.app hy.app (by omega) (by omega)
  unfold hsameB
  refine ACallsTo.of_body heads_Same_ok (by simp) fun hw _ => ?_
  by_cases h1 : n = n2 ∧ r = r2
  · have e1 := (sg_eq n n2 r r2).trans (decide_eq_true h1)
    by_cases h2 : i = i2
    · subst h2
      by_cases h3 : s = s2
      · subst h3
        rw [show decide (n = n2 ∧ r = r2 ∧ i = i ∧ s = s ∧ l = l2) = decide (l = l2) from by rw [Bool.eq_iff_iff]; simp [h1]]
        generalize decide (l = l2) = b at *
        repeat' (first | refine SWp.seq ?_ | refine SWp.block ?_ | refine SWp.scope ?_ | refine SWp.condT rfl ?_ | refine SWp.condF rfl ?_ | (refine SWp.condD rfl (fun ht => ?_) (fun ht => ?_) <;> try (exfalso; omega)) | ((first | refine SWp.reg ?_ | refine SWp.skip ?_ | refine SWp.exit ?_ | refine SWp.ret ?_ | (apply callW.mk_pu; (first | exact (fun _ => hE _))) | (apply callW.any; (first | exact (hE _))) | ((first | apply splitG | apply splitGB | apply splitR | apply splitRB | apply splitE | apply splitEB | apply splitC | apply splitCB) <;> intro ht)); all_goals try simp (disch := first | omega | (simp only [lens, hc_len, hr_len, List.length_reverse, sgC_len]; first | done | omega)) only [go_sem, Nat.reduceEqDiff, Nat.reduceBEq, Nat.reduceAdd, Nat.reduceMul, Nat.reduceSub, Nat.reduceLeDiff, Int.reduceToNat, Int.reducePow, e1, kindOf, eq_self, and_self, if_true]))
        exact DownV.pure hw rl_bool
      · rw [decide_eq_false (by simp [h3])]
        have e : (s == s2) = false := beq_false_of_ne h3
        repeat' (first | refine SWp.seq ?_ | refine SWp.block ?_ | refine SWp.scope ?_ | refine SWp.condT rfl ?_ | refine SWp.condF rfl ?_ | (refine SWp.condD rfl (fun ht => ?_) (fun ht => ?_) <;> try (exfalso; omega)) | ((first | refine SWp.reg ?_ | refine SWp.skip ?_ | refine SWp.exit ?_ | refine SWp.ret ?_ | ((first | apply splitG | apply splitGB | apply splitR | apply splitRB | apply splitE | apply splitEB | apply splitC | apply splitCB) <;> intro ht)); all_goals try simp (disch := first | omega | (simp only [lens, hc_len, hr_len, List.length_reverse, sgC_len]; first | done | omega)) only [go_sem, Nat.reduceEqDiff, Nat.reduceBEq, Nat.reduceAdd, Nat.reduceMul, Nat.reduceSub, Nat.reduceLeDiff, Int.reduceToNat, Int.reducePow, e1, e, kindOf, eq_self, and_self, if_true]))
        exact DownV.pure hw rl_bool
    · rw [decide_eq_false (by simp [h2])]
      repeat' (first | refine SWp.seq ?_ | refine SWp.block ?_ | refine SWp.scope ?_ | refine SWp.condT rfl ?_ | refine SWp.condF rfl ?_ | (refine SWp.condD rfl (fun ht => ?_) (fun ht => ?_) <;> try (exfalso; omega)) | ((first | refine SWp.reg ?_ | refine SWp.skip ?_ | refine SWp.exit ?_ | refine SWp.ret ?_ | ((first | apply splitG | apply splitGB | apply splitR | apply splitRB | apply splitE | apply splitEB | apply splitC | apply splitCB) <;> intro ht)); all_goals try simp (disch := first | omega | (simp only [lens, hc_len, hr_len, List.length_reverse, sgC_len]; first | done | omega)) only [go_sem, Nat.reduceEqDiff, Nat.reduceBEq, Nat.reduceAdd, Nat.reduceMul, Nat.reduceSub, Nat.reduceLeDiff, Int.reduceToNat, Int.reducePow, e1, h2, kindOf, eq_self, and_self, if_true]))
      exact DownV.pure hw rl_bool
  · rw [decide_eq_false (by rintro ⟨a, b, _⟩; exact h1 ⟨a, b⟩)]
    have e1 := (sg_eq n n2 r r2).trans (decide_eq_false h1)
    repeat' (first | refine SWp.seq ?_ | refine SWp.block ?_ | refine SWp.scope ?_ | refine SWp.condT rfl ?_ | refine SWp.condF rfl ?_ | (refine SWp.condD rfl (fun ht => ?_) (fun ht => ?_) <;> try (exfalso; omega)) | ((first | refine SWp.reg ?_ | refine SWp.skip ?_ | refine SWp.exit ?_ | refine SWp.ret ?_ | ((first | apply splitG | apply splitGB | apply splitR | apply splitRB | apply splitE | apply splitEB | apply splitC | apply splitCB) <;> intro ht)); all_goals try simp (disch := first | omega | (simp only [lens, hc_len, hr_len, List.length_reverse, sgC_len]; first | done | omega)) only [go_sem, Nat.reduceEqDiff, Nat.reduceBEq, Nat.reduceAdd, Nat.reduceMul, Nat.reduceSub, Nat.reduceLeDiff, Int.reduceToNat, Int.reducePow, e1, kindOf, eq_self, and_self, if_true]))
    exact DownV.pure hw rl_bool
set_option maxHeartbeats 8000000 in
theorem refHSame_v (σ : Store) (n n2 i i2 : Int) (r r2 : Hash) (s s2 : List UInt8) (l l2 : List Hash) (x y : AV) (hx : SlV 32 (hr l) x) (hy : SlV 32 (hr l2) y) (hl : l.length < 1000000) (hl2 : l2.length < 1000000) :
    ACallsTo TC 57 [.agg (sgC n r i s x), .agg (sgC n2 r2 i2 s2 y)] σ (.bool (hsameB n n2 i i2 r r2 s s2 l l2)) σ := by
  have a1 := hx.len
  have a2 := hy.len
  rw [hr_len] at a1 a2
  unfold rLenSl at a1 a2
  unfold hsameB
  refine ACallsTo.of_body speculumref10_Same_ok (by simp) fun hw _ => ?_
  by_cases h1 : n = n2 ∧ r = r2
  · have e1 := (sg_eq n n2 r r2).trans (decide_eq_true h1)
    by_cases h2 : i = i2
    · subst h2
      by_cases h3 : s = s2
      · subst h3
        rw [show decide (n = n2 ∧ r = r2 ∧ i = i ∧ s = s ∧ l = l2) = decide (l = l2) from by rw [Bool.eq_iff_iff]; simp [h1]]
        by_cases hll : l.length = l2.length
        · have hll' : (l.length : Int) = l2.length := by omega
          repeat' (first | refine SWp.seq ?_ | refine SWp.block ?_ | refine SWp.scope ?_ | refine SWp.condT rfl ?_ | refine SWp.condF rfl ?_ | (refine SWp.condD rfl (fun ht => ?_) (fun ht => ?_) <;> try (exfalso; omega)) | ((first | refine SWp.reg ?_ | refine SWp.skip ?_ | refine SWp.exit ?_ | refine SWp.ret ?_ | ((first | apply splitG | apply splitGB | apply splitR | apply splitRB | apply splitE | apply splitEB | apply splitC | apply splitCB) <;> intro ht)); all_goals try simp (disch := first | omega | (simp only [lens, hc_len, hr_len, List.length_reverse, sgC_len]; first | done | omega)) only [go_sem, Nat.reduceEqDiff, Nat.reduceBEq, Nat.reduceAdd, Nat.reduceMul, Nat.reduceSub, Nat.reduceLeDiff, Int.reduceToNat, Int.reducePow, e1, a1, a2, hll', kindOf, eq_self, and_self, if_true]))
          refine SWp.loop (fun m ρ σ' => ∃ k : Nat, m + k = l.length ∧ σ' = σ ++ [some [sgC n r i s x], some [sgC n2 r2 i s y]] ∧ l.take k = l2.take k ∧ ρ 2 = .ptr σ.length 0 0 ∧ ρ 3 = .ptr (σ.length + 1) 0 0 ∧ ρ 5 = .int .i64 k) l.length ?_ ?_
          · exact ⟨0, by omega, rfl, rfl, by simp (disch := first | omega | (simp only [lens, hc_len, hr_len, List.length_reverse, sgC_len]; first | done | omega)) only [go_sem, Nat.reduceEqDiff, Nat.reduceBEq, Nat.reduceAdd, Nat.reduceMul, Nat.reduceSub, Nat.reduceLeDiff, Int.reduceToNat, Int.reducePow], by simp (disch := first | omega | (simp only [lens, hc_len, hr_len, List.length_reverse, sgC_len]; first | done | omega)) only [go_sem, Nat.reduceEqDiff, Nat.reduceBEq, Nat.reduceAdd, Nat.reduceMul, Nat.reduceSub, Nat.reduceLeDiff, Int.reduceToNat, Int.reducePow], by simp (disch := first | omega | (simp only [lens, hc_len, hr_len, List.length_reverse, sgC_len]; first | done | omega)) only [go_sem, Nat.reduceEqDiff, Nat.reduceBEq, Nat.reduceAdd, Nat.reduceMul, Nat.reduceSub, Nat.reduceLeDiff, Int.reduceToNat, Int.reducePow]; rfl⟩
          · rintro m ρ σ' ⟨k, hm, rfl, htk, q2, q3, q5⟩
            by_cases hk : k < l.length
            · obtain ⟨ex, rfl⟩ := hx.vsl (by rw [hr_len]; omega)
              obtain ⟨ex2, rfl⟩ := hy.vsl (by rw [hr_len]; omega)
              have hk' : (k : Int) < l2.length := by omega
              by_cases hh : hd l k = hd l2 k
              · have t1 := take_hd (l := l) (i := k) hk
                have t2 := take_hd (l := l2) (i := k) (by omega)
                repeat' (first | refine SWp.seq ?_ | refine SWp.block ?_ | refine SWp.scope ?_ | refine SWp.condT rfl ?_ | refine SWp.condF rfl ?_ | (refine SWp.condD rfl (fun ht => ?_) (fun ht => ?_) <;> try (exfalso; omega)) | ((first | refine SWp.reg ?_ | refine SWp.skip ?_ | refine SWp.exit ?_ | refine SWp.ret ?_ | ((first | apply splitG | apply splitGB | apply splitR | apply splitRB | apply splitE | apply splitEB | apply splitC | apply splitCB) <;> intro ht)); all_goals try simp (disch := first | omega | (simp only [lens, hc_len, hr_len, List.length_reverse, sgC_len]; first | done | omega)) only [go_sem, Nat.reduceEqDiff, Nat.reduceBEq, Nat.reduceAdd, Nat.reduceMul, Nat.reduceSub, Nat.reduceLeDiff, Int.reduceToNat, Int.reducePow, q2, q3, q5, a1, a2, hk', hh]))
                exact ⟨m - 1, by omega, k + 1, by omega, by rw [t1, t2, htk, hh], by simp⟩
              · rw [decide_eq_false (fun e => hh (by rw [e]))]
                repeat' (first | refine SWp.seq ?_ | refine SWp.block ?_ | refine SWp.scope ?_ | refine SWp.condT rfl ?_ | refine SWp.condF rfl ?_ | (refine SWp.condD rfl (fun ht => ?_) (fun ht => ?_) <;> try (exfalso; omega)) | ((first | refine SWp.reg ?_ | refine SWp.skip ?_ | refine SWp.exit ?_ | refine SWp.ret ?_ | ((first | apply splitG | apply splitGB | apply splitR | apply splitRB | apply splitE | apply splitEB | apply splitC | apply splitCB) <;> intro ht)); all_goals try simp (disch := first | omega | (simp only [lens, hc_len, hr_len, List.length_reverse, sgC_len]; first | done | omega)) only [go_sem, Nat.reduceEqDiff, Nat.reduceBEq, Nat.reduceAdd, Nat.reduceMul, Nat.reduceSub, Nat.reduceLeDiff, Int.reduceToNat, Int.reducePow, q2, q3, q5, a1, a2, hk', hh]))
                exact DownV.pure hw rl_bool
            · have hk' : ¬ (k : Int) < l2.length := by omega
              have : l = l2 := by
                rw [List.take_of_length_le (by omega), List.take_of_length_le (by omega)] at htk
                exact htk
              rw [decide_eq_true this]
              repeat' (first | refine SWp.seq ?_ | refine SWp.block ?_ | refine SWp.scope ?_ | refine SWp.condT rfl ?_ | refine SWp.condF rfl ?_ | (refine SWp.condD rfl (fun ht => ?_) (fun ht => ?_) <;> try (exfalso; omega)) | ((first | refine SWp.reg ?_ | refine SWp.skip ?_ | refine SWp.exit ?_ | refine SWp.ret ?_ | ((first | apply splitG | apply splitGB | apply splitR | apply splitRB | apply splitE | apply splitEB | apply splitC | apply splitCB) <;> intro ht)); all_goals try simp (disch := first | omega | (simp only [lens, hc_len, hr_len, List.length_reverse, sgC_len]; first | done | omega)) only [go_sem, Nat.reduceEqDiff, Nat.reduceBEq, Nat.reduceAdd, Nat.reduceMul, Nat.reduceSub, Nat.reduceLeDiff, Int.reduceToNat, Int.reducePow, q2, q3, q5, a1, a2, hll', hk']))
              exact DownV.pure hw rl_bool
        · rw [decide_eq_false (fun e => hll (by rw [e]))]
          have hll' : ¬ (l.length : Int) = l2.length := by omega
          repeat' (first | refine SWp.seq ?_ | refine SWp.block ?_ | refine SWp.scope ?_ | refine SWp.condT rfl ?_ | refine SWp.condF rfl ?_ | (refine SWp.condD rfl (fun ht => ?_) (fun ht => ?_) <;> try (exfalso; omega)) | ((first | refine SWp.reg ?_ | refine SWp.skip ?_ | refine SWp.exit ?_ | refine SWp.ret ?_ | ((first | apply splitG | apply splitGB | apply splitR | apply splitRB | apply splitE | apply splitEB | apply splitC | apply splitCB) <;> intro ht)); all_goals try simp (disch := first | omega | (simp only [lens, hc_len, hr_len, List.length_reverse, sgC_len]; first | done | omega)) only [go_sem, Nat.reduceEqDiff, Nat.reduceBEq, Nat.reduceAdd, Nat.reduceMul, Nat.reduceSub, Nat.reduceLeDiff, Int.reduceToNat, Int.reducePow, e1, a1, a2, hll', kindOf, eq_self, and_self, if_true]))
          exact DownV.pure hw rl_bool
      · rw [decide_eq_false (by simp [h3])]
        have e : (s == s2) = false := beq_false_of_ne h3
        repeat' (first | refine SWp.seq ?_ | refine SWp.block ?_ | refine SWp.scope ?_ | refine SWp.condT rfl ?_ | refine SWp.condF rfl ?_ | (refine SWp.condD rfl (fun ht => ?_) (fun ht => ?_) <;> try (exfalso; omega)) | ((first | refine SWp.reg ?_ | refine SWp.skip ?_ | refine SWp.exit ?_ | refine SWp.ret ?_ | ((first | apply splitG | apply splitGB | apply splitR | apply splitRB | apply splitE | apply splitEB | apply splitC | apply splitCB) <;> intro ht)); all_goals try simp (disch := first | omega | (simp only [lens, hc_len, hr_len, List.length_reverse, sgC_len]; first | done | omega)) only [go_sem, Nat.reduceEqDiff, Nat.reduceBEq, Nat.reduceAdd, Nat.reduceMul, Nat.reduceSub, Nat.reduceLeDiff, Int.reduceToNat, Int.reducePow, e1, e, kindOf, eq_self, and_self, if_true]))
        exact DownV.pure hw rl_bool
    · rw [decide_eq_false (by simp [h2])]
      repeat' (first | refine SWp.seq ?_ | refine SWp.block ?_ | refine SWp.scope ?_ | refine SWp.condT rfl ?_ | refine SWp.condF rfl ?_ | (refine SWp.condD rfl (fun ht => ?_) (fun ht => ?_) <;> try (exfalso; omega)) | ((first | refine SWp.reg ?_ | refine SWp.skip ?_ | refine SWp.exit ?_ | refine SWp.ret ?_ | ((first | apply splitG | apply splitGB | apply splitR | apply splitRB | apply splitE | apply splitEB | apply splitC | apply splitCB) <;> intro ht)); all_goals try simp (disch := first | omega | (simp only [lens, hc_len, hr_len, List.length_reverse, sgC_len]; first | done | omega)) only [go_sem, Nat.reduceEqDiff, Nat.reduceBEq, Nat.reduceAdd, Nat.reduceMul, Nat.reduceSub, Nat.reduceLeDiff, Int.reduceToNat, Int.reducePow, e1, h2, kindOf, eq_self, and_self, if_true]))
      exact DownV.pure hw rl_bool
  · rw [decide_eq_false (by rintro ⟨a, b, _⟩; exact h1 ⟨a, b⟩)]
    have e1 := (sg_eq n n2 r r2).trans (decide_eq_false h1)
    repeat' (first | refine SWp.seq ?_ | refine SWp.block ?_ | refine SWp.scope ?_ | refine SWp.condT rfl ?_ | refine SWp.condF rfl ?_ | (refine SWp.condD rfl (fun ht => ?_) (fun ht => ?_) <;> try (exfalso; omega)) | ((first | refine SWp.reg ?_ | refine SWp.skip ?_ | refine SWp.exit ?_ | refine SWp.ret ?_ | ((first | apply splitG | apply splitGB | apply splitR | apply splitRB | apply splitE | apply splitEB | apply splitC | apply splitCB) <;> intro ht)); all_goals try simp (disch := first | omega | (simp only [lens, hc_len, hr_len, List.length_reverse, sgC_len]; first | done | omega)) only [go_sem, Nat.reduceEqDiff, Nat.reduceBEq, Nat.reduceAdd, Nat.reduceMul, Nat.reduceSub, Nat.reduceLeDiff, Int.reduceToNat, Int.reducePow, e1, kindOf, eq_self, and_self, if_true]))
    exact DownV.pure hw rl_bool
end Am
end Go.Proofs.YthgcooppjhcgcaaDoor
end
section
set_option linter.unusedSimpArgs false
set_option linter.unusedVariables false
/- Heads: the law HeadsTell: its contract. -/
namespace Go.Proofs.YthgcooppjhcgcaaDoor
namespace Am
theorem putV_is (n i : Int) (r : Hash) (s : List UInt8) (l : List Hash) : ∃ (t : List UInt8) (e : Int), putV n i r s l = .tup [.str t, .int .i64 e] := by
  unfold putV
  split
  · exact ⟨_, _, rfl⟩
  · exact ⟨_, _, rfl⟩
theorem rgC_all37 (n : Int) (r : Hash) (i : Int) (s : List UInt8) (m : Int) (x : AV) : (rgC n r i s m x).take 37 = rgC n r i s m x := List.take_of_length_le (by rw [rgC_len]; decide)
attribute [local irreducible] ACallsTo ACallsP
set_option maxHeartbeats 32000000 in
theorem HeadsTell_tail (n i n2 i2 : Int) (r r2 key : Hash) (G G2 : List UInt8) (l l2 : List Hash) (x y : AV) (hx : SlV 32 (hr l) x) (hy : SlV 32 (hr l2) y) (hl : l.length < 1000000) (hl2 : l2.length < 1000000)
    (hw : Wf 0 []) (ρ : Env) (σ : Store) (ra rb : Nat) (ca : σ[ra]? = some (some [sgC n r i G x])) (cb : σ[rb]? = some (some [sgC n2 r2 i2 G2 y])) (c2 : σ[2]? = some (some [hc key]))
    (q5 : ρ 5 = .ptr 2 0 0) (q7 : ρ 7 = .ptr ra 0 0) (q8 : ρ 8 = .ptr rb 0 0) :
    SWp TC 95 0 speculumlaw10_HeadsTell_c19 (endQ 0 [RV.t 6] (AV.bool true) []) ρ σ := by
  have hV := fun σ => Valid_to σ n i r G l x (.of hx)
  have hV2 := fun σ => refValid_to σ n i r G l x (.of hx)
  generalize validB n i G l = vb at *
  have hP := fun σ => Put_to σ n i r G l x (.of hx)
  have hP2 := fun σ => refPut_to σ n i r G l x (.of hx)
  obtain ⟨T, e, eP⟩ := putV_is n i r G l
  simp only [eP] at hP hP2
  have hD := fun σ => Digest_to σ n r
  have hD2 := fun σ => refDigest_to σ n r
  generalize digH n r = D at *
  have hC := fun σ => HCheck_to σ key n i r G l x (.of hx)
  have hC2 := fun σ => refHCheck_to σ key n i r G l x (.of hx)
  generalize hchkI key n i r G l = c at *
  have hO := fun σ => HOrder_to σ n n2 r r2
  have hO2 := fun σ => refHOrder_to σ n n2 r r2
  generalize ordI n n2 r r2 = o at *
  have hSm := fun σ => HSame_to σ n n2 i i2 r r2 G G2 l l2 x y (.of hx) (.of hy) (by omega) (by omega)
  have hSm2 := fun σ => refHSame_v σ n n2 i i2 r r2 G G2 l l2 x y hx hy (by omega) (by omega)
  have hSs := fun σ => HSame_to σ n n i i r r G G l l x x (.of hx) (.of hx) (by omega) (by omega)
  rw [show hsameB n n i i r r G G l l = true from by simp [hsameB]] at hSs
  generalize hsameB n n2 i i2 r r2 G G2 l l2 = sb at *
  repeat' (first | refine SWp.seq ?_ | refine SWp.block ?_ | refine SWp.scope ?_ | refine SWp.condT rfl ?_ | refine SWp.condF rfl ?_ | (refine SWp.condD rfl (fun ht => ?_) (fun ht => ?_) <;> try (exfalso; omega)) | ((first | refine SWp.reg ?_ | refine SWp.skip ?_ | refine SWp.exit ?_ | refine SWp.ret ?_ | (apply callW.mk_pu; (first | exact (fun _ => hP _) | exact (fun _ => hP2 _) | exact (fun _ => hD _) | exact (fun _ => hD2 _) | exact (fun _ => hV _) | exact (fun _ => hV2 _) | exact (fun _ => hC _) | exact (fun _ => hC2 _) | exact (fun _ => hO _) | exact (fun _ => hO2 _) | exact (fun _ => hSs _) | exact (fun _ => hSm _) | exact (fun _ => hSm2 _) | exact (fun _ => headed_to _))) | (apply callW.any; (first | exact (hP _) | exact (hP2 _) | exact (hD _) | exact (hD2 _) | exact (hV _) | exact (hV2 _) | exact (hC _) | exact (hC2 _) | exact (hO _) | exact (hO2 _) | exact (hSs _) | exact (hSm _) | exact (hSm2 _) | exact (headed_to _))) | ((first | apply splitG | apply splitGB | apply splitR | apply splitRB | apply splitE | apply splitEB | apply splitC | apply splitCB) <;> intro ht)); all_goals try simp (disch := first | omega | (simp only [lens, hc_len, hr_len, List.length_reverse, sgC_len]; first | done | omega)) only [go_sem, Nat.reduceEqDiff, Nat.reduceBEq, Nat.reduceAdd, Nat.reduceMul, Nat.reduceSub, Nat.reduceLeDiff, Int.reduceToNat, Int.reducePow, q5, q7, q8, ca, cb, c2, bne_self_eq_false, beq_self_eq_true]))
  exact DownV.pure (τ := []) hw (rlB_ok _ rfl)
set_option maxHeartbeats 32000000 in
theorem HeadsTell_to (n i m n2 i2 m2 : Int) (r r2 key : Hash) (s s2 : List UInt8) (l l2 : List Hash) (x y : AV) (hx : SlV 32 (hr l) x) (hy : SlV 32 (hr l2) y) (hm : -128 ≤ m ∧ m ≤ 127) (hm2 : -128 ≤ m2 ∧ m2 ≤ 127) :
    ACallsTo TC 10 [.agg (rgC n r i s m x), .agg (rgC n2 r2 i2 s2 m2 y), .agg (hc key)] [] (.bool true) [] := by
  have hGr := fun σ => HGreat_to σ n i m r s l x (.of hx)
  have hGr2 := fun σ => HGreat_to σ n2 i2 m2 r2 s2 l2 y (.of hy)
  have xc := slv_cells hx
  have yc := slv_cells hy
  unfold cellsOf at xc yc
  refine ACallsTo.of_body speculumlaw10_HeadsTell_ok (by simp) fun hw _ => ?_
  by_cases hg : 300 < s.length ∨ 40 < l.length
  · rw [decide_eq_true hg] at hGr
    repeat' (first | refine SWp.seq ?_ | refine SWp.block ?_ | refine SWp.scope ?_ | refine SWp.condT rfl ?_ | refine SWp.condF rfl ?_ | (refine SWp.condD rfl (fun ht => ?_) (fun ht => ?_) <;> try (exfalso; omega)) | ((first | refine SWp.reg ?_ | refine SWp.skip ?_ | refine SWp.exit ?_ | refine SWp.ret ?_ | (apply callW.mk_pu; (first | exact (fun _ => hGr _) | exact (fun _ => headed_to _))) | (apply callW.any; (first | exact (hGr _) | exact (headed_to _))) | ((first | apply splitG | apply splitGB | apply splitR | apply splitRB | apply splitE | apply splitEB | apply splitC | apply splitCB) <;> intro ht)); all_goals try simp (disch := first | omega | (simp only [lens, hc_len, hr_len, List.length_reverse, sgC_len]; first | done | omega)) only [go_sem, Nat.reduceEqDiff, Nat.reduceBEq, Nat.reduceAdd, Nat.reduceMul, Nat.reduceSub, Nat.reduceLeDiff, Int.reduceToNat, Int.reducePow, rgC_all37, xc, yc]))
    exact DownV.pure (τ := []) hw (rlB_ok _ rfl)
  rw [decide_eq_false hg] at hGr
  by_cases hg2 : 300 < s2.length ∨ 40 < l2.length
  · rw [decide_eq_true hg2] at hGr2
    repeat' (first | refine SWp.seq ?_ | refine SWp.block ?_ | refine SWp.scope ?_ | refine SWp.condT rfl ?_ | refine SWp.condF rfl ?_ | (refine SWp.condD rfl (fun ht => ?_) (fun ht => ?_) <;> try (exfalso; omega)) | ((first | refine SWp.reg ?_ | refine SWp.skip ?_ | refine SWp.exit ?_ | refine SWp.ret ?_ | (apply callW.mk_pu; (first | exact (fun _ => hGr _) | exact (fun _ => hGr2 _) | exact (fun _ => headed_to _))) | (apply callW.any; (first | exact (hGr _) | exact (hGr2 _) | exact (headed_to _))) | ((first | apply splitG | apply splitGB | apply splitR | apply splitRB | apply splitE | apply splitEB | apply splitC | apply splitCB) <;> intro ht)); all_goals try simp (disch := first | omega | (simp only [lens, hc_len, hr_len, List.length_reverse, sgC_len]; first | done | omega)) only [go_sem, Nat.reduceEqDiff, Nat.reduceBEq, Nat.reduceAdd, Nat.reduceMul, Nat.reduceSub, Nat.reduceLeDiff, Int.reduceToNat, Int.reducePow, rgC_all37]))
    exact DownV.pure (τ := []) hw (rlB_ok _ rfl)
  rw [decide_eq_false hg2] at hGr2
  have hS := fun σ => Signed_to σ n i m r s l x hx hm (by omega)
  have hS2 := fun σ => Signed_to σ n2 i2 m2 r2 s2 l2 y hy hm2 (by omega)
  generalize sigS s (16384 + m).toNat = G at *
  generalize sigS s2 (16384 + m2).toNat = G2 at *
  have T := HeadsTell_tail n i n2 i2 r r2 key G G2 l l2 x y hx hy (by omega) (by omega) hw
  repeat' (first | refine SWp.seq ?_ | refine SWp.block ?_ | refine SWp.scope ?_ | refine SWp.condT rfl ?_ | refine SWp.condF rfl ?_ | (refine SWp.condD rfl (fun ht => ?_) (fun ht => ?_) <;> try (exfalso; omega)) | ((first | refine SWp.reg ?_ | refine SWp.skip ?_ | refine SWp.exit ?_ | refine SWp.ret ?_ | (apply callW.mk_pu; (first | exact (fun _ => hGr _) | exact (fun _ => hGr2 _))) | (apply callW.any; (first | exact (hGr _) | exact (hGr2 _))) | ((first | apply splitG | apply splitGB | apply splitR | apply splitRB | apply splitE | apply splitEB | apply splitC | apply splitCB) <;> intro ht)); all_goals try simp (disch := first | omega | (simp only [lens, hc_len, hr_len, List.length_reverse, sgC_len]; first | done | omega)) only [go_sem, Nat.reduceEqDiff, Nat.reduceBEq, Nat.reduceAdd, Nat.reduceMul, Nat.reduceSub, Nat.reduceLeDiff, Int.reduceToNat, Int.reducePow, rgC_all37]))
  refine SWp.reg2J ?_
  simp (disch := first | omega | (simp only [lens, hc_len, hr_len, List.length_reverse, sgC_len]; first | done | omega)) only [go_sem, Nat.reduceEqDiff, Nat.reduceBEq, Nat.reduceAdd, Nat.reduceMul, Nat.reduceSub, Nat.reduceLeDiff, Int.reduceToNat, Int.reducePow, rgC_all37, sgC_d36]
  repeat' (first | refine SWp.seq ?_ | refine SWp.block ?_ | refine SWp.scope ?_ | refine SWp.condT rfl ?_ | refine SWp.condF rfl ?_ | (refine SWp.condD rfl (fun ht => ?_) (fun ht => ?_) <;> try (exfalso; omega)) | ((first | refine SWp.reg ?_ | refine SWp.skip ?_ | refine SWp.exit ?_ | refine SWp.ret ?_ | (apply callW.mk_pu; (first | exact (fun _ => hS _) | exact (fun _ => hS2 _))) | (apply callW.any; (first | exact (hS _) | exact (hS2 _))) | ((first | apply splitG | apply splitGB | apply splitR | apply splitRB | apply splitE | apply splitEB | apply splitC | apply splitCB) <;> intro ht)); all_goals try simp (disch := first | omega | (simp only [lens, hc_len, hr_len, List.length_reverse, sgC_len]; first | done | omega)) only [go_sem, Nat.reduceEqDiff, Nat.reduceBEq, Nat.reduceAdd, Nat.reduceMul, Nat.reduceSub, Nat.reduceLeDiff, Int.reduceToNat, Int.reducePow, rgC_all37, sgC_d36]))
  refine ⟨?_, ?_⟩
  · exact T _ _ 3 4 rfl rfl rfl (by simp (disch := first | omega | (simp only [lens, hc_len, hr_len, List.length_reverse, sgC_len]; first | done | omega)) only [go_sem, Nat.reduceEqDiff, Nat.reduceBEq, Nat.reduceAdd, Nat.reduceMul, Nat.reduceSub, Nat.reduceLeDiff, Int.reduceToNat, Int.reducePow]) (by simp (disch := first | omega | (simp only [lens, hc_len, hr_len, List.length_reverse, sgC_len]; first | done | omega)) only [go_sem, Nat.reduceEqDiff, Nat.reduceBEq, Nat.reduceAdd, Nat.reduceMul, Nat.reduceSub, Nat.reduceLeDiff, Int.reduceToNat, Int.reducePow]) (by simp (disch := first | omega | (simp only [lens, hc_len, hr_len, List.length_reverse, sgC_len]; first | done | omega)) only [go_sem, Nat.reduceEqDiff, Nat.reduceBEq, Nat.reduceAdd, Nat.reduceMul, Nat.reduceSub, Nat.reduceLeDiff, Int.reduceToNat, Int.reducePow])
  · exact T _ _ 4 3 rfl rfl rfl (by simp (disch := first | omega | (simp only [lens, hc_len, hr_len, List.length_reverse, sgC_len]; first | done | omega)) only [go_sem, Nat.reduceEqDiff, Nat.reduceBEq, Nat.reduceAdd, Nat.reduceMul, Nat.reduceSub, Nat.reduceLeDiff, Int.reduceToNat, Int.reducePow]) (by simp (disch := first | omega | (simp only [lens, hc_len, hr_len, List.length_reverse, sgC_len]; first | done | omega)) only [go_sem, Nat.reduceEqDiff, Nat.reduceBEq, Nat.reduceAdd, Nat.reduceMul, Nat.reduceSub, Nat.reduceLeDiff, Int.reduceToNat, Int.reducePow]) (by simp (disch := first | omega | (simp only [lens, hc_len, hr_len, List.length_reverse, sgC_len]; first | done | omega)) only [go_sem, Nat.reduceEqDiff, Nat.reduceBEq, Nat.reduceAdd, Nat.reduceMul, Nat.reduceSub, Nat.reduceLeDiff, Int.reduceToNat, Int.reducePow])
theorem HeadsTell_law (avs : List AV) (h : ShAll [roughTy, roughTy, hashTy] avs) : ACallsTo TC 10 avs [] (.bool true) [] := by
  simp only [ShAll] at h
  obtain ⟨_, _, rfl, h1, _, _, rfl, h2, _, _, rfl, h3, rfl⟩ := h
  obtain ⟨n, i, m, r, s, l, x, rfl, hm, hx, _⟩ := rough_h h1
  obtain ⟨n2, i2, m2, r2, s2, l2, y, rfl, hm2, hy, _⟩ := rough_h h2
  obtain ⟨key, rfl⟩ := hash_h h3
  exact HeadsTell_to n i m n2 i2 m2 r r2 key s s2 l l2 x y hx hy hm hm2
end Am
end Go.Proofs.YthgcooppjhcgcaaDoor
end
section
set_option linter.unusedSimpArgs false
set_option linter.unusedVariables false
/- What a law with the laid tables of sha begins with. -/
namespace Go.Proofs.YthgcooppjhcgcaaDoor.LawDoor
open Go.ChangeShapes Go.WideShapes Go.ChangeAt Go.RowKit
theorem own : ownKnob Tryd.prog.godebug = none := by kernel_rfl
theorem laidOut : laidOutB Tryd.prog = true := by kernel_rfl
def laidS : List (String × DataW Unit) := [("speculum/sha.first", Rows.laid_speculum_sha_first), ("speculum/sha.rounds", Rows.laid_speculum_sha_rounds)]
set_option maxRecDepth 100000
/-- The door's own heap meets the condition. -/
theorem door_met (os : Os) (args : Array Value) : laidMetH Tryd.prog laidS ((World.doorLaid Tryd.prog 400 os).forCall (fun _ _ => 0) ⟨#[], args, []⟩).memory :=
  laidMetH_of_parts3 (fuel := 8) (laidMet_of_run' 8 (by kernel_rfl) (by kernel_rfl)) (by kernel_rfl) (by kernel_rfl)
/-- What the condition gives the walks: the tables, as_ the machine knows them. -/
theorem rel_of {W : World} (h : laidMetH Tryd.prog laidS W) : Am.Rel Am.TC [] [] W := by
  rw [MakeChecks.laidMetH_plain _ _ _ (by kernel_rfl)] at h
  obtain ⟨ps, ⟨g0, t0, cs0, f0, p0, q0, hg0, ht0, hv0, hd0, ⟨g1, t1, cs1, f1, p1, q1, hg1, ht1, hv1, hd1, _, _⟩, _⟩, _, _⟩ := h
  have v0 := Am.vp_of_var (P := Tryd.prog) (n := "speculum/sha.first") (g := 0) (t := 179) (e := 177) (m := 8) (k := .u32) Am.shaFirst (by kernel_rfl) (by kernel_rfl) (by kernel_rfl) (by kernel_rfl) (by kernel_rfl) (by kernel_rfl) hg0 ht0 hv0 hd0
  have v1 := Am.vp_of_var (P := Tryd.prog) (n := "speculum/sha.rounds") (g := 1) (t := 178) (e := 177) (m := 64) (k := .u32) Am.shaRounds (by kernel_rfl) (by kernel_rfl) (by kernel_rfl) (by kernel_rfl) (by kernel_rfl) (by kernel_rfl) hg1 ht1 hv1 hd1
  refine ⟨rfl, fun r o h => by simp at h, fun r h => by simp at h, fun r r' pl pl' h => by simp at h, fun g cs h => ?_⟩
  simp only [Am.TC] at h
  split at h
  · rename_i hg; subst hg; cases h; exact v0
  · split at h
    · rename_i hg; subst hg; cases h; exact v1
    · cases h
end Go.Proofs.YthgcooppjhcgcaaDoor.LawDoor
end
