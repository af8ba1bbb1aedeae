import Derived.Test.YtfofemaglndnjaaDoorK48a26dccb
section
set_option linter.unusedSimpArgs false
set_option linter.unusedVariables false
/- Abstract code. (Printed by wip/gen.) -/
set_option maxRecDepth 10000
namespace Go.Proofs.YtfofemaglndnjaaDoor
namespace Am



-- 3 speculum/speculumlaw07.ProofsProof
@[go_sem] def speculumlaw07_ProofsProof_r0 : List AIns := [
  ⟨some 4, none, .no, .mv (.v (.bool false))⟩]
@[go_sem] def speculumlaw07_ProofsProof_r1 : List AIns := [
  ⟨some 11, none, .no, .mv (.t 0)⟩,
  ⟨some 12, none, .no, .lenSl (.t 11)⟩,
  ⟨some 13, none, .no, .bin .gtr .none (.t 12) (.v (.int .i64 (60)))⟩]
@[go_sem] def speculumlaw07_ProofsProof_r2 : List AIns := [
  ⟨some 14, none, .no, .call (.v (.fn 15 [])) []⟩,
  ⟨some 4, none, .no, .mv (.t 14)⟩]
def speculumlaw07_ProofsProof_c3 : ACode := .seq (.reg speculumlaw07_ProofsProof_r2) .ret
def speculumlaw07_ProofsProof_c4 : ACode := .cond (.t 13) speculumlaw07_ProofsProof_c3 .skip
def speculumlaw07_ProofsProof_c5 : ACode := .seq (.reg speculumlaw07_ProofsProof_r1) speculumlaw07_ProofsProof_c4
@[go_sem] def speculumlaw07_ProofsProof_r6 : List AIns := [
  ⟨some 5, none, .no, .mv (.v (.int .i64 (-1)))⟩]
@[go_sem] def speculumlaw07_ProofsProof_r7 : List AIns := [
  ⟨some 15, none, .no, .mv (.t 5)⟩,
  ⟨some 16, none, .no, .mv (.t 0)⟩,
  ⟨some 17, none, .no, .lenSl (.t 16)⟩,
  ⟨some 18, none, .no, .bin .add .none (.t 17) (.v (.int .i64 (2)))⟩,
  ⟨some 19, none, .no, .bin .leq .none (.t 15) (.t 18)⟩]
def speculumlaw07_ProofsProof_c8 : ACode := .cond (.t 19) .skip (.exit 0)
def speculumlaw07_ProofsProof_c9 : ACode := .seq (.reg speculumlaw07_ProofsProof_r7) speculumlaw07_ProofsProof_c8
@[go_sem] def speculumlaw07_ProofsProof_r10 : List AIns := [
  ⟨some 22, none, .no, .mv (.t 5)⟩,
  ⟨some 6, none, .no, .mv (.t 22)⟩]
@[go_sem] def speculumlaw07_ProofsProof_r11 : List AIns := [
  ⟨some 23, none, .no, .mv (.t 5)⟩,
  ⟨some 24, none, .no, .mv (.t 0)⟩,
  ⟨some 25, none, .no, .lenSl (.t 24)⟩,
  ⟨some 26, none, .no, .bin .add .none (.t 25) (.v (.int .i64 (2)))⟩,
  ⟨some 27, none, .no, .bin .eql .none (.t 23) (.t 26)⟩]
@[go_sem] def speculumlaw07_ProofsProof_r12 : List AIns := [
  ⟨some 28, none, .no, .mv (.t 1)⟩,
  ⟨some 6, none, .no, .mv (.t 28)⟩]
def speculumlaw07_ProofsProof_c13 : ACode := .cond (.t 27) (.reg speculumlaw07_ProofsProof_r12) .skip
def speculumlaw07_ProofsProof_c14 : ACode := .seq (.reg speculumlaw07_ProofsProof_r11) speculumlaw07_ProofsProof_c13
@[go_sem] def speculumlaw07_ProofsProof_r15 : List AIns := [
  ⟨some 30, none, .no, .mv (.t 0)⟩,
  ⟨some 31, none, .no, .mv (.t 6)⟩,
  ⟨some 32, none, .no, .call (.v (.fn 16 [])) [(.t 30), (.t 31)]⟩,
  ⟨some 29, none, .no, .mv (.t 32)⟩,
  ⟨some 33, none, .no, .ext 0 (.t 29)⟩,
  ⟨some 34, none, .no, .ext 1 (.t 29)⟩,
  ⟨some 7, none, .no, .mv (.t 33)⟩,
  ⟨some 8, none, .no, .mv (.t 34)⟩]
@[go_sem] def speculumlaw07_ProofsProof_r16 : List AIns := [
  ⟨some 36, none, .no, .mv (.t 0)⟩,
  ⟨some 37, none, .no, .mv (.t 6)⟩,
  ⟨some 38, none, .no, .call (.v (.fn 17 [])) [(.t 36), (.t 37)]⟩,
  ⟨some 35, none, .no, .mv (.t 38)⟩,
  ⟨some 39, none, .no, .ext 0 (.t 35)⟩,
  ⟨some 40, none, .no, .ext 1 (.t 35)⟩,
  ⟨some 9, none, .no, .mv (.t 39)⟩,
  ⟨some 10, none, .no, .mv (.t 40)⟩]
@[go_sem] def speculumlaw07_ProofsProof_r17 : List AIns := [
  ⟨some 41, none, .no, .mv (.t 7)⟩,
  ⟨some 42, none, .no, .mv (.t 9)⟩,
  ⟨some 43, none, .no, .call (.v (.fn 18 [])) [(.t 41), (.t 42)]⟩,
  ⟨some 44, none, .no, .un .not (.t 43)⟩,
  ⟨some 45, none, .no, .mv (.t 44)⟩,
  ⟨some 46, some (45, false), .no, .mv (.t 8)⟩,
  ⟨some 47, some (45, false), .no, .mv (.t 10)⟩,
  ⟨some 48, some (45, false), .no, .bin .neq .none (.t 46) (.t 47)⟩,
  ⟨some 49, none, .no, .pick (.t 45) (.v (.bool true)) (.t 48)⟩]
@[go_sem] def speculumlaw07_ProofsProof_r18 : List AIns := [
  ⟨some 4, none, .no, .mv (.v (.bool false))⟩]
def speculumlaw07_ProofsProof_c19 : ACode := .seq (.reg speculumlaw07_ProofsProof_r18) .ret
def speculumlaw07_ProofsProof_c20 : ACode := .cond (.t 49) speculumlaw07_ProofsProof_c19 .skip
def speculumlaw07_ProofsProof_c21 : ACode := .seq (.reg speculumlaw07_ProofsProof_r17) speculumlaw07_ProofsProof_c20
def speculumlaw07_ProofsProof_c22 : ACode := .seq (.reg speculumlaw07_ProofsProof_r16) speculumlaw07_ProofsProof_c21
def speculumlaw07_ProofsProof_c23 : ACode := .seq (.reg speculumlaw07_ProofsProof_r15) speculumlaw07_ProofsProof_c22
def speculumlaw07_ProofsProof_c24 : ACode := .seq speculumlaw07_ProofsProof_c14 speculumlaw07_ProofsProof_c23
def speculumlaw07_ProofsProof_c25 : ACode := .seq (.reg speculumlaw07_ProofsProof_r10) speculumlaw07_ProofsProof_c24
@[go_sem] def speculumlaw07_ProofsProof_r26 : List AIns := [
  ⟨some 20, none, .no, .mv (.t 5)⟩,
  ⟨some 21, none, .no, .bin .add .none (.t 20) (.v (.int .i64 (1)))⟩,
  ⟨some 5, none, .no, .mv (.t 21)⟩]
def speculumlaw07_ProofsProof_c27 : ACode := .seq (.block 1 speculumlaw07_ProofsProof_c25) (.reg speculumlaw07_ProofsProof_r26)
def speculumlaw07_ProofsProof_c28 : ACode := .seq speculumlaw07_ProofsProof_c9 speculumlaw07_ProofsProof_c27
def speculumlaw07_ProofsProof_c29 : ACode := .loop speculumlaw07_ProofsProof_c28
def speculumlaw07_ProofsProof_c30 : ACode := .block 0 speculumlaw07_ProofsProof_c29
def speculumlaw07_ProofsProof_c31 : ACode := .seq (.reg speculumlaw07_ProofsProof_r6) speculumlaw07_ProofsProof_c30
@[go_sem] def speculumlaw07_ProofsProof_r32 : List AIns := [
  ⟨some 50, none, .no, .call (.v (.fn 15 [])) []⟩,
  ⟨some 4, none, .no, .mv (.t 50)⟩]
def speculumlaw07_ProofsProof_c33 : ACode := .seq (.reg speculumlaw07_ProofsProof_r32) .ret
def speculumlaw07_ProofsProof_c34 : ACode := .seq speculumlaw07_ProofsProof_c31 speculumlaw07_ProofsProof_c33
def speculumlaw07_ProofsProof_c35 : ACode := .seq speculumlaw07_ProofsProof_c5 speculumlaw07_ProofsProof_c34
def speculumlaw07_ProofsProof_c36 : ACode := .seq (.reg speculumlaw07_ProofsProof_r0) speculumlaw07_ProofsProof_c35
theorem speculumlaw07_ProofsProof_ok : cFn TC 3 = some (51, [.t 4], speculumlaw07_ProofsProof_c36) := by kernel_rfl

-- 4 speculum/speculumlaw07.ProofsCheck
@[go_sem] def speculumlaw07_ProofsCheck_r0 : List AIns := [
  ⟨some 2, none, .no, .box (.t 0)⟩,
  ⟨some 4, none, .no, .mv (.v (.bool false))⟩]
@[go_sem] def speculumlaw07_ProofsCheck_r1 : List AIns := [
  ⟨some 14, none, .no, .mv (.t 1)⟩,
  ⟨some 15, none, .no, .lenSl (.t 14)⟩,
  ⟨some 16, none, .no, .bin .gtr .none (.t 15) (.v (.int .i64 (80)))⟩]
@[go_sem] def speculumlaw07_ProofsCheck_r2 : List AIns := [
  ⟨some 17, none, .no, .call (.v (.fn 15 [])) []⟩,
  ⟨some 4, none, .no, .mv (.t 17)⟩]
def speculumlaw07_ProofsCheck_c3 : ACode := .seq (.reg speculumlaw07_ProofsCheck_r2) .ret
def speculumlaw07_ProofsCheck_c4 : ACode := .cond (.t 16) speculumlaw07_ProofsCheck_c3 .skip
def speculumlaw07_ProofsCheck_c5 : ACode := .seq (.reg speculumlaw07_ProofsCheck_r1) speculumlaw07_ProofsCheck_c4
@[go_sem] def speculumlaw07_ProofsCheck_r6 : List AIns := [
  ⟨some 18, none, .no, .fa 0 (.t 2)⟩,
  ⟨some 19, none, .rd, .load false 1 (.t 18)⟩,
  ⟨some 20, none, .no, .fa 1 (.t 2)⟩,
  ⟨some 21, none, .rd, .load false 1 (.t 20)⟩,
  ⟨some 22, none, .no, .fa 2 (.t 2)⟩,
  ⟨some 23, none, .rd, .load true 32 (.t 22)⟩,
  ⟨some 24, none, .no, .fa 34 (.t 2)⟩,
  ⟨some 25, none, .rd, .load true 32 (.t 24)⟩,
  ⟨some 26, none, .no, .mv (.t 1)⟩,
  ⟨some 27, none, .ef, .call (.v (.fn 19 [])) [(.t 19), (.t 21), (.t 23), (.t 25), (.t 26)]⟩,
  ⟨some 28, none, .no, .fa 0 (.t 2)⟩,
  ⟨some 29, none, .rd, .load false 1 (.t 28)⟩,
  ⟨some 30, none, .no, .fa 1 (.t 2)⟩,
  ⟨some 31, none, .rd, .load false 1 (.t 30)⟩,
  ⟨some 32, none, .no, .fa 2 (.t 2)⟩,
  ⟨some 33, none, .rd, .load true 32 (.t 32)⟩,
  ⟨some 34, none, .no, .fa 34 (.t 2)⟩,
  ⟨some 35, none, .rd, .load true 32 (.t 34)⟩,
  ⟨some 36, none, .no, .mv (.t 1)⟩,
  ⟨some 37, none, .no, .call (.v (.fn 20 [])) [(.t 29), (.t 31), (.t 33), (.t 35), (.t 36)]⟩,
  ⟨some 38, none, .no, .bin .neq .none (.t 27) (.t 37)⟩]
@[go_sem] def speculumlaw07_ProofsCheck_r7 : List AIns := [
  ⟨some 4, none, .no, .mv (.v (.bool false))⟩]
def speculumlaw07_ProofsCheck_c8 : ACode := .seq (.reg speculumlaw07_ProofsCheck_r7) .ret
def speculumlaw07_ProofsCheck_c9 : ACode := .cond (.t 38) speculumlaw07_ProofsCheck_c8 .skip
def speculumlaw07_ProofsCheck_c10 : ACode := .seq (.reg speculumlaw07_ProofsCheck_r6) speculumlaw07_ProofsCheck_c9
@[go_sem] def speculumlaw07_ProofsCheck_r11 : List AIns := [
  ⟨some 39, none, .no, .fa 1 (.t 2)⟩,
  ⟨some 40, none, .no, .load false 1 (.t 39)⟩,
  ⟨some 41, none, .no, .bin .and .none (.t 40) (.v (.int .i64 (127)))⟩,
  ⟨some 5, none, .no, .mv (.t 41)⟩]
@[go_sem] def speculumlaw07_ProofsCheck_r12 : List AIns := [
  ⟨some 42, none, .no, .fa 0 (.t 2)⟩,
  ⟨some 43, none, .no, .load false 1 (.t 42)⟩,
  ⟨some 44, none, .no, .bin .and .none (.t 43) (.v (.int .i64 (127)))⟩,
  ⟨some 45, none, .no, .mv (.t 5)⟩,
  ⟨some 46, none, .no, .bin .add .none (.t 45) (.v (.int .i64 (1)))⟩,
  ⟨some 47, none, .no, .bin .rem .none (.t 44) (.t 46)⟩,
  ⟨some 6, none, .no, .mv (.t 47)⟩]
@[go_sem] def speculumlaw07_ProofsCheck_r13 : List AIns := [
  ⟨some 48, none, .no, .mv (.t 5)⟩,
  ⟨some 49, none, .no, .fa 0 (.t 2)⟩,
  ⟨some 50, none, .no, .load false 1 (.t 49)⟩,
  ⟨some 51, none, .no, .conv (.int .u8) (.t 50)⟩,
  ⟨some 52, none, .no, .call (.v (.fn 21 [])) [(.t 48), (.t 51)]⟩,
  ⟨some 7, none, .no, .mv (.t 52)⟩]
@[go_sem] def speculumlaw07_ProofsCheck_r14 : List AIns := [
  ⟨some 54, none, .no, .mv (.t 7)⟩,
  ⟨some 55, none, .no, .mv (.t 6)⟩,
  ⟨some 56, none, .no, .call (.v (.fn 17 [])) [(.t 54), (.t 55)]⟩,
  ⟨some 53, none, .no, .mv (.t 56)⟩,
  ⟨some 57, none, .no, .ext 0 (.t 53)⟩,
  ⟨some 58, none, .no, .ext 1 (.t 53)⟩,
  ⟨some 8, none, .no, .mv (.t 57)⟩,
  ⟨some 9, none, .no, .mv (.t 58)⟩]
@[go_sem] def speculumlaw07_ProofsCheck_r15 : List AIns := [
  ⟨some 59, none, .no, .mv (.t 7)⟩,
  ⟨some 60, none, .no, .mv (.t 6)⟩,
  ⟨some 61, none, .no, .slice (.sl 32) (.t 59) none (some (.t 60)) none⟩,
  ⟨some 62, none, .no, .call (.v (.fn 22 [])) [(.t 61)]⟩,
  ⟨some 63, none, .no, .mv (.t 7)⟩,
  ⟨some 64, none, .no, .call (.v (.fn 22 [])) [(.t 63)]⟩,
  ⟨some 10, none, .no, .alloc [(.int .u8 (0)), (.int .u8 (0)), (.int .u8 (0)), (.int .u8 (0)), (.int .u8 (0)), (.int .u8 (0)), (.int .u8 (0)), (.int .u8 (0)), (.int .u8 (0)), (.int .u8 (0)), (.int .u8 (0)), (.int .u8 (0)), (.int .u8 (0)), (.int .u8 (0)), (.int .u8 (0)), (.int .u8 (0)), (.int .u8 (0)), (.int .u8 (0)), (.int .u8 (0)), (.int .u8 (0)), (.int .u8 (0)), (.int .u8 (0)), (.int .u8 (0)), (.int .u8 (0)), (.int .u8 (0)), (.int .u8 (0)), (.int .u8 (0)), (.int .u8 (0)), (.int .u8 (0)), (.int .u8 (0)), (.int .u8 (0)), (.int .u8 (0))]⟩,
  ⟨some 11, none, .no, .alloc [(.int .u8 (0)), (.int .u8 (0)), (.int .u8 (0)), (.int .u8 (0)), (.int .u8 (0)), (.int .u8 (0)), (.int .u8 (0)), (.int .u8 (0)), (.int .u8 (0)), (.int .u8 (0)), (.int .u8 (0)), (.int .u8 (0)), (.int .u8 (0)), (.int .u8 (0)), (.int .u8 (0)), (.int .u8 (0)), (.int .u8 (0)), (.int .u8 (0)), (.int .u8 (0)), (.int .u8 (0)), (.int .u8 (0)), (.int .u8 (0)), (.int .u8 (0)), (.int .u8 (0)), (.int .u8 (0)), (.int .u8 (0)), (.int .u8 (0)), (.int .u8 (0)), (.int .u8 (0)), (.int .u8 (0)), (.int .u8 (0)), (.int .u8 (0))]⟩,
  ⟨none, none, .no, .store 32 (.t 10) (.t 62)⟩,
  ⟨none, none, .no, .store 32 (.t 11) (.t 64)⟩]
@[go_sem] def speculumlaw07_ProofsCheck_r16 : List AIns := [
  ⟨some 65, none, .no, .mv (.t 6)⟩,
  ⟨some 66, none, .no, .mv (.t 5)⟩,
  ⟨some 67, none, .rd, .load true 32 (.t 10)⟩,
  ⟨some 68, none, .rd, .load true 32 (.t 11)⟩,
  ⟨some 69, none, .no, .mv (.t 8)⟩,
  ⟨some 70, none, .no, .call (.v (.fn 19 [])) [(.t 65), (.t 66), (.t 67), (.t 68), (.t 69)]⟩,
  ⟨some 71, none, .no, .bin .neq .none (.t 70) (.v (.int .i64 (0)))⟩,
  ⟨some 72, none, .no, .mv (.t 71)⟩,
  ⟨some 73, some (72, false), .no, .mv (.t 6)⟩,
  ⟨some 74, some (72, false), .no, .mv (.t 5)⟩,
  ⟨some 75, some (72, false), .no, .fa 2 (.t 2)⟩,
  ⟨some 76, some (72, false), .rd, .load true 32 (.t 75)⟩,
  ⟨some 77, some (72, false), .rd, .load true 32 (.t 11)⟩,
  ⟨some 78, some (72, false), .no, .mv (.t 8)⟩,
  ⟨some 79, some (72, false), .ef, .call (.v (.fn 19 [])) [(.t 73), (.t 74), (.t 76), (.t 77), (.t 78)]⟩,
  ⟨some 80, some (72, false), .no, .mv (.t 6)⟩,
  ⟨some 81, some (72, false), .no, .mv (.t 5)⟩,
  ⟨some 82, some (72, false), .no, .fa 2 (.t 2)⟩,
  ⟨some 83, some (72, false), .rd, .load true 32 (.t 82)⟩,
  ⟨some 84, some (72, false), .rd, .load true 32 (.t 11)⟩,
  ⟨some 85, some (72, false), .no, .mv (.t 8)⟩,
  ⟨some 86, some (72, false), .no, .call (.v (.fn 20 [])) [(.t 80), (.t 81), (.t 83), (.t 84), (.t 85)]⟩,
  ⟨some 87, some (72, false), .no, .bin .neq .none (.t 79) (.t 86)⟩,
  ⟨some 88, none, .no, .pick (.t 72) (.v (.bool true)) (.t 87)⟩,
  ⟨some 89, none, .no, .mv (.t 88)⟩,
  ⟨some 90, some (89, false), .no, .mv (.t 6)⟩,
  ⟨some 91, some (89, false), .no, .mv (.t 5)⟩,
  ⟨some 92, some (89, false), .rd, .load true 32 (.t 10)⟩,
  ⟨some 93, some (89, false), .no, .fa 34 (.t 2)⟩,
  ⟨some 94, some (89, false), .rd, .load true 32 (.t 93)⟩,
  ⟨some 95, some (89, false), .no, .mv (.t 8)⟩,
  ⟨some 96, some (89, false), .ef, .call (.v (.fn 19 [])) [(.t 90), (.t 91), (.t 92), (.t 94), (.t 95)]⟩,
  ⟨some 97, some (89, false), .no, .mv (.t 6)⟩,
  ⟨some 98, some (89, false), .no, .mv (.t 5)⟩,
  ⟨some 99, some (89, false), .rd, .load true 32 (.t 10)⟩,
  ⟨some 100, some (89, false), .no, .fa 34 (.t 2)⟩,
  ⟨some 101, some (89, false), .rd, .load true 32 (.t 100)⟩,
  ⟨some 102, some (89, false), .no, .mv (.t 8)⟩,
  ⟨some 103, some (89, false), .no, .call (.v (.fn 20 [])) [(.t 97), (.t 98), (.t 99), (.t 101), (.t 102)]⟩,
  ⟨some 104, some (89, false), .no, .bin .neq .none (.t 96) (.t 103)⟩,
  ⟨some 105, none, .no, .pick (.t 89) (.v (.bool true)) (.t 104)⟩,
  ⟨some 106, none, .no, .mv (.t 105)⟩,
  ⟨some 107, some (106, false), .no, .mv (.t 6)⟩,
  ⟨some 108, some (106, false), .no, .mv (.t 5)⟩,
  ⟨some 109, some (106, false), .rd, .load true 32 (.t 10)⟩,
  ⟨some 110, some (106, false), .rd, .load true 32 (.t 11)⟩,
  ⟨some 111, some (106, false), .no, .mv (.t 1)⟩,
  ⟨some 112, some (106, false), .ef, .call (.v (.fn 19 [])) [(.t 107), (.t 108), (.t 109), (.t 110), (.t 111)]⟩,
  ⟨some 113, some (106, false), .no, .mv (.t 6)⟩,
  ⟨some 114, some (106, false), .no, .mv (.t 5)⟩,
  ⟨some 115, some (106, false), .rd, .load true 32 (.t 10)⟩,
  ⟨some 116, some (106, false), .rd, .load true 32 (.t 11)⟩,
  ⟨some 117, some (106, false), .no, .mv (.t 1)⟩,
  ⟨some 118, some (106, false), .no, .call (.v (.fn 20 [])) [(.t 113), (.t 114), (.t 115), (.t 116), (.t 117)]⟩,
  ⟨some 119, some (106, false), .no, .bin .neq .none (.t 112) (.t 118)⟩,
  ⟨some 120, none, .no, .pick (.t 106) (.v (.bool true)) (.t 119)⟩]
@[go_sem] def speculumlaw07_ProofsCheck_r17 : List AIns := [
  ⟨some 4, none, .no, .mv (.v (.bool false))⟩]
def speculumlaw07_ProofsCheck_c18 : ACode := .seq (.reg speculumlaw07_ProofsCheck_r17) .ret
def speculumlaw07_ProofsCheck_c19 : ACode := .cond (.t 120) speculumlaw07_ProofsCheck_c18 .skip
def speculumlaw07_ProofsCheck_c20 : ACode := .seq (.reg speculumlaw07_ProofsCheck_r16) speculumlaw07_ProofsCheck_c19
@[go_sem] def speculumlaw07_ProofsCheck_r21 : List AIns := [
  ⟨some 12, none, .no, .mv (.v (.int .i64 (0)))⟩]
@[go_sem] def speculumlaw07_ProofsCheck_r22 : List AIns := [
  ⟨some 121, none, .no, .mv (.t 12)⟩,
  ⟨some 122, none, .no, .mv (.t 8)⟩,
  ⟨some 123, none, .no, .lenSl (.t 122)⟩,
  ⟨some 124, none, .no, .bin .lss .none (.t 121) (.t 123)⟩]
def speculumlaw07_ProofsCheck_c23 : ACode := .cond (.t 124) .skip (.exit 0)
def speculumlaw07_ProofsCheck_c24 : ACode := .seq (.reg speculumlaw07_ProofsCheck_r22) speculumlaw07_ProofsCheck_c23
@[go_sem] def speculumlaw07_ProofsCheck_r25 : List AIns := [
  ⟨some 127, none, .no, .mv (.t 8)⟩,
  ⟨some 128, none, .no, .app 32 (.v .nilsl) (.t 127)⟩,
  ⟨some 13, none, .no, .mv (.t 128)⟩]
@[go_sem] def speculumlaw07_ProofsCheck_r26 : List AIns := [
  ⟨some 129, none, .no, .mv (.t 13)⟩,
  ⟨some 130, none, .no, .mv (.t 12)⟩,
  ⟨some 131, none, .no, .fa 2 (.t 2)⟩,
  ⟨some 132, none, .no, .load true 32 (.t 131)⟩,
  ⟨some 133, none, .no, .iaSl 32 (.t 129) (.t 130)⟩,
  ⟨none, none, .no, .store 32 (.t 133) (.t 132)⟩]
@[go_sem] def speculumlaw07_ProofsCheck_r27 : List AIns := [
  ⟨some 134, none, .no, .mv (.t 6)⟩,
  ⟨some 135, none, .no, .mv (.t 5)⟩,
  ⟨some 136, none, .rd, .load true 32 (.t 10)⟩,
  ⟨some 137, none, .rd, .load true 32 (.t 11)⟩,
  ⟨some 138, none, .no, .mv (.t 13)⟩,
  ⟨some 139, none, .ef, .call (.v (.fn 19 [])) [(.t 134), (.t 135), (.t 136), (.t 137), (.t 138)]⟩,
  ⟨some 140, none, .no, .mv (.t 6)⟩,
  ⟨some 141, none, .no, .mv (.t 5)⟩,
  ⟨some 142, none, .rd, .load true 32 (.t 10)⟩,
  ⟨some 143, none, .rd, .load true 32 (.t 11)⟩,
  ⟨some 144, none, .no, .mv (.t 13)⟩,
  ⟨some 145, none, .no, .call (.v (.fn 20 [])) [(.t 140), (.t 141), (.t 142), (.t 143), (.t 144)]⟩,
  ⟨some 146, none, .no, .bin .neq .none (.t 139) (.t 145)⟩]
@[go_sem] def speculumlaw07_ProofsCheck_r28 : List AIns := [
  ⟨some 4, none, .no, .mv (.v (.bool false))⟩]
def speculumlaw07_ProofsCheck_c29 : ACode := .seq (.reg speculumlaw07_ProofsCheck_r28) .ret
def speculumlaw07_ProofsCheck_c30 : ACode := .cond (.t 146) speculumlaw07_ProofsCheck_c29 .skip
def speculumlaw07_ProofsCheck_c31 : ACode := .seq (.reg speculumlaw07_ProofsCheck_r27) speculumlaw07_ProofsCheck_c30
def speculumlaw07_ProofsCheck_c32 : ACode := .seq (.reg speculumlaw07_ProofsCheck_r26) speculumlaw07_ProofsCheck_c31
def speculumlaw07_ProofsCheck_c33 : ACode := .seq (.reg speculumlaw07_ProofsCheck_r25) speculumlaw07_ProofsCheck_c32
@[go_sem] def speculumlaw07_ProofsCheck_r34 : List AIns := [
  ⟨some 125, none, .no, .mv (.t 12)⟩,
  ⟨some 126, none, .no, .bin .add .none (.t 125) (.v (.int .i64 (1)))⟩,
  ⟨some 12, none, .no, .mv (.t 126)⟩]
def speculumlaw07_ProofsCheck_c35 : ACode := .seq (.block 1 speculumlaw07_ProofsCheck_c33) (.reg speculumlaw07_ProofsCheck_r34)
def speculumlaw07_ProofsCheck_c36 : ACode := .seq speculumlaw07_ProofsCheck_c24 speculumlaw07_ProofsCheck_c35
def speculumlaw07_ProofsCheck_c37 : ACode := .loop speculumlaw07_ProofsCheck_c36
def speculumlaw07_ProofsCheck_c38 : ACode := .block 0 speculumlaw07_ProofsCheck_c37
def speculumlaw07_ProofsCheck_c39 : ACode := .seq (.reg speculumlaw07_ProofsCheck_r21) speculumlaw07_ProofsCheck_c38
@[go_sem] def speculumlaw07_ProofsCheck_r40 : List AIns := [
  ⟨some 147, none, .no, .call (.v (.fn 15 [])) []⟩,
  ⟨some 4, none, .no, .mv (.t 147)⟩]
def speculumlaw07_ProofsCheck_c41 : ACode := .seq (.reg speculumlaw07_ProofsCheck_r40) .ret
def speculumlaw07_ProofsCheck_c42 : ACode := .seq speculumlaw07_ProofsCheck_c39 speculumlaw07_ProofsCheck_c41
def speculumlaw07_ProofsCheck_c43 : ACode := .seq speculumlaw07_ProofsCheck_c20 speculumlaw07_ProofsCheck_c42
def speculumlaw07_ProofsCheck_c44 : ACode := .seq (.reg speculumlaw07_ProofsCheck_r15) speculumlaw07_ProofsCheck_c43
def speculumlaw07_ProofsCheck_c45 : ACode := .seq (.reg speculumlaw07_ProofsCheck_r14) speculumlaw07_ProofsCheck_c44
def speculumlaw07_ProofsCheck_c46 : ACode := .seq (.reg speculumlaw07_ProofsCheck_r13) speculumlaw07_ProofsCheck_c45
def speculumlaw07_ProofsCheck_c47 : ACode := .seq (.reg speculumlaw07_ProofsCheck_r12) speculumlaw07_ProofsCheck_c46
def speculumlaw07_ProofsCheck_c48 : ACode := .seq (.reg speculumlaw07_ProofsCheck_r11) speculumlaw07_ProofsCheck_c47
def speculumlaw07_ProofsCheck_c49 : ACode := .seq speculumlaw07_ProofsCheck_c10 speculumlaw07_ProofsCheck_c48
def speculumlaw07_ProofsCheck_c50 : ACode := .seq speculumlaw07_ProofsCheck_c5 speculumlaw07_ProofsCheck_c49
def speculumlaw07_ProofsCheck_c51 : ACode := .seq (.reg speculumlaw07_ProofsCheck_r0) speculumlaw07_ProofsCheck_c50
theorem speculumlaw07_ProofsCheck_ok : cFn TC 4 = some (148, [.t 4], speculumlaw07_ProofsCheck_c51) := by kernel_rfl

-- 5 speculum/speculumlaw07.ProofsBack
@[go_sem] def speculumlaw07_ProofsBack_r0 : List AIns := [
  ⟨some 3, none, .no, .box (.t 1)⟩,
  ⟨some 4, none, .no, .mv (.v (.bool false))⟩]
@[go_sem] def speculumlaw07_ProofsBack_r1 : List AIns := [
  ⟨some 10, none, .no, .mv (.t 0)⟩,
  ⟨some 11, none, .no, .lenSl (.t 10)⟩,
  ⟨some 12, none, .no, .bin .gtr .none (.t 11) (.v (.int .i64 (40)))⟩]
@[go_sem] def speculumlaw07_ProofsBack_r2 : List AIns := [
  ⟨some 13, none, .no, .call (.v (.fn 15 [])) []⟩,
  ⟨some 4, none, .no, .mv (.t 13)⟩]
def speculumlaw07_ProofsBack_c3 : ACode := .seq (.reg speculumlaw07_ProofsBack_r2) .ret
def speculumlaw07_ProofsBack_c4 : ACode := .cond (.t 12) speculumlaw07_ProofsBack_c3 .skip
def speculumlaw07_ProofsBack_c5 : ACode := .seq (.reg speculumlaw07_ProofsBack_r1) speculumlaw07_ProofsBack_c4
@[go_sem] def speculumlaw07_ProofsBack_r6 : List AIns := [
  ⟨some 14, none, .no, .mv (.t 0)⟩,
  ⟨some 15, none, .no, .call (.v (.fn 22 [])) [(.t 14)]⟩,
  ⟨some 5, none, .no, .alloc [(.int .u8 (0)), (.int .u8 (0)), (.int .u8 (0)), (.int .u8 (0)), (.int .u8 (0)), (.int .u8 (0)), (.int .u8 (0)), (.int .u8 (0)), (.int .u8 (0)), (.int .u8 (0)), (.int .u8 (0)), (.int .u8 (0)), (.int .u8 (0)), (.int .u8 (0)), (.int .u8 (0)), (.int .u8 (0)), (.int .u8 (0)), (.int .u8 (0)), (.int .u8 (0)), (.int .u8 (0)), (.int .u8 (0)), (.int .u8 (0)), (.int .u8 (0)), (.int .u8 (0)), (.int .u8 (0)), (.int .u8 (0)), (.int .u8 (0)), (.int .u8 (0)), (.int .u8 (0)), (.int .u8 (0)), (.int .u8 (0)), (.int .u8 (0))]⟩,
  ⟨none, none, .no, .store 32 (.t 5) (.t 15)⟩]
@[go_sem] def speculumlaw07_ProofsBack_r7 : List AIns := [
  ⟨some 6, none, .no, .mv (.v (.int .i64 (0)))⟩]
@[go_sem] def speculumlaw07_ProofsBack_r8 : List AIns := [
  ⟨some 16, none, .no, .mv (.t 6)⟩,
  ⟨some 17, none, .no, .mv (.t 0)⟩,
  ⟨some 18, none, .no, .lenSl (.t 17)⟩,
  ⟨some 19, none, .no, .bin .leq .none (.t 16) (.t 18)⟩]
def speculumlaw07_ProofsBack_c9 : ACode := .cond (.t 19) .skip (.exit 0)
def speculumlaw07_ProofsBack_c10 : ACode := .seq (.reg speculumlaw07_ProofsBack_r8) speculumlaw07_ProofsBack_c9
@[go_sem] def speculumlaw07_ProofsBack_r11 : List AIns := [
  ⟨some 23, none, .no, .mv (.t 0)⟩,
  ⟨some 24, none, .no, .mv (.t 6)⟩,
  ⟨some 25, none, .no, .call (.v (.fn 16 [])) [(.t 23), (.t 24)]⟩,
  ⟨some 22, none, .no, .mv (.t 25)⟩,
  ⟨some 26, none, .no, .ext 0 (.t 22)⟩,
  ⟨some 27, none, .no, .ext 1 (.t 22)⟩,
  ⟨some 7, none, .no, .mv (.t 26)⟩,
  ⟨some 8, none, .no, .mv (.t 27)⟩]
@[go_sem] def speculumlaw07_ProofsBack_r12 : List AIns := [
  ⟨some 28, none, .no, .mv (.t 0)⟩,
  ⟨some 29, none, .no, .mv (.t 6)⟩,
  ⟨some 30, none, .no, .slice (.sl 32) (.t 28) none (some (.t 29)) none⟩,
  ⟨some 31, none, .no, .call (.v (.fn 22 [])) [(.t 30)]⟩,
  ⟨some 9, none, .no, .alloc [(.int .u8 (0)), (.int .u8 (0)), (.int .u8 (0)), (.int .u8 (0)), (.int .u8 (0)), (.int .u8 (0)), (.int .u8 (0)), (.int .u8 (0)), (.int .u8 (0)), (.int .u8 (0)), (.int .u8 (0)), (.int .u8 (0)), (.int .u8 (0)), (.int .u8 (0)), (.int .u8 (0)), (.int .u8 (0)), (.int .u8 (0)), (.int .u8 (0)), (.int .u8 (0)), (.int .u8 (0)), (.int .u8 (0)), (.int .u8 (0)), (.int .u8 (0)), (.int .u8 (0)), (.int .u8 (0)), (.int .u8 (0)), (.int .u8 (0)), (.int .u8 (0)), (.int .u8 (0)), (.int .u8 (0)), (.int .u8 (0)), (.int .u8 (0))]⟩,
  ⟨none, none, .no, .store 32 (.t 9) (.t 31)⟩]
@[go_sem] def speculumlaw07_ProofsBack_r13 : List AIns := [
  ⟨some 32, none, .no, .mv (.t 8)⟩,
  ⟨some 33, none, .no, .bin .neq .none (.t 32) (.v (.int .i64 (0)))⟩,
  ⟨some 34, none, .no, .mv (.t 33)⟩,
  ⟨some 35, some (34, false), .no, .mv (.t 7)⟩,
  ⟨some 36, some (34, false), .no, .lenSl (.t 35)⟩,
  ⟨some 37, some (34, false), .no, .bin .gtr .none (.t 36) (.v (.int .i64 (13)))⟩,
  ⟨some 38, none, .no, .pick (.t 34) (.v (.bool true)) (.t 37)⟩,
  ⟨some 39, none, .no, .mv (.t 38)⟩,
  ⟨some 40, some (39, false), .no, .mv (.t 6)⟩,
  ⟨some 41, some (39, false), .no, .mv (.t 0)⟩,
  ⟨some 42, some (39, false), .no, .lenSl (.t 41)⟩,
  ⟨some 43, some (39, false), .no, .load true 32 (.t 9)⟩,
  ⟨some 44, some (39, false), .no, .load true 32 (.t 5)⟩,
  ⟨some 45, some (39, false), .no, .mv (.t 7)⟩,
  ⟨some 46, some (39, false), .no, .call (.v (.fn 19 [])) [(.t 40), (.t 42), (.t 43), (.t 44), (.t 45)]⟩,
  ⟨some 47, some (39, false), .no, .bin .neq .none (.t 46) (.v (.int .i64 (0)))⟩,
  ⟨some 48, none, .no, .pick (.t 39) (.v (.bool true)) (.t 47)⟩]
@[go_sem] def speculumlaw07_ProofsBack_r14 : List AIns := [
  ⟨some 4, none, .no, .mv (.v (.bool false))⟩]
def speculumlaw07_ProofsBack_c15 : ACode := .seq (.reg speculumlaw07_ProofsBack_r14) .ret
def speculumlaw07_ProofsBack_c16 : ACode := .cond (.t 48) speculumlaw07_ProofsBack_c15 .skip
def speculumlaw07_ProofsBack_c17 : ACode := .seq (.reg speculumlaw07_ProofsBack_r13) speculumlaw07_ProofsBack_c16
@[go_sem] def speculumlaw07_ProofsBack_r18 : List AIns := [
  ⟨some 49, none, .no, .mv (.t 6)⟩,
  ⟨some 50, none, .no, .mv (.t 0)⟩,
  ⟨some 51, none, .no, .lenSl (.t 50)⟩,
  ⟨some 52, none, .rd, .load true 32 (.t 9)⟩,
  ⟨some 53, none, .rd, .load true 32 (.t 5)⟩,
  ⟨some 54, none, .no, .mv (.t 7)⟩,
  ⟨some 55, none, .ef, .app 32 (.v .nilsl) (.t 54)⟩,
  ⟨some 56, none, .rd, .load true 32 (.t 3)⟩,
  ⟨some 57, none, .no, .lit 32 [(.t 56)]⟩,
  ⟨some 58, none, .ef, .app 32 (.t 55) (.t 57)⟩,
  ⟨some 59, none, .no, .call (.v (.fn 19 [])) [(.t 49), (.t 51), (.t 52), (.t 53), (.t 58)]⟩,
  ⟨some 60, none, .no, .bin .neq .none (.t 59) (.v (.int .i64 (80)))⟩]
@[go_sem] def speculumlaw07_ProofsBack_r19 : List AIns := [
  ⟨some 4, none, .no, .mv (.v (.bool false))⟩]
def speculumlaw07_ProofsBack_c20 : ACode := .seq (.reg speculumlaw07_ProofsBack_r19) .ret
def speculumlaw07_ProofsBack_c21 : ACode := .cond (.t 60) speculumlaw07_ProofsBack_c20 .skip
def speculumlaw07_ProofsBack_c22 : ACode := .seq (.reg speculumlaw07_ProofsBack_r18) speculumlaw07_ProofsBack_c21
@[go_sem] def speculumlaw07_ProofsBack_r23 : List AIns := [
  ⟨some 61, none, .no, .mv (.t 7)⟩,
  ⟨some 62, none, .no, .lenSl (.t 61)⟩,
  ⟨some 63, none, .no, .bin .gtr .none (.t 62) (.v (.int .i64 (0)))⟩,
  ⟨some 64, none, .no, .mv (.t 63)⟩,
  ⟨some 65, some (64, true), .no, .mv (.t 6)⟩,
  ⟨some 66, some (64, true), .no, .mv (.t 0)⟩,
  ⟨some 67, some (64, true), .no, .lenSl (.t 66)⟩,
  ⟨some 68, some (64, true), .rd, .load true 32 (.t 9)⟩,
  ⟨some 69, some (64, true), .rd, .load true 32 (.t 5)⟩,
  ⟨some 70, some (64, true), .no, .mv (.t 7)⟩,
  ⟨some 71, some (64, true), .rd, .slice (.sl 32) (.t 70) (some (.v (.int .i64 (1)))) none none⟩,
  ⟨some 72, some (64, true), .no, .call (.v (.fn 19 [])) [(.t 65), (.t 67), (.t 68), (.t 69), (.t 71)]⟩,
  ⟨some 73, some (64, true), .no, .bin .neq .none (.t 72) (.v (.int .i64 (80)))⟩,
  ⟨some 74, some (64, true), .no, .mv (.t 73)⟩,
  ⟨some 75, some (74, false), .no, .mv (.t 6)⟩,
  ⟨some 76, some (74, false), .no, .mv (.t 0)⟩,
  ⟨some 77, some (74, false), .no, .lenSl (.t 76)⟩,
  ⟨some 78, some (74, false), .rd, .load true 32 (.t 9)⟩,
  ⟨some 79, some (74, false), .rd, .load true 32 (.t 5)⟩,
  ⟨some 80, some (74, false), .no, .mv (.t 7)⟩,
  ⟨some 81, some (74, false), .no, .mv (.t 7)⟩,
  ⟨some 82, some (74, false), .no, .lenSl (.t 81)⟩,
  ⟨some 83, some (74, false), .no, .bin .sub .none (.t 82) (.v (.int .i64 (1)))⟩,
  ⟨some 84, some (74, false), .rd, .slice (.sl 32) (.t 80) none (some (.t 83)) none⟩,
  ⟨some 85, some (74, false), .no, .call (.v (.fn 19 [])) [(.t 75), (.t 77), (.t 78), (.t 79), (.t 84)]⟩,
  ⟨some 86, some (74, false), .no, .bin .neq .none (.t 85) (.v (.int .i64 (80)))⟩,
  ⟨some 87, some (64, true), .no, .pick (.t 74) (.v (.bool true)) (.t 86)⟩,
  ⟨some 88, none, .no, .pick (.t 64) (.t 87) (.v (.bool false))⟩]
@[go_sem] def speculumlaw07_ProofsBack_r24 : List AIns := [
  ⟨some 4, none, .no, .mv (.v (.bool false))⟩]
def speculumlaw07_ProofsBack_c25 : ACode := .seq (.reg speculumlaw07_ProofsBack_r24) .ret
def speculumlaw07_ProofsBack_c26 : ACode := .cond (.t 88) speculumlaw07_ProofsBack_c25 .skip
def speculumlaw07_ProofsBack_c27 : ACode := .seq (.reg speculumlaw07_ProofsBack_r23) speculumlaw07_ProofsBack_c26
def speculumlaw07_ProofsBack_c28 : ACode := .seq speculumlaw07_ProofsBack_c22 speculumlaw07_ProofsBack_c27
def speculumlaw07_ProofsBack_c29 : ACode := .seq speculumlaw07_ProofsBack_c17 speculumlaw07_ProofsBack_c28
def speculumlaw07_ProofsBack_c30 : ACode := .seq (.reg speculumlaw07_ProofsBack_r12) speculumlaw07_ProofsBack_c29
def speculumlaw07_ProofsBack_c31 : ACode := .seq (.reg speculumlaw07_ProofsBack_r11) speculumlaw07_ProofsBack_c30
@[go_sem] def speculumlaw07_ProofsBack_r32 : List AIns := [
  ⟨some 20, none, .no, .mv (.t 6)⟩,
  ⟨some 21, none, .no, .bin .add .none (.t 20) (.v (.int .i64 (1)))⟩,
  ⟨some 6, none, .no, .mv (.t 21)⟩]
def speculumlaw07_ProofsBack_c33 : ACode := .seq (.block 1 speculumlaw07_ProofsBack_c31) (.reg speculumlaw07_ProofsBack_r32)
def speculumlaw07_ProofsBack_c34 : ACode := .seq speculumlaw07_ProofsBack_c10 speculumlaw07_ProofsBack_c33
def speculumlaw07_ProofsBack_c35 : ACode := .loop speculumlaw07_ProofsBack_c34
def speculumlaw07_ProofsBack_c36 : ACode := .block 0 speculumlaw07_ProofsBack_c35
def speculumlaw07_ProofsBack_c37 : ACode := .seq (.reg speculumlaw07_ProofsBack_r7) speculumlaw07_ProofsBack_c36
@[go_sem] def speculumlaw07_ProofsBack_r38 : List AIns := [
  ⟨some 89, none, .no, .call (.v (.fn 15 [])) []⟩,
  ⟨some 4, none, .no, .mv (.t 89)⟩]
def speculumlaw07_ProofsBack_c39 : ACode := .seq (.reg speculumlaw07_ProofsBack_r38) .ret
def speculumlaw07_ProofsBack_c40 : ACode := .seq speculumlaw07_ProofsBack_c37 speculumlaw07_ProofsBack_c39
def speculumlaw07_ProofsBack_c41 : ACode := .seq (.reg speculumlaw07_ProofsBack_r6) speculumlaw07_ProofsBack_c40
def speculumlaw07_ProofsBack_c42 : ACode := .seq speculumlaw07_ProofsBack_c5 speculumlaw07_ProofsBack_c41
def speculumlaw07_ProofsBack_c43 : ACode := .seq (.reg speculumlaw07_ProofsBack_r0) speculumlaw07_ProofsBack_c42
theorem speculumlaw07_ProofsBack_ok : cFn TC 5 = some (90, [.t 4], speculumlaw07_ProofsBack_c43) := by kernel_rfl

-- 15 speculum/speculumlaw07.proved
@[go_sem] def speculumlaw07_proved_r0 : List AIns := [
  ⟨some 0, none, .no, .mv (.v (.bool false))⟩]
@[go_sem] def speculumlaw07_proved_r1 : List AIns := [
  ⟨some 13, none, .no, .call (.v (.fn 21 [])) [(.v (.int .i64 (5))), (.v (.int .u8 (2)))]⟩,
  ⟨some 1, none, .no, .mv (.t 13)⟩]
@[go_sem] def speculumlaw07_proved_r2 : List AIns := [
  ⟨some 15, none, .no, .mv (.t 1)⟩,
  ⟨some 16, none, .no, .call (.v (.fn 16 [])) [(.t 15), (.v (.int .i64 (3)))]⟩,
  ⟨some 14, none, .no, .mv (.t 16)⟩,
  ⟨some 17, none, .no, .ext 0 (.t 14)⟩,
  ⟨some 18, none, .no, .ext 1 (.t 14)⟩,
  ⟨some 2, none, .no, .mv (.t 17)⟩,
  ⟨some 3, none, .no, .mv (.t 18)⟩]
@[go_sem] def speculumlaw07_proved_r3 : List AIns := [
  ⟨some 20, none, .no, .mv (.t 1)⟩,
  ⟨some 21, none, .no, .call (.v (.fn 16 [])) [(.t 20), (.v (.int .i64 (4)))]⟩,
  ⟨some 19, none, .no, .mv (.t 21)⟩,
  ⟨some 22, none, .no, .ext 0 (.t 19)⟩,
  ⟨some 23, none, .no, .ext 1 (.t 19)⟩,
  ⟨some 4, none, .no, .mv (.t 22)⟩,
  ⟨some 5, none, .no, .mv (.t 23)⟩]
@[go_sem] def speculumlaw07_proved_r4 : List AIns := [
  ⟨some 25, none, .no, .mv (.t 1)⟩,
  ⟨some 26, none, .no, .call (.v (.fn 16 [])) [(.t 25), (.v (.int .i64 (5)))]⟩,
  ⟨some 24, none, .no, .mv (.t 26)⟩,
  ⟨some 27, none, .no, .ext 0 (.t 24)⟩,
  ⟨some 28, none, .no, .ext 1 (.t 24)⟩,
  ⟨some 6, none, .no, .mv (.t 27)⟩,
  ⟨some 7, none, .no, .mv (.t 28)⟩]
@[go_sem] def speculumlaw07_proved_r5 : List AIns := [
  ⟨some 30, none, .no, .mv (.t 1)⟩,
  ⟨some 31, none, .no, .call (.v (.fn 16 [])) [(.t 30), (.v (.int .i64 (0)))]⟩,
  ⟨some 29, none, .no, .mv (.t 31)⟩,
  ⟨some 32, none, .no, .ext 0 (.t 29)⟩,
  ⟨some 33, none, .no, .ext 1 (.t 29)⟩,
  ⟨some 8, none, .no, .mv (.t 32)⟩,
  ⟨some 9, none, .no, .mv (.t 33)⟩]
@[go_sem] def speculumlaw07_proved_r6 : List AIns := [
  ⟨some 35, none, .no, .mv (.t 1)⟩,
  ⟨some 36, none, .no, .call (.v (.fn 16 [])) [(.t 35), (.v (.int .i64 (6)))]⟩,
  ⟨some 34, none, .no, .mv (.t 36)⟩,
  ⟨some 37, none, .no, .ext 0 (.t 34)⟩,
  ⟨some 38, none, .no, .ext 1 (.t 34)⟩,
  ⟨some 10, none, .no, .mv (.t 37)⟩,
  ⟨some 11, none, .no, .mv (.t 38)⟩]
@[go_sem] def speculumlaw07_proved_r7 : List AIns := [
  ⟨some 39, none, .no, .mv (.t 1)⟩,
  ⟨some 40, none, .no, .call (.v (.fn 22 [])) [(.t 39)]⟩,
  ⟨some 12, none, .no, .alloc [(.int .u8 (0)), (.int .u8 (0)), (.int .u8 (0)), (.int .u8 (0)), (.int .u8 (0)), (.int .u8 (0)), (.int .u8 (0)), (.int .u8 (0)), (.int .u8 (0)), (.int .u8 (0)), (.int .u8 (0)), (.int .u8 (0)), (.int .u8 (0)), (.int .u8 (0)), (.int .u8 (0)), (.int .u8 (0)), (.int .u8 (0)), (.int .u8 (0)), (.int .u8 (0)), (.int .u8 (0)), (.int .u8 (0)), (.int .u8 (0)), (.int .u8 (0)), (.int .u8 (0)), (.int .u8 (0)), (.int .u8 (0)), (.int .u8 (0)), (.int .u8 (0)), (.int .u8 (0)), (.int .u8 (0)), (.int .u8 (0)), (.int .u8 (0))]⟩,
  ⟨none, none, .no, .store 32 (.t 12) (.t 40)⟩]
@[go_sem] def speculumlaw07_proved_r8 : List AIns := [
  ⟨some 41, none, .no, .mv (.t 3)⟩,
  ⟨some 42, none, .no, .bin .eql .none (.t 41) (.v (.int .i64 (0)))⟩,
  ⟨some 43, none, .no, .mv (.t 42)⟩,
  ⟨some 44, some (43, true), .no, .mv (.t 5)⟩,
  ⟨some 45, some (43, true), .no, .bin .eql .none (.t 44) (.v (.int .i64 (0)))⟩,
  ⟨some 46, none, .no, .pick (.t 43) (.t 45) (.v (.bool false))⟩,
  ⟨some 47, none, .no, .mv (.t 46)⟩,
  ⟨some 48, some (47, true), .no, .mv (.t 7)⟩,
  ⟨some 49, some (47, true), .no, .bin .eql .none (.t 48) (.v (.int .i64 (0)))⟩,
  ⟨some 50, none, .no, .pick (.t 47) (.t 49) (.v (.bool false))⟩,
  ⟨some 51, none, .no, .mv (.t 50)⟩,
  ⟨some 52, some (51, true), .no, .mv (.t 9)⟩,
  ⟨some 53, some (51, true), .no, .bin .eql .none (.t 52) (.v (.int .i64 (0)))⟩,
  ⟨some 54, none, .no, .pick (.t 51) (.t 53) (.v (.bool false))⟩,
  ⟨some 55, none, .no, .mv (.t 54)⟩,
  ⟨some 56, some (55, true), .no, .mv (.t 11)⟩,
  ⟨some 57, some (55, true), .no, .bin .eql .none (.t 56) (.v (.int .i64 (2)))⟩,
  ⟨some 58, none, .no, .pick (.t 55) (.t 57) (.v (.bool false))⟩,
  ⟨some 59, none, .no, .mv (.t 58)⟩,
  ⟨some 60, some (59, true), .no, .mv (.t 2)⟩,
  ⟨some 61, some (59, true), .no, .mv (.t 1)⟩,
  ⟨some 62, some (59, true), .no, .iaSl 32 (.t 61) (.v (.int .i64 (2)))⟩,
  ⟨some 63, some (59, true), .rd, .load true 32 (.t 62)⟩,
  ⟨some 64, some (59, true), .no, .mv (.t 1)⟩,
  ⟨some 65, some (59, true), .no, .iaSl 32 (.t 64) (.v (.int .i64 (3)))⟩,
  ⟨some 66, some (59, true), .rd, .load true 32 (.t 65)⟩,
  ⟨some 67, some (59, true), .no, .mv (.t 1)⟩,
  ⟨some 68, some (59, true), .no, .iaSl 32 (.t 67) (.v (.int .i64 (0)))⟩,
  ⟨some 69, some (59, true), .rd, .load true 32 (.t 68)⟩,
  ⟨some 70, some (59, true), .no, .mv (.t 1)⟩,
  ⟨some 71, some (59, true), .no, .iaSl 32 (.t 70) (.v (.int .i64 (1)))⟩,
  ⟨some 72, some (59, true), .rd, .load true 32 (.t 71)⟩,
  ⟨some 73, some (59, true), .ef, .call (.v (.fn 59 [])) [(.t 69), (.t 72)]⟩,
  ⟨some 74, some (59, true), .no, .mv (.t 1)⟩,
  ⟨some 75, some (59, true), .no, .iaSl 32 (.t 74) (.v (.int .i64 (4)))⟩,
  ⟨some 76, some (59, true), .rd, .load true 32 (.t 75)⟩,
  ⟨some 77, some (59, true), .no, .lit 32 [(.t 63), (.t 66), (.t 73), (.t 76)]⟩,
  ⟨some 78, some (59, true), .no, .call (.v (.fn 18 [])) [(.t 60), (.t 77)]⟩,
  ⟨some 79, none, .no, .pick (.t 59) (.t 78) (.v (.bool false))⟩,
  ⟨some 80, none, .no, .mv (.t 79)⟩,
  ⟨some 81, some (80, true), .no, .mv (.t 4)⟩,
  ⟨some 82, some (80, true), .no, .mv (.t 1)⟩,
  ⟨some 83, some (80, true), .no, .iaSl 32 (.t 82) (.v (.int .i64 (4)))⟩,
  ⟨some 84, some (80, true), .no, .load true 32 (.t 83)⟩,
  ⟨some 85, some (80, true), .no, .lit 32 [(.t 84)]⟩,
  ⟨some 86, some (80, true), .no, .call (.v (.fn 18 [])) [(.t 81), (.t 85)]⟩,
  ⟨some 87, none, .no, .pick (.t 80) (.t 86) (.v (.bool false))⟩,
  ⟨some 88, none, .no, .mv (.t 87)⟩,
  ⟨some 89, some (88, true), .no, .mv (.t 6)⟩,
  ⟨some 90, some (88, true), .no, .lenSl (.t 89)⟩,
  ⟨some 91, some (88, true), .no, .bin .eql .none (.t 90) (.v (.int .i64 (0)))⟩,
  ⟨some 92, none, .no, .pick (.t 88) (.t 91) (.v (.bool false))⟩,
  ⟨some 93, none, .no, .mv (.t 92)⟩,
  ⟨some 94, some (93, true), .no, .mv (.t 8)⟩,
  ⟨some 95, some (93, true), .no, .lenSl (.t 94)⟩,
  ⟨some 96, some (93, true), .no, .bin .eql .none (.t 95) (.v (.int .i64 (0)))⟩,
  ⟨some 97, none, .no, .pick (.t 93) (.t 96) (.v (.bool false))⟩,
  ⟨some 98, none, .no, .mv (.t 97)⟩,
  ⟨some 99, some (98, true), .no, .mv (.t 1)⟩,
  ⟨some 100, some (98, true), .rd, .slice (.sl 32) (.t 99) none (some (.v (.int .i64 (4)))) none⟩,
  ⟨some 101, some (98, true), .ef, .call (.v (.fn 22 [])) [(.t 100)]⟩,
  ⟨some 102, some (98, true), .rd, .load true 32 (.t 12)⟩,
  ⟨some 103, some (98, true), .no, .mv (.t 4)⟩,
  ⟨some 104, some (98, true), .no, .call (.v (.fn 19 [])) [(.v (.int .i64 (4))), (.v (.int .i64 (5))), (.t 101), (.t 102), (.t 103)]⟩,
  ⟨some 105, some (98, true), .no, .bin .eql .none (.t 104) (.v (.int .i64 (0)))⟩,
  ⟨some 106, none, .no, .pick (.t 98) (.t 105) (.v (.bool false))⟩,
  ⟨some 107, none, .no, .mv (.t 106)⟩,
  ⟨some 108, some (107, true), .no, .mv (.t 1)⟩,
  ⟨some 109, some (107, true), .rd, .slice (.sl 32) (.t 108) none (some (.v (.int .i64 (3)))) none⟩,
  ⟨some 110, some (107, true), .ef, .call (.v (.fn 22 [])) [(.t 109)]⟩,
  ⟨some 111, some (107, true), .rd, .load true 32 (.t 12)⟩,
  ⟨some 112, some (107, true), .no, .mv (.t 4)⟩,
  ⟨some 113, some (107, true), .no, .call (.v (.fn 19 [])) [(.v (.int .i64 (3))), (.v (.int .i64 (5))), (.t 110), (.t 111), (.t 112)]⟩,
  ⟨some 114, some (107, true), .no, .bin .eql .none (.t 113) (.v (.int .i64 (80)))⟩,
  ⟨some 115, none, .no, .pick (.t 107) (.t 114) (.v (.bool false))⟩,
  ⟨some 0, none, .no, .mv (.t 115)⟩]
def speculumlaw07_proved_c9 : ACode := .seq (.reg speculumlaw07_proved_r8) .ret
def speculumlaw07_proved_c10 : ACode := .seq (.reg speculumlaw07_proved_r7) speculumlaw07_proved_c9
def speculumlaw07_proved_c11 : ACode := .seq (.reg speculumlaw07_proved_r6) speculumlaw07_proved_c10
def speculumlaw07_proved_c12 : ACode := .seq (.reg speculumlaw07_proved_r5) speculumlaw07_proved_c11
def speculumlaw07_proved_c13 : ACode := .seq (.reg speculumlaw07_proved_r4) speculumlaw07_proved_c12
def speculumlaw07_proved_c14 : ACode := .seq (.reg speculumlaw07_proved_r3) speculumlaw07_proved_c13
def speculumlaw07_proved_c15 : ACode := .seq (.reg speculumlaw07_proved_r2) speculumlaw07_proved_c14
def speculumlaw07_proved_c16 : ACode := .seq (.reg speculumlaw07_proved_r1) speculumlaw07_proved_c15
def speculumlaw07_proved_c17 : ACode := .seq (.reg speculumlaw07_proved_r0) speculumlaw07_proved_c16
theorem speculumlaw07_proved_ok : cFn TC 15 = some (116, [.t 0], speculumlaw07_proved_c17) := by kernel_rfl

-- 16 speculum/proofs.Proof
@[go_sem] def proofs_Proof_r0 : List AIns := [
  ⟨some 4, none, .no, .mv (.v .nilsl)⟩,
  ⟨some 5, none, .no, .mv (.v (.int .i64 (0)))⟩]
@[go_sem] def proofs_Proof_r1 : List AIns := [
  ⟨some 9, none, .no, .mv (.t 1)⟩,
  ⟨some 10, none, .no, .bin .lss .none (.t 9) (.v (.int .i64 (0)))⟩,
  ⟨some 11, none, .no, .mv (.t 10)⟩,
  ⟨some 12, some (11, false), .no, .mv (.t 1)⟩,
  ⟨some 13, some (11, false), .no, .mv (.t 0)⟩,
  ⟨some 14, some (11, false), .no, .lenSl (.t 13)⟩,
  ⟨some 15, some (11, false), .no, .bin .gtr .none (.t 12) (.t 14)⟩,
  ⟨some 16, none, .no, .pick (.t 11) (.v (.bool true)) (.t 15)⟩,
  ⟨some 8, none, .no, .mv (.t 16)⟩]
@[go_sem] def proofs_Proof_r2 : List AIns := [
  ⟨some 4, none, .no, .mv (.v .nilsl)⟩,
  ⟨some 5, none, .no, .mv (.v (.int .i64 (2)))⟩]
def proofs_Proof_c3 : ACode := .seq (.reg proofs_Proof_r2) .ret
@[go_sem] def proofs_Proof_r4 : List AIns := [
  ⟨some 18, none, .no, .mv (.t 1)⟩,
  ⟨some 19, none, .no, .bin .eql .none (.t 18) (.v (.int .i64 (0)))⟩,
  ⟨some 20, none, .no, .mv (.t 19)⟩,
  ⟨some 21, some (20, false), .no, .mv (.t 1)⟩,
  ⟨some 22, some (20, false), .no, .mv (.t 0)⟩,
  ⟨some 23, some (20, false), .no, .lenSl (.t 22)⟩,
  ⟨some 24, some (20, false), .no, .bin .eql .none (.t 21) (.t 23)⟩,
  ⟨some 25, none, .no, .pick (.t 20) (.v (.bool true)) (.t 24)⟩,
  ⟨some 17, none, .no, .mv (.t 25)⟩]
@[go_sem] def proofs_Proof_r5 : List AIns := [
  ⟨some 4, none, .no, .mv (.v .nilsl)⟩,
  ⟨some 5, none, .no, .mv (.v (.int .i64 (0)))⟩]
def proofs_Proof_c6 : ACode := .seq (.reg proofs_Proof_r5) .ret
def proofs_Proof_c7 : ACode := .cond (.t 17) proofs_Proof_c6 .skip
def proofs_Proof_c8 : ACode := .seq (.reg proofs_Proof_r4) proofs_Proof_c7
def proofs_Proof_c9 : ACode := .cond (.t 8) proofs_Proof_c3 proofs_Proof_c8
def proofs_Proof_c10 : ACode := .seq (.reg proofs_Proof_r1) proofs_Proof_c9
@[go_sem] def proofs_Proof_r11 : List AIns := [
  ⟨some 6, none, .no, .alloc [.nilsl]⟩]
@[go_sem] def proofs_Proof_r12 : List AIns := [
  ⟨some 7, none, .no, .alloc [.nilfn]⟩]
@[go_sem] def proofs_Proof_r13 : List AIns := [
  ⟨some 26, none, .no, .mkfn 60 [(.t 6), (.t 7)]⟩,
  ⟨none, none, .no, .store 1 (.t 7) (.t 26)⟩]
@[go_sem] def proofs_Proof_r14 : List AIns := [
  ⟨some 27, none, .no, .load false 1 (.t 7)⟩,
  ⟨some 28, none, .no, .mv (.t 0)⟩,
  ⟨some 29, none, .no, .mv (.t 1)⟩,
  ⟨some 30, none, .no, .call (.t 27) [(.t 28), (.t 29), (.v (.bool true))]⟩]
@[go_sem] def proofs_Proof_r15 : List AIns := [
  ⟨some 31, none, .no, .load false 1 (.t 6)⟩,
  ⟨some 4, none, .no, .mv (.t 31)⟩,
  ⟨some 5, none, .no, .mv (.v (.int .i64 (0)))⟩]
def proofs_Proof_c16 : ACode := .seq (.reg proofs_Proof_r15) .ret
def proofs_Proof_c17 : ACode := .seq (.reg proofs_Proof_r14) proofs_Proof_c16
def proofs_Proof_c18 : ACode := .seq (.reg proofs_Proof_r13) proofs_Proof_c17
def proofs_Proof_c19 : ACode := .seq (.reg proofs_Proof_r12) proofs_Proof_c18
def proofs_Proof_c20 : ACode := .seq (.reg proofs_Proof_r11) proofs_Proof_c19
def proofs_Proof_c21 : ACode := .seq (.block 0 proofs_Proof_c10) proofs_Proof_c20
def proofs_Proof_c22 : ACode := .seq (.reg proofs_Proof_r0) proofs_Proof_c21
theorem proofs_Proof_ok : cFn TC 16 = some (32, [.t 4, .t 5], proofs_Proof_c22) := by kernel_rfl

-- 17 speculum/speculumref07.Proof
@[go_sem] def speculumref07_Proof_r0 : List AIns := [
  ⟨some 4, none, .no, .mv (.v .nilsl)⟩,
  ⟨some 5, none, .no, .mv (.v (.int .i64 (0)))⟩]
@[go_sem] def speculumref07_Proof_r1 : List AIns := [
  ⟨some 6, none, .no, .mv (.t 1)⟩,
  ⟨some 7, none, .no, .bin .lss .none (.t 6) (.v (.int .i64 (0)))⟩,
  ⟨some 8, none, .no, .mv (.t 7)⟩,
  ⟨some 9, some (8, false), .no, .mv (.t 1)⟩,
  ⟨some 10, some (8, false), .no, .mv (.t 0)⟩,
  ⟨some 11, some (8, false), .no, .lenSl (.t 10)⟩,
  ⟨some 12, some (8, false), .no, .bin .gtr .none (.t 9) (.t 11)⟩,
  ⟨some 13, none, .no, .pick (.t 8) (.v (.bool true)) (.t 12)⟩]
@[go_sem] def speculumref07_Proof_r2 : List AIns := [
  ⟨some 4, none, .no, .mv (.v .nilsl)⟩,
  ⟨some 5, none, .no, .mv (.v (.int .i64 (2)))⟩]
def speculumref07_Proof_c3 : ACode := .seq (.reg speculumref07_Proof_r2) .ret
def speculumref07_Proof_c4 : ACode := .cond (.t 13) speculumref07_Proof_c3 .skip
def speculumref07_Proof_c5 : ACode := .seq (.reg speculumref07_Proof_r1) speculumref07_Proof_c4
@[go_sem] def speculumref07_Proof_r6 : List AIns := [
  ⟨some 14, none, .no, .mv (.t 1)⟩,
  ⟨some 15, none, .no, .bin .eql .none (.t 14) (.v (.int .i64 (0)))⟩]
@[go_sem] def speculumref07_Proof_r7 : List AIns := [
  ⟨some 4, none, .no, .mv (.v .nilsl)⟩,
  ⟨some 5, none, .no, .mv (.v (.int .i64 (0)))⟩]
def speculumref07_Proof_c8 : ACode := .seq (.reg speculumref07_Proof_r7) .ret
def speculumref07_Proof_c9 : ACode := .cond (.t 15) speculumref07_Proof_c8 .skip
def speculumref07_Proof_c10 : ACode := .seq (.reg speculumref07_Proof_r6) speculumref07_Proof_c9
@[go_sem] def speculumref07_Proof_r11 : List AIns := [
  ⟨some 16, none, .no, .mv (.t 0)⟩,
  ⟨some 17, none, .no, .mv (.t 1)⟩,
  ⟨some 18, none, .no, .call (.v (.fn 62 [])) [(.t 16), (.t 17), (.v (.bool true))]⟩,
  ⟨some 4, none, .no, .mv (.t 18)⟩,
  ⟨some 5, none, .no, .mv (.v (.int .i64 (0)))⟩]
def speculumref07_Proof_c12 : ACode := .seq (.reg speculumref07_Proof_r11) .ret
def speculumref07_Proof_c13 : ACode := .seq speculumref07_Proof_c10 speculumref07_Proof_c12
def speculumref07_Proof_c14 : ACode := .seq speculumref07_Proof_c5 speculumref07_Proof_c13
def speculumref07_Proof_c15 : ACode := .seq (.reg speculumref07_Proof_r0) speculumref07_Proof_c14
theorem speculumref07_Proof_ok : cFn TC 17 = some (19, [.t 4, .t 5], speculumref07_Proof_c15) := by kernel_rfl

-- 19 speculum/proofs.Check
@[go_sem] def proofs_Check_r0 : List AIns := [
  ⟨some 7, none, .no, .box (.t 2)⟩,
  ⟨some 8, none, .no, .box (.t 3)⟩,
  ⟨some 9, none, .no, .box (.t 4)⟩,
  ⟨some 10, none, .no, .mv (.v (.int .i64 (0)))⟩]
@[go_sem] def proofs_Check_r1 : List AIns := [
  ⟨some 21, none, .no, .mv (.t 1)⟩,
  ⟨some 22, none, .no, .bin .lss .none (.t 21) (.v (.int .i64 (0)))⟩,
  ⟨some 23, none, .no, .mv (.t 22)⟩,
  ⟨some 24, some (23, false), .no, .mv (.t 1)⟩,
  ⟨some 25, some (23, false), .no, .bin .gtr .none (.t 24) (.v (.int .i64 (4096)))⟩,
  ⟨some 26, none, .no, .pick (.t 23) (.v (.bool true)) (.t 25)⟩,
  ⟨some 27, none, .no, .mv (.t 26)⟩,
  ⟨some 28, some (27, false), .no, .mv (.t 0)⟩,
  ⟨some 29, some (27, false), .no, .bin .lss .none (.t 28) (.v (.int .i64 (0)))⟩,
  ⟨some 30, none, .no, .pick (.t 27) (.v (.bool true)) (.t 29)⟩,
  ⟨some 31, none, .no, .mv (.t 30)⟩,
  ⟨some 32, some (31, false), .no, .mv (.t 0)⟩,
  ⟨some 33, some (31, false), .no, .mv (.t 1)⟩,
  ⟨some 34, some (31, false), .no, .bin .gtr .none (.t 32) (.t 33)⟩,
  ⟨some 35, none, .no, .pick (.t 31) (.v (.bool true)) (.t 34)⟩,
  ⟨some 20, none, .no, .mv (.t 35)⟩]
@[go_sem] def proofs_Check_r2 : List AIns := [
  ⟨some 10, none, .no, .mv (.v (.int .i64 (2)))⟩]
def proofs_Check_c3 : ACode := .seq (.reg proofs_Check_r2) .ret
@[go_sem] def proofs_Check_r4 : List AIns := [
  ⟨some 37, none, .no, .mv (.t 0)⟩,
  ⟨some 38, none, .no, .bin .eql .none (.t 37) (.v (.int .i64 (0)))⟩,
  ⟨some 36, none, .no, .mv (.t 38)⟩]
@[go_sem] def proofs_Check_r5 : List AIns := [
  ⟨some 39, none, .no, .load false 1 (.t 9)⟩,
  ⟨some 40, none, .no, .lenSl (.t 39)⟩,
  ⟨some 41, none, .no, .bin .eql .none (.t 40) (.v (.int .i64 (0)))⟩,
  ⟨some 42, none, .no, .mv (.t 41)⟩,
  ⟨some 43, some (42, true), .rd, .load true 32 (.t 7)⟩,
  ⟨some 44, some (42, true), .ef, .call (.v (.fn 22 [])) [(.v .nilsl)]⟩,
  ⟨some 45, some (42, true), .no, .bin .eql (.agg (List.replicate 32 (.i .u8) ++ [])) (.t 43) (.t 44)⟩,
  ⟨some 46, none, .no, .pick (.t 42) (.t 45) (.v (.bool false))⟩,
  ⟨some 47, none, .no, .mv (.t 46)⟩,
  ⟨some 48, some (47, true), .no, .mv (.t 1)⟩,
  ⟨some 49, some (47, true), .no, .bin .gtr .none (.t 48) (.v (.int .i64 (0)))⟩,
  ⟨some 50, some (47, true), .no, .mv (.t 49)⟩,
  ⟨some 51, some (50, false), .rd, .load true 32 (.t 8)⟩,
  ⟨some 52, some (50, false), .rd, .load true 32 (.t 7)⟩,
  ⟨some 53, some (50, false), .no, .bin .eql (.agg (List.replicate 32 (.i .u8) ++ [])) (.t 51) (.t 52)⟩,
  ⟨some 54, some (47, true), .no, .pick (.t 50) (.v (.bool true)) (.t 53)⟩,
  ⟨some 55, none, .no, .pick (.t 47) (.t 54) (.v (.bool false))⟩,
  ⟨some 56, none, .no, .call (.v (.fn 63 [])) [(.t 55)]⟩,
  ⟨some 10, none, .no, .mv (.t 56)⟩]
def proofs_Check_c6 : ACode := .seq (.reg proofs_Check_r5) .ret
@[go_sem] def proofs_Check_r7 : List AIns := [
  ⟨some 58, none, .no, .mv (.t 0)⟩,
  ⟨some 59, none, .no, .mv (.t 1)⟩,
  ⟨some 60, none, .no, .bin .eql .none (.t 58) (.t 59)⟩,
  ⟨some 57, none, .no, .mv (.t 60)⟩]
@[go_sem] def proofs_Check_r8 : List AIns := [
  ⟨some 61, none, .no, .load false 1 (.t 9)⟩,
  ⟨some 62, none, .no, .lenSl (.t 61)⟩,
  ⟨some 63, none, .no, .bin .eql .none (.t 62) (.v (.int .i64 (0)))⟩,
  ⟨some 64, none, .no, .mv (.t 63)⟩,
  ⟨some 65, some (64, true), .no, .load true 32 (.t 7)⟩,
  ⟨some 66, some (64, true), .no, .load true 32 (.t 8)⟩,
  ⟨some 67, some (64, true), .no, .bin .eql (.agg (List.replicate 32 (.i .u8) ++ [])) (.t 65) (.t 66)⟩,
  ⟨some 68, none, .no, .pick (.t 64) (.t 67) (.v (.bool false))⟩,
  ⟨some 69, none, .no, .call (.v (.fn 63 [])) [(.t 68)]⟩,
  ⟨some 10, none, .no, .mv (.t 69)⟩]
def proofs_Check_c9 : ACode := .seq (.reg proofs_Check_r8) .ret
def proofs_Check_c10 : ACode := .cond (.t 57) proofs_Check_c9 .skip
def proofs_Check_c11 : ACode := .seq (.reg proofs_Check_r7) proofs_Check_c10
def proofs_Check_c12 : ACode := .cond (.t 36) proofs_Check_c6 proofs_Check_c11
def proofs_Check_c13 : ACode := .seq (.reg proofs_Check_r4) proofs_Check_c12
def proofs_Check_c14 : ACode := .cond (.t 20) proofs_Check_c3 proofs_Check_c13
def proofs_Check_c15 : ACode := .seq (.reg proofs_Check_r1) proofs_Check_c14
@[go_sem] def proofs_Check_r16 : List AIns := [
  ⟨some 70, none, .no, .mv (.t 0)⟩,
  ⟨some 71, none, .no, .bin .sub .none (.t 70) (.v (.int .i64 (1)))⟩,
  ⟨some 72, none, .no, .mv (.t 1)⟩,
  ⟨some 73, none, .no, .bin .sub .none (.t 72) (.v (.int .i64 (1)))⟩,
  ⟨some 11, none, .no, .mv (.t 71)⟩,
  ⟨some 12, none, .no, .mv (.t 73)⟩]
@[go_sem] def proofs_Check_r17 : List AIns := [
  ⟨some 74, none, .no, .mv (.t 11)⟩,
  ⟨some 75, none, .no, .bin .rem .none (.t 74) (.v (.int .i64 (2)))⟩,
  ⟨some 76, none, .no, .bin .eql .none (.t 75) (.v (.int .i64 (1)))⟩]
def proofs_Check_c18 : ACode := .cond (.t 76) .skip (.exit 1)
def proofs_Check_c19 : ACode := .seq (.reg proofs_Check_r17) proofs_Check_c18
@[go_sem] def proofs_Check_r20 : List AIns := [
  ⟨some 77, none, .no, .mv (.t 11)⟩,
  ⟨some 78, none, .no, .bin .quo .none (.t 77) (.v (.int .i64 (2)))⟩,
  ⟨some 79, none, .no, .mv (.t 12)⟩,
  ⟨some 80, none, .no, .bin .quo .none (.t 79) (.v (.int .i64 (2)))⟩,
  ⟨some 11, none, .no, .mv (.t 78)⟩,
  ⟨some 12, none, .no, .mv (.t 80)⟩]
def proofs_Check_c21 : ACode := .block 2 (.reg proofs_Check_r20)
def proofs_Check_c22 : ACode := .seq proofs_Check_c19 proofs_Check_c21
def proofs_Check_c23 : ACode := .loop proofs_Check_c22
@[go_sem] def proofs_Check_r24 : List AIns := [
  ⟨some 81, none, .no, .mkfn 64 [(.t 9)]⟩,
  ⟨some 13, none, .no, .mv (.t 81)⟩]
@[go_sem] def proofs_Check_r25 : List AIns := [
  ⟨some 82, none, .rd, .load true 32 (.t 7)⟩,
  ⟨some 83, none, .rd, .load true 32 (.t 7)⟩,
  ⟨some 14, none, .ef, .alloc [(.int .u8 (0)), (.int .u8 (0)), (.int .u8 (0)), (.int .u8 (0)), (.int .u8 (0)), (.int .u8 (0)), (.int .u8 (0)), (.int .u8 (0)), (.int .u8 (0)), (.int .u8 (0)), (.int .u8 (0)), (.int .u8 (0)), (.int .u8 (0)), (.int .u8 (0)), (.int .u8 (0)), (.int .u8 (0)), (.int .u8 (0)), (.int .u8 (0)), (.int .u8 (0)), (.int .u8 (0)), (.int .u8 (0)), (.int .u8 (0)), (.int .u8 (0)), (.int .u8 (0)), (.int .u8 (0)), (.int .u8 (0)), (.int .u8 (0)), (.int .u8 (0)), (.int .u8 (0)), (.int .u8 (0)), (.int .u8 (0)), (.int .u8 (0))]⟩,
  ⟨some 15, none, .ef, .alloc [(.int .u8 (0)), (.int .u8 (0)), (.int .u8 (0)), (.int .u8 (0)), (.int .u8 (0)), (.int .u8 (0)), (.int .u8 (0)), (.int .u8 (0)), (.int .u8 (0)), (.int .u8 (0)), (.int .u8 (0)), (.int .u8 (0)), (.int .u8 (0)), (.int .u8 (0)), (.int .u8 (0)), (.int .u8 (0)), (.int .u8 (0)), (.int .u8 (0)), (.int .u8 (0)), (.int .u8 (0)), (.int .u8 (0)), (.int .u8 (0)), (.int .u8 (0)), (.int .u8 (0)), (.int .u8 (0)), (.int .u8 (0)), (.int .u8 (0)), (.int .u8 (0)), (.int .u8 (0)), (.int .u8 (0)), (.int .u8 (0)), (.int .u8 (0))]⟩,
  ⟨none, none, .ef, .store 32 (.t 14) (.t 82)⟩,
  ⟨none, none, .no, .store 32 (.t 15) (.t 83)⟩]
@[go_sem] def proofs_Check_r26 : List AIns := [
  ⟨some 82, none, .rd, .load true 32 (.t 7)⟩,
  ⟨some 83, none, .rd, .load true 32 (.t 7)⟩,
  ⟨some 15, none, .ef, .alloc [(.int .u8 (0)), (.int .u8 (0)), (.int .u8 (0)), (.int .u8 (0)), (.int .u8 (0)), (.int .u8 (0)), (.int .u8 (0)), (.int .u8 (0)), (.int .u8 (0)), (.int .u8 (0)), (.int .u8 (0)), (.int .u8 (0)), (.int .u8 (0)), (.int .u8 (0)), (.int .u8 (0)), (.int .u8 (0)), (.int .u8 (0)), (.int .u8 (0)), (.int .u8 (0)), (.int .u8 (0)), (.int .u8 (0)), (.int .u8 (0)), (.int .u8 (0)), (.int .u8 (0)), (.int .u8 (0)), (.int .u8 (0)), (.int .u8 (0)), (.int .u8 (0)), (.int .u8 (0)), (.int .u8 (0)), (.int .u8 (0)), (.int .u8 (0))]⟩,
  ⟨some 14, none, .ef, .alloc [(.int .u8 (0)), (.int .u8 (0)), (.int .u8 (0)), (.int .u8 (0)), (.int .u8 (0)), (.int .u8 (0)), (.int .u8 (0)), (.int .u8 (0)), (.int .u8 (0)), (.int .u8 (0)), (.int .u8 (0)), (.int .u8 (0)), (.int .u8 (0)), (.int .u8 (0)), (.int .u8 (0)), (.int .u8 (0)), (.int .u8 (0)), (.int .u8 (0)), (.int .u8 (0)), (.int .u8 (0)), (.int .u8 (0)), (.int .u8 (0)), (.int .u8 (0)), (.int .u8 (0)), (.int .u8 (0)), (.int .u8 (0)), (.int .u8 (0)), (.int .u8 (0)), (.int .u8 (0)), (.int .u8 (0)), (.int .u8 (0)), (.int .u8 (0))]⟩,
  ⟨none, none, .ef, .store 32 (.t 14) (.t 82)⟩,
  ⟨none, none, .no, .store 32 (.t 15) (.t 83)⟩]
@[go_sem] def proofs_Check_r27 : List AIns := [
  ⟨some 84, none, .no, .mv (.t 11)⟩,
  ⟨some 85, none, .no, .bin .gtr .none (.t 84) (.v (.int .i64 (0)))⟩]
@[go_sem] def proofs_Check_r28 : List AIns := [
  ⟨some 87, none, .no, .mv (.t 13)⟩,
  ⟨some 88, none, .no, .call (.t 87) []⟩,
  ⟨some 86, none, .no, .mv (.t 88)⟩,
  ⟨some 89, none, .no, .ext 0 (.t 86)⟩,
  ⟨some 90, none, .no, .ext 1 (.t 86)⟩,
  ⟨some 16, none, .no, .alloc [(.int .u8 (0)), (.int .u8 (0)), (.int .u8 (0)), (.int .u8 (0)), (.int .u8 (0)), (.int .u8 (0)), (.int .u8 (0)), (.int .u8 (0)), (.int .u8 (0)), (.int .u8 (0)), (.int .u8 (0)), (.int .u8 (0)), (.int .u8 (0)), (.int .u8 (0)), (.int .u8 (0)), (.int .u8 (0)), (.int .u8 (0)), (.int .u8 (0)), (.int .u8 (0)), (.int .u8 (0)), (.int .u8 (0)), (.int .u8 (0)), (.int .u8 (0)), (.int .u8 (0)), (.int .u8 (0)), (.int .u8 (0)), (.int .u8 (0)), (.int .u8 (0)), (.int .u8 (0)), (.int .u8 (0)), (.int .u8 (0)), (.int .u8 (0))]⟩,
  ⟨none, none, .no, .store 32 (.t 16) (.t 89)⟩,
  ⟨some 17, none, .no, .mv (.t 90)⟩]
@[go_sem] def proofs_Check_r29 : List AIns := [
  ⟨some 91, none, .no, .mv (.t 17)⟩,
  ⟨some 92, none, .no, .un .not (.t 91)⟩]
@[go_sem] def proofs_Check_r30 : List AIns := [
  ⟨some 10, none, .no, .mv (.v (.int .i64 (80)))⟩]
def proofs_Check_c31 : ACode := .seq (.reg proofs_Check_r30) .ret
def proofs_Check_c32 : ACode := .cond (.t 92) proofs_Check_c31 .skip
def proofs_Check_c33 : ACode := .seq (.reg proofs_Check_r29) proofs_Check_c32
@[go_sem] def proofs_Check_r34 : List AIns := [
  ⟨some 93, none, .rd, .load true 32 (.t 16)⟩,
  ⟨some 94, none, .rd, .load true 32 (.t 16)⟩,
  ⟨none, none, .ef, .store 32 (.t 14) (.t 93)⟩,
  ⟨none, none, .no, .store 32 (.t 15) (.t 94)⟩]
def proofs_Check_c35 : ACode := .seq proofs_Check_c33 (.reg proofs_Check_r34)
def proofs_Check_c36 : ACode := .seq (.reg proofs_Check_r28) proofs_Check_c35
def proofs_Check_c37 : ACode := .cond (.t 85) proofs_Check_c36 .skip
def proofs_Check_c38 : ACode := .seq (.reg proofs_Check_r27) proofs_Check_c37
@[go_sem] def proofs_Check_r39 : List AIns := [
  ⟨some 95, none, .no, .mv (.t 12)⟩,
  ⟨some 96, none, .no, .bin .gtr .none (.t 95) (.v (.int .i64 (0)))⟩]
def proofs_Check_c40 : ACode := .cond (.t 96) .skip (.exit 3)
def proofs_Check_c41 : ACode := .seq (.reg proofs_Check_r39) proofs_Check_c40
@[go_sem] def proofs_Check_r42 : List AIns := [
  ⟨some 98, none, .no, .mv (.t 13)⟩,
  ⟨some 99, none, .no, .call (.t 98) []⟩,
  ⟨some 97, none, .no, .mv (.t 99)⟩,
  ⟨some 100, none, .no, .ext 0 (.t 97)⟩,
  ⟨some 101, none, .no, .ext 1 (.t 97)⟩,
  ⟨some 18, none, .no, .alloc [(.int .u8 (0)), (.int .u8 (0)), (.int .u8 (0)), (.int .u8 (0)), (.int .u8 (0)), (.int .u8 (0)), (.int .u8 (0)), (.int .u8 (0)), (.int .u8 (0)), (.int .u8 (0)), (.int .u8 (0)), (.int .u8 (0)), (.int .u8 (0)), (.int .u8 (0)), (.int .u8 (0)), (.int .u8 (0)), (.int .u8 (0)), (.int .u8 (0)), (.int .u8 (0)), (.int .u8 (0)), (.int .u8 (0)), (.int .u8 (0)), (.int .u8 (0)), (.int .u8 (0)), (.int .u8 (0)), (.int .u8 (0)), (.int .u8 (0)), (.int .u8 (0)), (.int .u8 (0)), (.int .u8 (0)), (.int .u8 (0)), (.int .u8 (0))]⟩,
  ⟨none, none, .no, .store 32 (.t 18) (.t 100)⟩,
  ⟨some 19, none, .no, .mv (.t 101)⟩]
@[go_sem] def proofs_Check_r43 : List AIns := [
  ⟨some 106, none, .no, .mv (.t 19)⟩,
  ⟨some 107, none, .no, .un .not (.t 106)⟩,
  ⟨some 105, none, .no, .mv (.t 107)⟩]
@[go_sem] def proofs_Check_r44 : List AIns := [
  ⟨some 10, none, .no, .mv (.v (.int .i64 (80)))⟩]
def proofs_Check_c45 : ACode := .seq (.reg proofs_Check_r44) .ret
@[go_sem] def proofs_Check_r46 : List AIns := [
  ⟨some 109, none, .no, .mv (.t 11)⟩,
  ⟨some 110, none, .no, .bin .rem .none (.t 109) (.v (.int .i64 (2)))⟩,
  ⟨some 111, none, .no, .bin .eql .none (.t 110) (.v (.int .i64 (1)))⟩,
  ⟨some 112, none, .no, .mv (.t 111)⟩,
  ⟨some 113, some (112, false), .no, .mv (.t 11)⟩,
  ⟨some 114, some (112, false), .no, .mv (.t 12)⟩,
  ⟨some 115, some (112, false), .no, .bin .eql .none (.t 113) (.t 114)⟩,
  ⟨some 116, none, .no, .pick (.t 112) (.v (.bool true)) (.t 115)⟩,
  ⟨some 108, none, .no, .mv (.t 116)⟩]
@[go_sem] def proofs_Check_r47 : List AIns := [
  ⟨some 117, none, .rd, .load true 32 (.t 18)⟩,
  ⟨some 118, none, .rd, .load true 32 (.t 14)⟩,
  ⟨some 119, none, .ef, .call (.v (.fn 59 [])) [(.t 117), (.t 118)]⟩,
  ⟨some 120, none, .rd, .load true 32 (.t 18)⟩,
  ⟨some 121, none, .rd, .load true 32 (.t 15)⟩,
  ⟨some 122, none, .no, .call (.v (.fn 59 [])) [(.t 120), (.t 121)]⟩,
  ⟨none, none, .no, .store 32 (.t 14) (.t 119)⟩,
  ⟨none, none, .no, .store 32 (.t 15) (.t 122)⟩]
@[go_sem] def proofs_Check_r48 : List AIns := [
  ⟨some 123, none, .no, .mv (.t 11)⟩,
  ⟨some 124, none, .no, .bin .rem .none (.t 123) (.v (.int .i64 (2)))⟩,
  ⟨some 125, none, .no, .bin .eql .none (.t 124) (.v (.int .i64 (0)))⟩,
  ⟨some 126, none, .no, .mv (.t 125)⟩,
  ⟨some 127, some (126, true), .no, .mv (.t 11)⟩,
  ⟨some 128, some (126, true), .no, .bin .gtr .none (.t 127) (.v (.int .i64 (0)))⟩,
  ⟨some 129, none, .no, .pick (.t 126) (.t 128) (.v (.bool false))⟩]
def proofs_Check_c49 : ACode := .cond (.t 129) .skip (.exit 6)
def proofs_Check_c50 : ACode := .seq (.reg proofs_Check_r48) proofs_Check_c49
@[go_sem] def proofs_Check_r51 : List AIns := [
  ⟨some 130, none, .no, .mv (.t 11)⟩,
  ⟨some 131, none, .no, .bin .quo .none (.t 130) (.v (.int .i64 (2)))⟩,
  ⟨some 132, none, .no, .mv (.t 12)⟩,
  ⟨some 133, none, .no, .bin .quo .none (.t 132) (.v (.int .i64 (2)))⟩,
  ⟨some 11, none, .no, .mv (.t 131)⟩,
  ⟨some 12, none, .no, .mv (.t 133)⟩]
def proofs_Check_c52 : ACode := .block 7 (.reg proofs_Check_r51)
def proofs_Check_c53 : ACode := .seq proofs_Check_c50 proofs_Check_c52
def proofs_Check_c54 : ACode := .loop proofs_Check_c53
def proofs_Check_c55 : ACode := .block 6 proofs_Check_c54
def proofs_Check_c56 : ACode := .seq (.reg proofs_Check_r47) proofs_Check_c55
@[go_sem] def proofs_Check_r57 : List AIns := [
  ⟨some 102, none, .no, .load true 32 (.t 15)⟩,
  ⟨some 103, none, .no, .load true 32 (.t 18)⟩,
  ⟨some 104, none, .no, .call (.v (.fn 59 [])) [(.t 102), (.t 103)]⟩,
  ⟨none, none, .no, .store 32 (.t 15) (.t 104)⟩]
def proofs_Check_c58 : ACode := .cond (.t 108) proofs_Check_c56 (.reg proofs_Check_r57)
def proofs_Check_c59 : ACode := .seq (.reg proofs_Check_r46) proofs_Check_c58
def proofs_Check_c60 : ACode := .cond (.t 105) proofs_Check_c45 proofs_Check_c59
def proofs_Check_c61 : ACode := .seq (.reg proofs_Check_r43) proofs_Check_c60
def proofs_Check_c62 : ACode := .block 5 proofs_Check_c61
def proofs_Check_c63 : ACode := .seq (.reg proofs_Check_r42) proofs_Check_c62
@[go_sem] def proofs_Check_r64 : List AIns := [
  ⟨some 134, none, .no, .mv (.t 11)⟩,
  ⟨some 135, none, .no, .bin .quo .none (.t 134) (.v (.int .i64 (2)))⟩,
  ⟨some 136, none, .no, .mv (.t 12)⟩,
  ⟨some 137, none, .no, .bin .quo .none (.t 136) (.v (.int .i64 (2)))⟩,
  ⟨some 11, none, .no, .mv (.t 135)⟩,
  ⟨some 12, none, .no, .mv (.t 137)⟩]
def proofs_Check_c65 : ACode := .seq proofs_Check_c63 (.reg proofs_Check_r64)
def proofs_Check_c66 : ACode := .block 4 proofs_Check_c65
def proofs_Check_c67 : ACode := .seq proofs_Check_c41 proofs_Check_c66
def proofs_Check_c68 : ACode := .loop proofs_Check_c67
@[go_sem] def proofs_Check_r69 : List AIns := [
  ⟨some 138, none, .no, .load false 1 (.t 9)⟩,
  ⟨some 139, none, .no, .lenSl (.t 138)⟩,
  ⟨some 140, none, .no, .bin .eql .none (.t 139) (.v (.int .i64 (0)))⟩,
  ⟨some 141, none, .no, .mv (.t 140)⟩,
  ⟨some 142, some (141, true), .no, .load true 32 (.t 14)⟩,
  ⟨some 143, some (141, true), .no, .load true 32 (.t 7)⟩,
  ⟨some 144, some (141, true), .no, .bin .eql (.agg (List.replicate 32 (.i .u8) ++ [])) (.t 142) (.t 143)⟩,
  ⟨some 145, none, .no, .pick (.t 141) (.t 144) (.v (.bool false))⟩,
  ⟨some 146, none, .no, .mv (.t 145)⟩,
  ⟨some 147, some (146, true), .no, .load true 32 (.t 15)⟩,
  ⟨some 148, some (146, true), .no, .load true 32 (.t 8)⟩,
  ⟨some 149, some (146, true), .no, .bin .eql (.agg (List.replicate 32 (.i .u8) ++ [])) (.t 147) (.t 148)⟩,
  ⟨some 150, none, .no, .pick (.t 146) (.t 149) (.v (.bool false))⟩,
  ⟨some 151, none, .no, .call (.v (.fn 63 [])) [(.t 150)]⟩,
  ⟨some 10, none, .no, .mv (.t 151)⟩]
def proofs_Check_c70 : ACode := .seq (.reg proofs_Check_r69) .ret
def proofs_Check_c71 : ACode := .seq (.block 3 proofs_Check_c68) proofs_Check_c70
def proofs_Check_c72 : ACode := .seq proofs_Check_c38 proofs_Check_c71
def proofs_Check_c73 : ACode := .seq (.reg2 proofs_Check_r25 proofs_Check_r26) proofs_Check_c72
def proofs_Check_c74 : ACode := .seq (.reg proofs_Check_r24) proofs_Check_c73
def proofs_Check_c75 : ACode := .seq (.block 1 proofs_Check_c23) proofs_Check_c74
def proofs_Check_c76 : ACode := .seq (.reg proofs_Check_r16) proofs_Check_c75
def proofs_Check_c77 : ACode := .seq (.block 0 proofs_Check_c15) proofs_Check_c76
def proofs_Check_c78 : ACode := .seq (.reg proofs_Check_r0) proofs_Check_c77
theorem proofs_Check_ok : cFn TC 19 = some (152, [.t 10], proofs_Check_c78) := by kernel_rfl

-- 20 speculum/speculumref07.Check
@[go_sem] def speculumref07_Check_r0 : List AIns := [
  ⟨some 7, none, .no, .box (.t 2)⟩,
  ⟨some 8, none, .no, .box (.t 3)⟩,
  ⟨some 10, none, .no, .mv (.v (.int .i64 (0)))⟩]
@[go_sem] def speculumref07_Check_r1 : List AIns := [
  ⟨some 15, none, .no, .mv (.t 1)⟩,
  ⟨some 16, none, .no, .bin .lss .none (.t 15) (.v (.int .i64 (0)))⟩,
  ⟨some 17, none, .no, .mv (.t 16)⟩,
  ⟨some 18, some (17, false), .no, .mv (.t 1)⟩,
  ⟨some 19, some (17, false), .no, .bin .gtr .none (.t 18) (.v (.int .i64 (4096)))⟩,
  ⟨some 20, none, .no, .pick (.t 17) (.v (.bool true)) (.t 19)⟩,
  ⟨some 21, none, .no, .mv (.t 20)⟩,
  ⟨some 22, some (21, false), .no, .mv (.t 0)⟩,
  ⟨some 23, some (21, false), .no, .bin .lss .none (.t 22) (.v (.int .i64 (0)))⟩,
  ⟨some 24, none, .no, .pick (.t 21) (.v (.bool true)) (.t 23)⟩,
  ⟨some 25, none, .no, .mv (.t 24)⟩,
  ⟨some 26, some (25, false), .no, .mv (.t 0)⟩,
  ⟨some 27, some (25, false), .no, .mv (.t 1)⟩,
  ⟨some 28, some (25, false), .no, .bin .gtr .none (.t 26) (.t 27)⟩,
  ⟨some 29, none, .no, .pick (.t 25) (.v (.bool true)) (.t 28)⟩]
@[go_sem] def speculumref07_Check_r2 : List AIns := [
  ⟨some 10, none, .no, .mv (.v (.int .i64 (2)))⟩]
def speculumref07_Check_c3 : ACode := .seq (.reg speculumref07_Check_r2) .ret
def speculumref07_Check_c4 : ACode := .cond (.t 29) speculumref07_Check_c3 .skip
def speculumref07_Check_c5 : ACode := .seq (.reg speculumref07_Check_r1) speculumref07_Check_c4
@[go_sem] def speculumref07_Check_r6 : List AIns := [
  ⟨some 11, none, .no, .mv (.v (.bool false))⟩]
@[go_sem] def speculumref07_Check_r7 : List AIns := [
  ⟨some 30, none, .no, .mv (.t 0)⟩,
  ⟨some 31, none, .no, .bin .eql .none (.t 30) (.v (.int .i64 (0)))⟩]
@[go_sem] def speculumref07_Check_r8 : List AIns := [
  ⟨some 32, none, .no, .mv (.t 4)⟩,
  ⟨some 33, none, .no, .lenSl (.t 32)⟩,
  ⟨some 34, none, .no, .bin .eql .none (.t 33) (.v (.int .i64 (0)))⟩,
  ⟨some 35, none, .no, .mv (.t 34)⟩,
  ⟨some 36, some (35, true), .rd, .load true 32 (.t 7)⟩,
  ⟨some 37, some (35, true), .ef, .call (.v (.fn 65 [])) [(.v (.str []))]⟩,
  ⟨some 38, some (35, true), .no, .bin .eql (.agg (List.replicate 32 (.i .u8) ++ [])) (.t 36) (.t 37)⟩,
  ⟨some 39, none, .no, .pick (.t 35) (.t 38) (.v (.bool false))⟩,
  ⟨some 40, none, .no, .mv (.t 39)⟩,
  ⟨some 41, some (40, true), .no, .mv (.t 1)⟩,
  ⟨some 42, some (40, true), .no, .bin .gtr .none (.t 41) (.v (.int .i64 (0)))⟩,
  ⟨some 43, some (40, true), .no, .mv (.t 42)⟩,
  ⟨some 44, some (43, false), .rd, .load true 32 (.t 7)⟩,
  ⟨some 45, some (43, false), .rd, .load true 32 (.t 8)⟩,
  ⟨some 46, some (43, false), .no, .bin .eql (.agg (List.replicate 32 (.i .u8) ++ [])) (.t 44) (.t 45)⟩,
  ⟨some 47, some (40, true), .no, .pick (.t 43) (.v (.bool true)) (.t 46)⟩,
  ⟨some 48, none, .no, .pick (.t 40) (.t 47) (.v (.bool false))⟩,
  ⟨some 11, none, .no, .mv (.t 48)⟩]
@[go_sem] def speculumref07_Check_r9 : List AIns := [
  ⟨some 49, none, .no, .mv (.t 0)⟩,
  ⟨some 50, none, .no, .mv (.t 1)⟩,
  ⟨some 51, none, .no, .bin .eql .none (.t 49) (.t 50)⟩]
@[go_sem] def speculumref07_Check_r10 : List AIns := [
  ⟨some 52, none, .no, .mv (.t 4)⟩,
  ⟨some 53, none, .no, .lenSl (.t 52)⟩,
  ⟨some 54, none, .no, .bin .eql .none (.t 53) (.v (.int .i64 (0)))⟩,
  ⟨some 55, none, .no, .mv (.t 54)⟩,
  ⟨some 56, some (55, true), .no, .load true 32 (.t 7)⟩,
  ⟨some 57, some (55, true), .no, .load true 32 (.t 8)⟩,
  ⟨some 58, some (55, true), .no, .bin .eql (.agg (List.replicate 32 (.i .u8) ++ [])) (.t 56) (.t 57)⟩,
  ⟨some 59, none, .no, .pick (.t 55) (.t 58) (.v (.bool false))⟩,
  ⟨some 11, none, .no, .mv (.t 59)⟩]
@[go_sem] def speculumref07_Check_r11 : List AIns := [
  ⟨some 61, none, .no, .mv (.t 0)⟩,
  ⟨some 62, none, .no, .mv (.t 1)⟩,
  ⟨some 63, none, .no, .load true 32 (.t 7)⟩,
  ⟨some 64, none, .no, .mv (.t 4)⟩,
  ⟨some 65, none, .no, .call (.v (.fn 66 [])) [(.t 61), (.t 62), (.v (.bool true)), (.t 63), (.t 64)]⟩,
  ⟨some 60, none, .no, .mv (.t 65)⟩,
  ⟨some 66, none, .no, .ext 0 (.t 60)⟩,
  ⟨some 67, none, .no, .ext 1 (.t 60)⟩,
  ⟨some 68, none, .no, .ext 2 (.t 60)⟩,
  ⟨some 12, none, .no, .alloc [(.int .u8 (0)), (.int .u8 (0)), (.int .u8 (0)), (.int .u8 (0)), (.int .u8 (0)), (.int .u8 (0)), (.int .u8 (0)), (.int .u8 (0)), (.int .u8 (0)), (.int .u8 (0)), (.int .u8 (0)), (.int .u8 (0)), (.int .u8 (0)), (.int .u8 (0)), (.int .u8 (0)), (.int .u8 (0)), (.int .u8 (0)), (.int .u8 (0)), (.int .u8 (0)), (.int .u8 (0)), (.int .u8 (0)), (.int .u8 (0)), (.int .u8 (0)), (.int .u8 (0)), (.int .u8 (0)), (.int .u8 (0)), (.int .u8 (0)), (.int .u8 (0)), (.int .u8 (0)), (.int .u8 (0)), (.int .u8 (0)), (.int .u8 (0))]⟩,
  ⟨some 13, none, .no, .alloc [(.int .u8 (0)), (.int .u8 (0)), (.int .u8 (0)), (.int .u8 (0)), (.int .u8 (0)), (.int .u8 (0)), (.int .u8 (0)), (.int .u8 (0)), (.int .u8 (0)), (.int .u8 (0)), (.int .u8 (0)), (.int .u8 (0)), (.int .u8 (0)), (.int .u8 (0)), (.int .u8 (0)), (.int .u8 (0)), (.int .u8 (0)), (.int .u8 (0)), (.int .u8 (0)), (.int .u8 (0)), (.int .u8 (0)), (.int .u8 (0)), (.int .u8 (0)), (.int .u8 (0)), (.int .u8 (0)), (.int .u8 (0)), (.int .u8 (0)), (.int .u8 (0)), (.int .u8 (0)), (.int .u8 (0)), (.int .u8 (0)), (.int .u8 (0))]⟩,
  ⟨none, none, .no, .store 32 (.t 12) (.t 66)⟩,
  ⟨none, none, .no, .store 32 (.t 13) (.t 67)⟩,
  ⟨some 14, none, .no, .mv (.t 68)⟩]
@[go_sem] def speculumref07_Check_r12 : List AIns := [
  ⟨some 69, none, .no, .mv (.t 14)⟩,
  ⟨some 70, none, .no, .mv (.t 69)⟩,
  ⟨some 71, some (70, true), .no, .load true 32 (.t 12)⟩,
  ⟨some 72, some (70, true), .no, .load true 32 (.t 7)⟩,
  ⟨some 73, some (70, true), .no, .bin .eql (.agg (List.replicate 32 (.i .u8) ++ [])) (.t 71) (.t 72)⟩,
  ⟨some 74, none, .no, .pick (.t 70) (.t 73) (.v (.bool false))⟩,
  ⟨some 75, none, .no, .mv (.t 74)⟩,
  ⟨some 76, some (75, true), .no, .load true 32 (.t 13)⟩,
  ⟨some 77, some (75, true), .no, .load true 32 (.t 8)⟩,
  ⟨some 78, some (75, true), .no, .bin .eql (.agg (List.replicate 32 (.i .u8) ++ [])) (.t 76) (.t 77)⟩,
  ⟨some 79, none, .no, .pick (.t 75) (.t 78) (.v (.bool false))⟩,
  ⟨some 11, none, .no, .mv (.t 79)⟩]
def speculumref07_Check_c13 : ACode := .seq (.reg speculumref07_Check_r11) (.reg speculumref07_Check_r12)
def speculumref07_Check_c14 : ACode := .cond (.t 51) (.reg speculumref07_Check_r10) speculumref07_Check_c13
def speculumref07_Check_c15 : ACode := .seq (.reg speculumref07_Check_r9) speculumref07_Check_c14
def speculumref07_Check_c16 : ACode := .cond (.t 31) (.reg speculumref07_Check_r8) speculumref07_Check_c15
def speculumref07_Check_c17 : ACode := .seq (.reg speculumref07_Check_r7) speculumref07_Check_c16
@[go_sem] def speculumref07_Check_r18 : List AIns := [
  ⟨some 80, none, .no, .mv (.t 11)⟩,
  ⟨some 81, none, .no, .un .not (.t 80)⟩]
@[go_sem] def speculumref07_Check_r19 : List AIns := [
  ⟨some 10, none, .no, .mv (.v (.int .i64 (80)))⟩]
def speculumref07_Check_c20 : ACode := .seq (.reg speculumref07_Check_r19) .ret
def speculumref07_Check_c21 : ACode := .cond (.t 81) speculumref07_Check_c20 .skip
def speculumref07_Check_c22 : ACode := .seq (.reg speculumref07_Check_r18) speculumref07_Check_c21
@[go_sem] def speculumref07_Check_r23 : List AIns := [
  ⟨some 10, none, .no, .mv (.v (.int .i64 (0)))⟩]
def speculumref07_Check_c24 : ACode := .seq (.reg speculumref07_Check_r23) .ret
def speculumref07_Check_c25 : ACode := .seq speculumref07_Check_c22 speculumref07_Check_c24
def speculumref07_Check_c26 : ACode := .seq speculumref07_Check_c17 speculumref07_Check_c25
def speculumref07_Check_c27 : ACode := .seq (.reg speculumref07_Check_r6) speculumref07_Check_c26
def speculumref07_Check_c28 : ACode := .seq speculumref07_Check_c5 speculumref07_Check_c27
def speculumref07_Check_c29 : ACode := .seq (.reg speculumref07_Check_r0) speculumref07_Check_c28
theorem speculumref07_Check_ok : cFn TC 20 = some (82, [.t 10], speculumref07_Check_c29) := by kernel_rfl

-- 60 speculum/proofs.Proof$1
@[go_sem] def proofs_Proof_1_r0 : List AIns := [
  ⟨some 9, none, .no, .mv (.t 1)⟩,
  ⟨some 10, none, .no, .mv (.t 0)⟩,
  ⟨some 11, none, .no, .lenSl (.t 10)⟩,
  ⟨some 12, none, .no, .bin .eql .none (.t 9) (.t 11)⟩]
@[go_sem] def proofs_Proof_1_r1 : List AIns := [
  ⟨some 13, none, .no, .mv (.t 2)⟩,
  ⟨some 14, none, .no, .un .not (.t 13)⟩]
@[go_sem] def proofs_Proof_1_r2 : List AIns := [
  ⟨some 15, none, .rd, .load false 1 (.t 3)⟩,
  ⟨some 16, none, .no, .mv (.t 0)⟩,
  ⟨some 17, none, .ef, .call (.v (.fn 22 [])) [(.t 16)]⟩,
  ⟨some 18, none, .no, .lit 32 [(.t 17)]⟩,
  ⟨some 19, none, .no, .app 32 (.t 15) (.t 18)⟩,
  ⟨none, none, .no, .store 1 (.t 3) (.t 19)⟩]
def proofs_Proof_1_c3 : ACode := .cond (.t 14) (.reg proofs_Proof_1_r2) .skip
def proofs_Proof_1_c4 : ACode := .seq (.reg proofs_Proof_1_r1) proofs_Proof_1_c3
def proofs_Proof_1_c5 : ACode := .seq proofs_Proof_1_c4 .ret
def proofs_Proof_1_c6 : ACode := .cond (.t 12) proofs_Proof_1_c5 .skip
def proofs_Proof_1_c7 : ACode := .seq (.reg proofs_Proof_1_r0) proofs_Proof_1_c6
@[go_sem] def proofs_Proof_1_r8 : List AIns := [
  ⟨some 20, none, .no, .mv (.t 0)⟩,
  ⟨some 21, none, .no, .lenSl (.t 20)⟩,
  ⟨some 22, none, .no, .call (.v (.fn 61 [])) [(.t 21)]⟩,
  ⟨some 8, none, .no, .mv (.t 22)⟩]
@[go_sem] def proofs_Proof_1_r9 : List AIns := [
  ⟨some 23, none, .no, .mv (.t 1)⟩,
  ⟨some 24, none, .no, .mv (.t 8)⟩,
  ⟨some 25, none, .no, .bin .leq .none (.t 23) (.t 24)⟩]
@[go_sem] def proofs_Proof_1_r10 : List AIns := [
  ⟨some 26, none, .rd, .load false 1 (.t 4)⟩,
  ⟨some 27, none, .no, .mv (.t 0)⟩,
  ⟨some 28, none, .no, .mv (.t 8)⟩,
  ⟨some 29, none, .rd, .slice (.sl 32) (.t 27) none (some (.t 28)) none⟩,
  ⟨some 30, none, .no, .mv (.t 1)⟩,
  ⟨some 31, none, .no, .mv (.t 2)⟩,
  ⟨some 32, none, .no, .call (.t 26) [(.t 29), (.t 30), (.t 31)]⟩]
@[go_sem] def proofs_Proof_1_r11 : List AIns := [
  ⟨some 33, none, .rd, .load false 1 (.t 3)⟩,
  ⟨some 34, none, .no, .mv (.t 0)⟩,
  ⟨some 35, none, .no, .mv (.t 8)⟩,
  ⟨some 36, none, .rd, .slice (.sl 32) (.t 34) (some (.t 35)) none none⟩,
  ⟨some 37, none, .ef, .call (.v (.fn 22 [])) [(.t 36)]⟩,
  ⟨some 38, none, .no, .lit 32 [(.t 37)]⟩,
  ⟨some 39, none, .no, .app 32 (.t 33) (.t 38)⟩,
  ⟨none, none, .no, .store 1 (.t 3) (.t 39)⟩]
def proofs_Proof_1_c12 : ACode := .seq (.reg proofs_Proof_1_r11) .ret
def proofs_Proof_1_c13 : ACode := .seq (.reg proofs_Proof_1_r10) proofs_Proof_1_c12
def proofs_Proof_1_c14 : ACode := .cond (.t 25) proofs_Proof_1_c13 .skip
def proofs_Proof_1_c15 : ACode := .seq (.reg proofs_Proof_1_r9) proofs_Proof_1_c14
@[go_sem] def proofs_Proof_1_r16 : List AIns := [
  ⟨some 40, none, .rd, .load false 1 (.t 4)⟩,
  ⟨some 41, none, .no, .mv (.t 0)⟩,
  ⟨some 42, none, .no, .mv (.t 8)⟩,
  ⟨some 43, none, .rd, .slice (.sl 32) (.t 41) (some (.t 42)) none none⟩,
  ⟨some 44, none, .no, .mv (.t 1)⟩,
  ⟨some 45, none, .no, .mv (.t 8)⟩,
  ⟨some 46, none, .no, .bin .sub .none (.t 44) (.t 45)⟩,
  ⟨some 47, none, .no, .call (.t 40) [(.t 43), (.t 46), (.v (.bool false))]⟩]
@[go_sem] def proofs_Proof_1_r17 : List AIns := [
  ⟨some 48, none, .rd, .load false 1 (.t 3)⟩,
  ⟨some 49, none, .no, .mv (.t 0)⟩,
  ⟨some 50, none, .no, .mv (.t 8)⟩,
  ⟨some 51, none, .rd, .slice (.sl 32) (.t 49) none (some (.t 50)) none⟩,
  ⟨some 52, none, .ef, .call (.v (.fn 22 [])) [(.t 51)]⟩,
  ⟨some 53, none, .no, .lit 32 [(.t 52)]⟩,
  ⟨some 54, none, .no, .app 32 (.t 48) (.t 53)⟩,
  ⟨none, none, .no, .store 1 (.t 3) (.t 54)⟩]
def proofs_Proof_1_c18 : ACode := .seq (.reg proofs_Proof_1_r16) (.reg proofs_Proof_1_r17)
def proofs_Proof_1_c19 : ACode := .seq proofs_Proof_1_c15 proofs_Proof_1_c18
def proofs_Proof_1_c20 : ACode := .seq (.reg proofs_Proof_1_r8) proofs_Proof_1_c19
def proofs_Proof_1_c21 : ACode := .seq proofs_Proof_1_c7 proofs_Proof_1_c20
theorem proofs_Proof_1_ok : cFn TC 60 = some (55, [], proofs_Proof_1_c21) := by kernel_rfl

-- 62 speculum/speculumref07.sub
@[go_sem] def speculumref07_sub_r0 : List AIns := [
  ⟨some 6, none, .no, .mv (.v .nilsl)⟩]
@[go_sem] def speculumref07_sub_r1 : List AIns := [
  ⟨some 8, none, .no, .mv (.t 1)⟩,
  ⟨some 9, none, .no, .mv (.t 0)⟩,
  ⟨some 10, none, .no, .lenSl (.t 9)⟩,
  ⟨some 11, none, .no, .bin .eql .none (.t 8) (.t 10)⟩,
  ⟨some 12, none, .no, .mv (.t 11)⟩,
  ⟨some 13, some (12, true), .no, .mv (.t 2)⟩,
  ⟨some 14, none, .no, .pick (.t 12) (.t 13) (.v (.bool false))⟩]
@[go_sem] def speculumref07_sub_r2 : List AIns := [
  ⟨some 6, none, .no, .mv (.v .nilsl)⟩]
def speculumref07_sub_c3 : ACode := .seq (.reg speculumref07_sub_r2) .ret
def speculumref07_sub_c4 : ACode := .cond (.t 14) speculumref07_sub_c3 .skip
def speculumref07_sub_c5 : ACode := .seq (.reg speculumref07_sub_r1) speculumref07_sub_c4
@[go_sem] def speculumref07_sub_r6 : List AIns := [
  ⟨some 15, none, .no, .mv (.t 1)⟩,
  ⟨some 16, none, .no, .mv (.t 0)⟩,
  ⟨some 17, none, .no, .lenSl (.t 16)⟩,
  ⟨some 18, none, .no, .bin .eql .none (.t 15) (.t 17)⟩]
@[go_sem] def speculumref07_sub_r7 : List AIns := [
  ⟨some 19, none, .no, .mv (.t 0)⟩,
  ⟨some 20, none, .no, .call (.v (.fn 71 [])) [(.t 19)]⟩,
  ⟨some 21, none, .no, .lit 32 [(.t 20)]⟩,
  ⟨some 6, none, .no, .mv (.t 21)⟩]
def speculumref07_sub_c8 : ACode := .seq (.reg speculumref07_sub_r7) .ret
def speculumref07_sub_c9 : ACode := .cond (.t 18) speculumref07_sub_c8 .skip
def speculumref07_sub_c10 : ACode := .seq (.reg speculumref07_sub_r6) speculumref07_sub_c9
@[go_sem] def speculumref07_sub_r11 : List AIns := [
  ⟨some 22, none, .no, .mv (.t 0)⟩,
  ⟨some 23, none, .no, .lenSl (.t 22)⟩,
  ⟨some 24, none, .no, .call (.v (.fn 114 [])) [(.t 23)]⟩,
  ⟨some 7, none, .no, .mv (.t 24)⟩]
@[go_sem] def speculumref07_sub_r12 : List AIns := [
  ⟨some 25, none, .no, .mv (.t 1)⟩,
  ⟨some 26, none, .no, .mv (.t 7)⟩,
  ⟨some 27, none, .no, .bin .leq .none (.t 25) (.t 26)⟩]
@[go_sem] def speculumref07_sub_r13 : List AIns := [
  ⟨some 28, none, .no, .mv (.t 0)⟩,
  ⟨some 29, none, .no, .mv (.t 7)⟩,
  ⟨some 30, none, .rd, .slice (.sl 32) (.t 28) none (some (.t 29)) none⟩,
  ⟨some 31, none, .no, .mv (.t 1)⟩,
  ⟨some 32, none, .no, .mv (.t 2)⟩,
  ⟨some 33, none, .ef, .call (.v (.fn 62 [])) [(.t 30), (.t 31), (.t 32)]⟩,
  ⟨some 34, none, .no, .mv (.t 0)⟩,
  ⟨some 35, none, .no, .mv (.t 7)⟩,
  ⟨some 36, none, .rd, .slice (.sl 32) (.t 34) (some (.t 35)) none none⟩,
  ⟨some 37, none, .no, .call (.v (.fn 71 [])) [(.t 36)]⟩,
  ⟨some 38, none, .no, .lit 32 [(.t 37)]⟩,
  ⟨some 39, none, .no, .app 32 (.t 33) (.t 38)⟩,
  ⟨some 6, none, .no, .mv (.t 39)⟩]
def speculumref07_sub_c14 : ACode := .seq (.reg speculumref07_sub_r13) .ret
def speculumref07_sub_c15 : ACode := .cond (.t 27) speculumref07_sub_c14 .skip
def speculumref07_sub_c16 : ACode := .seq (.reg speculumref07_sub_r12) speculumref07_sub_c15
@[go_sem] def speculumref07_sub_r17 : List AIns := [
  ⟨some 40, none, .no, .mv (.t 0)⟩,
  ⟨some 41, none, .no, .mv (.t 7)⟩,
  ⟨some 42, none, .rd, .slice (.sl 32) (.t 40) (some (.t 41)) none none⟩,
  ⟨some 43, none, .no, .mv (.t 1)⟩,
  ⟨some 44, none, .no, .mv (.t 7)⟩,
  ⟨some 45, none, .no, .bin .sub .none (.t 43) (.t 44)⟩,
  ⟨some 46, none, .ef, .call (.v (.fn 62 [])) [(.t 42), (.t 45), (.v (.bool false))]⟩,
  ⟨some 47, none, .no, .mv (.t 0)⟩,
  ⟨some 48, none, .no, .mv (.t 7)⟩,
  ⟨some 49, none, .rd, .slice (.sl 32) (.t 47) none (some (.t 48)) none⟩,
  ⟨some 50, none, .no, .call (.v (.fn 71 [])) [(.t 49)]⟩,
  ⟨some 51, none, .no, .lit 32 [(.t 50)]⟩,
  ⟨some 52, none, .no, .app 32 (.t 46) (.t 51)⟩,
  ⟨some 6, none, .no, .mv (.t 52)⟩]
def speculumref07_sub_c18 : ACode := .seq (.reg speculumref07_sub_r17) .ret
def speculumref07_sub_c19 : ACode := .seq speculumref07_sub_c16 speculumref07_sub_c18
def speculumref07_sub_c20 : ACode := .seq (.reg speculumref07_sub_r11) speculumref07_sub_c19
def speculumref07_sub_c21 : ACode := .seq speculumref07_sub_c10 speculumref07_sub_c20
def speculumref07_sub_c22 : ACode := .seq speculumref07_sub_c5 speculumref07_sub_c21
def speculumref07_sub_c23 : ACode := .seq (.reg speculumref07_sub_r0) speculumref07_sub_c22
theorem speculumref07_sub_ok : cFn TC 62 = some (53, [.t 6], speculumref07_sub_c23) := by kernel_rfl

-- 63 speculum/proofs.holds
@[go_sem] def proofs_holds_r0 : List AIns := [
  ⟨some 2, none, .no, .mv (.v (.int .i64 (0)))⟩]
@[go_sem] def proofs_holds_r1 : List AIns := [
  ⟨some 3, none, .no, .mv (.t 0)⟩,
  ⟨some 4, none, .no, .un .not (.t 3)⟩]
@[go_sem] def proofs_holds_r2 : List AIns := [
  ⟨some 2, none, .no, .mv (.v (.int .i64 (80)))⟩]
def proofs_holds_c3 : ACode := .seq (.reg proofs_holds_r2) .ret
def proofs_holds_c4 : ACode := .cond (.t 4) proofs_holds_c3 .skip
def proofs_holds_c5 : ACode := .seq (.reg proofs_holds_r1) proofs_holds_c4
@[go_sem] def proofs_holds_r6 : List AIns := [
  ⟨some 2, none, .no, .mv (.v (.int .i64 (0)))⟩]
def proofs_holds_c7 : ACode := .seq (.reg proofs_holds_r6) .ret
def proofs_holds_c8 : ACode := .seq proofs_holds_c5 proofs_holds_c7
def proofs_holds_c9 : ACode := .seq (.reg proofs_holds_r0) proofs_holds_c8
theorem proofs_holds_ok : cFn TC 63 = some (5, [.t 2], proofs_holds_c9) := by kernel_rfl

-- 64 speculum/proofs.Check$1
@[go_sem] def proofs_Check_1_r0 : List AIns := [
  ⟨some 1, none, .no, .alloc [(.int .u8 (0)), (.int .u8 (0)), (.int .u8 (0)), (.int .u8 (0)), (.int .u8 (0)), (.int .u8 (0)), (.int .u8 (0)), (.int .u8 (0)), (.int .u8 (0)), (.int .u8 (0)), (.int .u8 (0)), (.int .u8 (0)), (.int .u8 (0)), (.int .u8 (0)), (.int .u8 (0)), (.int .u8 (0)), (.int .u8 (0)), (.int .u8 (0)), (.int .u8 (0)), (.int .u8 (0)), (.int .u8 (0)), (.int .u8 (0)), (.int .u8 (0)), (.int .u8 (0)), (.int .u8 (0)), (.int .u8 (0)), (.int .u8 (0)), (.int .u8 (0)), (.int .u8 (0)), (.int .u8 (0)), (.int .u8 (0)), (.int .u8 (0))]⟩,
  ⟨some 2, none, .no, .mv (.v (.bool false))⟩]
@[go_sem] def proofs_Check_1_r1 : List AIns := [
  ⟨some 3, none, .no, .load false 1 (.t 0)⟩,
  ⟨some 4, none, .no, .lenSl (.t 3)⟩,
  ⟨some 5, none, .no, .bin .eql .none (.t 4) (.v (.int .i64 (0)))⟩]
@[go_sem] def proofs_Check_1_r2 : List AIns := [
  ⟨some 6, none, .no, .load true 32 (.t 1)⟩,
  ⟨none, none, .no, .store 32 (.t 1) (.t 6)⟩,
  ⟨some 2, none, .no, .mv (.v (.bool false))⟩]
def proofs_Check_1_c3 : ACode := .seq (.reg proofs_Check_1_r2) .ret
def proofs_Check_1_c4 : ACode := .cond (.t 5) proofs_Check_1_c3 .skip
def proofs_Check_1_c5 : ACode := .seq (.reg proofs_Check_1_r1) proofs_Check_1_c4
@[go_sem] def proofs_Check_1_r6 : List AIns := [
  ⟨some 7, none, .rd, .load false 1 (.t 0)⟩,
  ⟨some 8, none, .no, .iaSl 32 (.t 7) (.v (.int .i64 (0)))⟩,
  ⟨some 9, none, .rd, .load true 32 (.t 8)⟩,
  ⟨some 10, none, .rd, .load false 1 (.t 0)⟩,
  ⟨some 11, none, .rd, .slice (.sl 32) (.t 10) (some (.v (.int .i64 (1)))) none none⟩,
  ⟨none, none, .ef, .store 32 (.t 1) (.t 9)⟩,
  ⟨none, none, .no, .store 1 (.t 0) (.t 11)⟩]
@[go_sem] def proofs_Check_1_r7 : List AIns := [
  ⟨some 12, none, .no, .load true 32 (.t 1)⟩,
  ⟨none, none, .no, .store 32 (.t 1) (.t 12)⟩,
  ⟨some 2, none, .no, .mv (.v (.bool true))⟩]
def proofs_Check_1_c8 : ACode := .seq (.reg proofs_Check_1_r7) .ret
def proofs_Check_1_c9 : ACode := .seq (.reg proofs_Check_1_r6) proofs_Check_1_c8
def proofs_Check_1_c10 : ACode := .seq proofs_Check_1_c5 proofs_Check_1_c9
def proofs_Check_1_c11 : ACode := .seq (.reg proofs_Check_1_r0) proofs_Check_1_c10
theorem proofs_Check_1_ok : cFn TC 64 = some (13, [.c 1 true 32, .t 2], proofs_Check_1_c11) := by kernel_rfl

-- 66 speculum/speculumref07.says
@[go_sem] def speculumref07_says_r0 : List AIns := [
  ⟨some 8, none, .no, .box (.t 3)⟩,
  ⟨some 10, none, .no, .alloc [(.int .u8 (0)), (.int .u8 (0)), (.int .u8 (0)), (.int .u8 (0)), (.int .u8 (0)), (.int .u8 (0)), (.int .u8 (0)), (.int .u8 (0)), (.int .u8 (0)), (.int .u8 (0)), (.int .u8 (0)), (.int .u8 (0)), (.int .u8 (0)), (.int .u8 (0)), (.int .u8 (0)), (.int .u8 (0)), (.int .u8 (0)), (.int .u8 (0)), (.int .u8 (0)), (.int .u8 (0)), (.int .u8 (0)), (.int .u8 (0)), (.int .u8 (0)), (.int .u8 (0)), (.int .u8 (0)), (.int .u8 (0)), (.int .u8 (0)), (.int .u8 (0)), (.int .u8 (0)), (.int .u8 (0)), (.int .u8 (0)), (.int .u8 (0))]⟩,
  ⟨some 11, none, .no, .alloc [(.int .u8 (0)), (.int .u8 (0)), (.int .u8 (0)), (.int .u8 (0)), (.int .u8 (0)), (.int .u8 (0)), (.int .u8 (0)), (.int .u8 (0)), (.int .u8 (0)), (.int .u8 (0)), (.int .u8 (0)), (.int .u8 (0)), (.int .u8 (0)), (.int .u8 (0)), (.int .u8 (0)), (.int .u8 (0)), (.int .u8 (0)), (.int .u8 (0)), (.int .u8 (0)), (.int .u8 (0)), (.int .u8 (0)), (.int .u8 (0)), (.int .u8 (0)), (.int .u8 (0)), (.int .u8 (0)), (.int .u8 (0)), (.int .u8 (0)), (.int .u8 (0)), (.int .u8 (0)), (.int .u8 (0)), (.int .u8 (0)), (.int .u8 (0))]⟩,
  ⟨some 12, none, .no, .mv (.v (.bool false))⟩]
@[go_sem] def speculumref07_says_r1 : List AIns := [
  ⟨some 22, none, .no, .mv (.t 0)⟩,
  ⟨some 23, none, .no, .mv (.t 1)⟩,
  ⟨some 24, none, .no, .bin .eql .none (.t 22) (.t 23)⟩,
  ⟨some 25, none, .no, .mv (.t 24)⟩,
  ⟨some 26, some (25, true), .no, .mv (.t 2)⟩,
  ⟨some 27, none, .no, .pick (.t 25) (.t 26) (.v (.bool false))⟩]
@[go_sem] def speculumref07_says_r2 : List AIns := [
  ⟨some 28, none, .rd, .load true 32 (.t 8)⟩,
  ⟨some 29, none, .rd, .load true 32 (.t 8)⟩,
  ⟨some 30, none, .no, .mv (.t 4)⟩,
  ⟨some 31, none, .no, .lenSl (.t 30)⟩,
  ⟨some 32, none, .no, .bin .eql .none (.t 31) (.v (.int .i64 (0)))⟩,
  ⟨none, none, .ef, .store 32 (.t 10) (.t 28)⟩,
  ⟨none, none, .no, .store 32 (.t 11) (.t 29)⟩,
  ⟨some 12, none, .no, .mv (.t 32)⟩]
def speculumref07_says_c3 : ACode := .seq (.reg speculumref07_says_r2) .ret
def speculumref07_says_c4 : ACode := .cond (.t 27) speculumref07_says_c3 .skip
def speculumref07_says_c5 : ACode := .seq (.reg speculumref07_says_r1) speculumref07_says_c4
@[go_sem] def speculumref07_says_r6 : List AIns := [
  ⟨some 33, none, .no, .mv (.t 0)⟩,
  ⟨some 34, none, .no, .mv (.t 1)⟩,
  ⟨some 35, none, .no, .bin .eql .none (.t 33) (.t 34)⟩]
@[go_sem] def speculumref07_says_r7 : List AIns := [
  ⟨some 36, none, .no, .mv (.t 4)⟩,
  ⟨some 37, none, .no, .lenSl (.t 36)⟩,
  ⟨some 38, none, .no, .bin .neq .none (.t 37) (.v (.int .i64 (1)))⟩]
@[go_sem] def speculumref07_says_r8 : List AIns := [
  ⟨some 39, none, .rd, .load true 32 (.t 8)⟩,
  ⟨some 40, none, .rd, .load true 32 (.t 8)⟩,
  ⟨none, none, .ef, .store 32 (.t 10) (.t 39)⟩,
  ⟨none, none, .no, .store 32 (.t 11) (.t 40)⟩,
  ⟨some 12, none, .no, .mv (.v (.bool false))⟩]
def speculumref07_says_c9 : ACode := .seq (.reg speculumref07_says_r8) .ret
def speculumref07_says_c10 : ACode := .cond (.t 38) speculumref07_says_c9 .skip
def speculumref07_says_c11 : ACode := .seq (.reg speculumref07_says_r7) speculumref07_says_c10
@[go_sem] def speculumref07_says_r12 : List AIns := [
  ⟨some 41, none, .no, .mv (.t 4)⟩,
  ⟨some 42, none, .no, .iaSl 32 (.t 41) (.v (.int .i64 (0)))⟩,
  ⟨some 43, none, .rd, .load true 32 (.t 42)⟩,
  ⟨some 44, none, .no, .mv (.t 4)⟩,
  ⟨some 45, none, .no, .iaSl 32 (.t 44) (.v (.int .i64 (0)))⟩,
  ⟨some 46, none, .rd, .load true 32 (.t 45)⟩,
  ⟨none, none, .ef, .store 32 (.t 10) (.t 43)⟩,
  ⟨none, none, .no, .store 32 (.t 11) (.t 46)⟩,
  ⟨some 12, none, .no, .mv (.v (.bool true))⟩]
def speculumref07_says_c13 : ACode := .seq (.reg speculumref07_says_r12) .ret
def speculumref07_says_c14 : ACode := .seq speculumref07_says_c11 speculumref07_says_c13
def speculumref07_says_c15 : ACode := .cond (.t 35) speculumref07_says_c14 .skip
def speculumref07_says_c16 : ACode := .seq (.reg speculumref07_says_r6) speculumref07_says_c15
@[go_sem] def speculumref07_says_r17 : List AIns := [
  ⟨some 47, none, .no, .mv (.t 4)⟩,
  ⟨some 48, none, .no, .lenSl (.t 47)⟩,
  ⟨some 49, none, .no, .bin .eql .none (.t 48) (.v (.int .i64 (0)))⟩]
@[go_sem] def speculumref07_says_r18 : List AIns := [
  ⟨some 50, none, .rd, .load true 32 (.t 8)⟩,
  ⟨some 51, none, .rd, .load true 32 (.t 8)⟩,
  ⟨none, none, .ef, .store 32 (.t 10) (.t 50)⟩,
  ⟨none, none, .no, .store 32 (.t 11) (.t 51)⟩,
  ⟨some 12, none, .no, .mv (.v (.bool false))⟩]
def speculumref07_says_c19 : ACode := .seq (.reg speculumref07_says_r18) .ret
def speculumref07_says_c20 : ACode := .cond (.t 49) speculumref07_says_c19 .skip
def speculumref07_says_c21 : ACode := .seq (.reg speculumref07_says_r17) speculumref07_says_c20
@[go_sem] def speculumref07_says_r22 : List AIns := [
  ⟨some 52, none, .no, .mv (.t 1)⟩,
  ⟨some 53, none, .ef, .call (.v (.fn 114 [])) [(.t 52)]⟩,
  ⟨some 54, none, .no, .mv (.t 4)⟩,
  ⟨some 55, none, .no, .mv (.t 4)⟩,
  ⟨some 56, none, .no, .lenSl (.t 55)⟩,
  ⟨some 57, none, .no, .bin .sub .none (.t 56) (.v (.int .i64 (1)))⟩,
  ⟨some 58, none, .no, .iaSl 32 (.t 54) (.t 57)⟩,
  ⟨some 59, none, .rd, .load true 32 (.t 58)⟩,
  ⟨some 14, none, .ef, .alloc [(.int .u8 (0)), (.int .u8 (0)), (.int .u8 (0)), (.int .u8 (0)), (.int .u8 (0)), (.int .u8 (0)), (.int .u8 (0)), (.int .u8 (0)), (.int .u8 (0)), (.int .u8 (0)), (.int .u8 (0)), (.int .u8 (0)), (.int .u8 (0)), (.int .u8 (0)), (.int .u8 (0)), (.int .u8 (0)), (.int .u8 (0)), (.int .u8 (0)), (.int .u8 (0)), (.int .u8 (0)), (.int .u8 (0)), (.int .u8 (0)), (.int .u8 (0)), (.int .u8 (0)), (.int .u8 (0)), (.int .u8 (0)), (.int .u8 (0)), (.int .u8 (0)), (.int .u8 (0)), (.int .u8 (0)), (.int .u8 (0)), (.int .u8 (0))]⟩,
  ⟨some 13, none, .no, .mv (.t 53)⟩,
  ⟨none, none, .no, .store 32 (.t 14) (.t 59)⟩]
@[go_sem] def speculumref07_says_r23 : List AIns := [
  ⟨some 52, none, .no, .mv (.t 1)⟩,
  ⟨some 14, none, .ef, .alloc [(.int .u8 (0)), (.int .u8 (0)), (.int .u8 (0)), (.int .u8 (0)), (.int .u8 (0)), (.int .u8 (0)), (.int .u8 (0)), (.int .u8 (0)), (.int .u8 (0)), (.int .u8 (0)), (.int .u8 (0)), (.int .u8 (0)), (.int .u8 (0)), (.int .u8 (0)), (.int .u8 (0)), (.int .u8 (0)), (.int .u8 (0)), (.int .u8 (0)), (.int .u8 (0)), (.int .u8 (0)), (.int .u8 (0)), (.int .u8 (0)), (.int .u8 (0)), (.int .u8 (0)), (.int .u8 (0)), (.int .u8 (0)), (.int .u8 (0)), (.int .u8 (0)), (.int .u8 (0)), (.int .u8 (0)), (.int .u8 (0)), (.int .u8 (0))]⟩,
  ⟨some 53, none, .ef, .call (.v (.fn 114 [])) [(.t 52)]⟩,
  ⟨some 54, none, .no, .mv (.t 4)⟩,
  ⟨some 55, none, .no, .mv (.t 4)⟩,
  ⟨some 56, none, .no, .lenSl (.t 55)⟩,
  ⟨some 57, none, .no, .bin .sub .none (.t 56) (.v (.int .i64 (1)))⟩,
  ⟨some 58, none, .no, .iaSl 32 (.t 54) (.t 57)⟩,
  ⟨some 59, none, .rd, .load true 32 (.t 58)⟩,
  ⟨some 13, none, .no, .mv (.t 53)⟩,
  ⟨none, none, .no, .store 32 (.t 14) (.t 59)⟩]
@[go_sem] def speculumref07_says_r24 : List AIns := [
  ⟨some 60, none, .no, .mv (.t 4)⟩,
  ⟨some 61, none, .no, .mv (.t 4)⟩,
  ⟨some 62, none, .no, .lenSl (.t 61)⟩,
  ⟨some 63, none, .no, .bin .sub .none (.t 62) (.v (.int .i64 (1)))⟩,
  ⟨some 64, none, .no, .slice (.sl 32) (.t 60) none (some (.t 63)) none⟩,
  ⟨some 15, none, .no, .mv (.t 64)⟩]
@[go_sem] def speculumref07_says_r25 : List AIns := [
  ⟨some 65, none, .no, .mv (.t 0)⟩,
  ⟨some 66, none, .no, .mv (.t 13)⟩,
  ⟨some 67, none, .no, .bin .leq .none (.t 65) (.t 66)⟩]
@[go_sem] def speculumref07_says_r26 : List AIns := [
  ⟨some 69, none, .no, .mv (.t 0)⟩,
  ⟨some 70, none, .no, .mv (.t 13)⟩,
  ⟨some 71, none, .no, .mv (.t 2)⟩,
  ⟨some 72, none, .no, .load true 32 (.t 8)⟩,
  ⟨some 73, none, .no, .mv (.t 15)⟩,
  ⟨some 74, none, .no, .call (.v (.fn 66 [])) [(.t 69), (.t 70), (.t 71), (.t 72), (.t 73)]⟩,
  ⟨some 68, none, .no, .mv (.t 74)⟩,
  ⟨some 75, none, .no, .ext 0 (.t 68)⟩,
  ⟨some 76, none, .no, .ext 1 (.t 68)⟩,
  ⟨some 77, none, .no, .ext 2 (.t 68)⟩,
  ⟨some 16, none, .no, .alloc [(.int .u8 (0)), (.int .u8 (0)), (.int .u8 (0)), (.int .u8 (0)), (.int .u8 (0)), (.int .u8 (0)), (.int .u8 (0)), (.int .u8 (0)), (.int .u8 (0)), (.int .u8 (0)), (.int .u8 (0)), (.int .u8 (0)), (.int .u8 (0)), (.int .u8 (0)), (.int .u8 (0)), (.int .u8 (0)), (.int .u8 (0)), (.int .u8 (0)), (.int .u8 (0)), (.int .u8 (0)), (.int .u8 (0)), (.int .u8 (0)), (.int .u8 (0)), (.int .u8 (0)), (.int .u8 (0)), (.int .u8 (0)), (.int .u8 (0)), (.int .u8 (0)), (.int .u8 (0)), (.int .u8 (0)), (.int .u8 (0)), (.int .u8 (0))]⟩,
  ⟨some 17, none, .no, .alloc [(.int .u8 (0)), (.int .u8 (0)), (.int .u8 (0)), (.int .u8 (0)), (.int .u8 (0)), (.int .u8 (0)), (.int .u8 (0)), (.int .u8 (0)), (.int .u8 (0)), (.int .u8 (0)), (.int .u8 (0)), (.int .u8 (0)), (.int .u8 (0)), (.int .u8 (0)), (.int .u8 (0)), (.int .u8 (0)), (.int .u8 (0)), (.int .u8 (0)), (.int .u8 (0)), (.int .u8 (0)), (.int .u8 (0)), (.int .u8 (0)), (.int .u8 (0)), (.int .u8 (0)), (.int .u8 (0)), (.int .u8 (0)), (.int .u8 (0)), (.int .u8 (0)), (.int .u8 (0)), (.int .u8 (0)), (.int .u8 (0)), (.int .u8 (0))]⟩,
  ⟨none, none, .no, .store 32 (.t 16) (.t 75)⟩,
  ⟨none, none, .no, .store 32 (.t 17) (.t 76)⟩,
  ⟨some 18, none, .no, .mv (.t 77)⟩]
@[go_sem] def speculumref07_says_r27 : List AIns := [
  ⟨some 78, none, .rd, .load true 32 (.t 16)⟩,
  ⟨some 79, none, .rd, .load true 32 (.t 17)⟩,
  ⟨some 80, none, .rd, .load true 32 (.t 14)⟩,
  ⟨some 81, none, .ef, .call (.v (.fn 80 [])) [(.t 79), (.t 80)]⟩,
  ⟨some 82, none, .no, .mv (.t 18)⟩,
  ⟨none, none, .no, .store 32 (.t 10) (.t 78)⟩,
  ⟨none, none, .no, .store 32 (.t 11) (.t 81)⟩,
  ⟨some 12, none, .no, .mv (.t 82)⟩]
def speculumref07_says_c28 : ACode := .seq (.reg speculumref07_says_r27) .ret
def speculumref07_says_c29 : ACode := .seq (.reg speculumref07_says_r26) speculumref07_says_c28
def speculumref07_says_c30 : ACode := .cond (.t 67) speculumref07_says_c29 .skip
def speculumref07_says_c31 : ACode := .seq (.reg speculumref07_says_r25) speculumref07_says_c30
@[go_sem] def speculumref07_says_r32 : List AIns := [
  ⟨some 84, none, .no, .mv (.t 0)⟩,
  ⟨some 85, none, .no, .mv (.t 13)⟩,
  ⟨some 86, none, .no, .bin .sub .none (.t 84) (.t 85)⟩,
  ⟨some 87, none, .no, .mv (.t 1)⟩,
  ⟨some 88, none, .no, .mv (.t 13)⟩,
  ⟨some 89, none, .no, .bin .sub .none (.t 87) (.t 88)⟩,
  ⟨some 90, none, .no, .load true 32 (.t 8)⟩,
  ⟨some 91, none, .no, .mv (.t 15)⟩,
  ⟨some 92, none, .no, .call (.v (.fn 66 [])) [(.t 86), (.t 89), (.v (.bool false)), (.t 90), (.t 91)]⟩,
  ⟨some 83, none, .no, .mv (.t 92)⟩,
  ⟨some 93, none, .no, .ext 0 (.t 83)⟩,
  ⟨some 94, none, .no, .ext 1 (.t 83)⟩,
  ⟨some 95, none, .no, .ext 2 (.t 83)⟩,
  ⟨some 19, none, .no, .alloc [(.int .u8 (0)), (.int .u8 (0)), (.int .u8 (0)), (.int .u8 (0)), (.int .u8 (0)), (.int .u8 (0)), (.int .u8 (0)), (.int .u8 (0)), (.int .u8 (0)), (.int .u8 (0)), (.int .u8 (0)), (.int .u8 (0)), (.int .u8 (0)), (.int .u8 (0)), (.int .u8 (0)), (.int .u8 (0)), (.int .u8 (0)), (.int .u8 (0)), (.int .u8 (0)), (.int .u8 (0)), (.int .u8 (0)), (.int .u8 (0)), (.int .u8 (0)), (.int .u8 (0)), (.int .u8 (0)), (.int .u8 (0)), (.int .u8 (0)), (.int .u8 (0)), (.int .u8 (0)), (.int .u8 (0)), (.int .u8 (0)), (.int .u8 (0))]⟩,
  ⟨some 20, none, .no, .alloc [(.int .u8 (0)), (.int .u8 (0)), (.int .u8 (0)), (.int .u8 (0)), (.int .u8 (0)), (.int .u8 (0)), (.int .u8 (0)), (.int .u8 (0)), (.int .u8 (0)), (.int .u8 (0)), (.int .u8 (0)), (.int .u8 (0)), (.int .u8 (0)), (.int .u8 (0)), (.int .u8 (0)), (.int .u8 (0)), (.int .u8 (0)), (.int .u8 (0)), (.int .u8 (0)), (.int .u8 (0)), (.int .u8 (0)), (.int .u8 (0)), (.int .u8 (0)), (.int .u8 (0)), (.int .u8 (0)), (.int .u8 (0)), (.int .u8 (0)), (.int .u8 (0)), (.int .u8 (0)), (.int .u8 (0)), (.int .u8 (0)), (.int .u8 (0))]⟩,
  ⟨none, none, .no, .store 32 (.t 19) (.t 93)⟩,
  ⟨none, none, .no, .store 32 (.t 20) (.t 94)⟩,
  ⟨some 21, none, .no, .mv (.t 95)⟩]
@[go_sem] def speculumref07_says_r33 : List AIns := [
  ⟨some 96, none, .rd, .load true 32 (.t 14)⟩,
  ⟨some 97, none, .rd, .load true 32 (.t 19)⟩,
  ⟨some 98, none, .ef, .call (.v (.fn 80 [])) [(.t 96), (.t 97)]⟩,
  ⟨some 99, none, .rd, .load true 32 (.t 14)⟩,
  ⟨some 100, none, .rd, .load true 32 (.t 20)⟩,
  ⟨some 101, none, .no, .call (.v (.fn 80 [])) [(.t 99), (.t 100)]⟩,
  ⟨some 102, none, .no, .mv (.t 21)⟩,
  ⟨none, none, .no, .store 32 (.t 10) (.t 98)⟩,
  ⟨none, none, .no, .store 32 (.t 11) (.t 101)⟩,
  ⟨some 12, none, .no, .mv (.t 102)⟩]
def speculumref07_says_c34 : ACode := .seq (.reg speculumref07_says_r33) .ret
def speculumref07_says_c35 : ACode := .seq (.reg speculumref07_says_r32) speculumref07_says_c34
def speculumref07_says_c36 : ACode := .seq speculumref07_says_c31 speculumref07_says_c35
def speculumref07_says_c37 : ACode := .seq (.reg speculumref07_says_r24) speculumref07_says_c36
def speculumref07_says_c38 : ACode := .seq (.reg2 speculumref07_says_r22 speculumref07_says_r23) speculumref07_says_c37
def speculumref07_says_c39 : ACode := .seq speculumref07_says_c21 speculumref07_says_c38
def speculumref07_says_c40 : ACode := .seq speculumref07_says_c16 speculumref07_says_c39
def speculumref07_says_c41 : ACode := .seq speculumref07_says_c5 speculumref07_says_c40
def speculumref07_says_c42 : ACode := .seq (.reg speculumref07_says_r0) speculumref07_says_c41
theorem speculumref07_says_ok : cFn TC 66 = some (103, [.c 10 true 32, .c 11 true 32, .t 12], speculumref07_says_c42) := by kernel_rfl
end Am
end Go.Proofs.YtfofemaglndnjaaDoor
end
section
set_option linter.unusedSimpArgs false
set_option linter.unusedVariables false
/- Proofs: contracts: Proof of the program. -/
set_option linter.unusedSimpArgs false
set_option linter.unusedVariables false
namespace Go.Proofs.YtfofemaglndnjaaDoor
namespace Am
/-- A sub-proof. -/
def subF : Nat → List (List UInt8) → Nat → Bool → List (List UInt8)
  | 0, _, _, _ => []
  | f + 1, l, m, known =>
    if m = l.length then (if known then [] else [rootS l])
    else if m ≤ splitS l.length then subF f (l.take (splitS l.length)) m known ++ [rootS (l.drop (splitS l.length))]
    else subF f (l.drop (splitS l.length)) (m - splitS l.length) false ++ [rootS (l.take (splitS l.length))]
theorem subF_eq : ∀ (f g : Nat) (l : List (List UInt8)) (m : Nat) (kn : Bool), l.length < f → l.length < g → 0 < m → m ≤ l.length → subF f l m kn = subF g l m kn
  | 0, _, _, _, _, h, _, _, _ => by omega
  | _ + 1, 0, _, _, _, _, h, _, _ => by omega
  | f + 1, g + 1, l, m, kn, h, h', h0, hm => by
    simp only [subF]
    by_cases h1 : m = l.length
    · rw [if_pos h1, if_pos h1]
    · obtain ⟨s1, s2, s3⟩ := split_spec (n := l.length) (by omega)
      rw [if_neg h1, if_neg h1]
      by_cases h2 : m ≤ splitS l.length
      · rw [if_pos h2, if_pos h2, subF_eq f g (l.take (splitS l.length)) m kn (by rw [List.length_take]; omega) (by rw [List.length_take]; omega) h0 (by rw [List.length_take]; omega)]
      · rw [if_neg h2, if_neg h2, subF_eq f g (l.drop (splitS l.length)) (m - splitS l.length) false (by rw [List.length_drop]; omega) (by rw [List.length_drop]; omega) (by omega) (by rw [List.length_drop]; omega)]
def subS (l : List (List UInt8)) (m : Nat) (known : Bool) : List (List UInt8) := subF (l.length + 1) l m known
theorem subS_all (l : List (List UInt8)) (kn : Bool) : subS l l.length kn = if kn then [] else [rootS l] := by
  unfold subS subF; rw [if_pos rfl]
theorem subS_left {l : List (List UInt8)} {m : Nat} {kn : Bool} (h0 : 0 < m) (h1 : m < l.length) (h2 : m ≤ splitS l.length) :
    subS l m kn = subS (l.take (splitS l.length)) m kn ++ [rootS (l.drop (splitS l.length))] := by
  obtain ⟨s1, s2, s3⟩ := split_spec (n := l.length) (by omega)
  unfold subS
  rw [subF, if_neg (by omega), if_pos h2]
  congr 1
  exact subF_eq _ _ _ _ _ (by rw [List.length_take]; omega) (Nat.lt_succ_self _) h0 (by rw [List.length_take]; omega)
theorem subS_right {l : List (List UInt8)} {m : Nat} {kn : Bool} (h1 : m < l.length) (h2 : ¬ m ≤ splitS l.length) :
    subS l m kn = subS (l.drop (splitS l.length)) (m - splitS l.length) false ++ [rootS (l.take (splitS l.length))] := by
  obtain ⟨s1, s2, s3⟩ := split_spec (n := l.length) (by omega)
  unfold subS
  rw [subF, if_neg (by omega), if_neg h2]
  congr 1
  exact subF_eq _ _ _ _ _ (by rw [List.length_drop]; omega) (Nat.lt_succ_self _) (by omega) (by rw [List.length_drop]; omega)
theorem subF_H : ∀ (f : Nat) (l : List (List UInt8)) (m : Nat) (kn : Bool), H32 l → H32 (subF f l m kn) ∧ (subF f l m kn).length ≤ f
  | 0, _, _, _, _ => ⟨by intro h hh; simp [subF] at hh, by simp [subF]⟩
  | f + 1, l, m, kn, hH => by
    simp only [subF]
    have one : ∀ {x : List UInt8}, x.length = 32 → H32 [x] := fun hx h hh => by simp at hh; subst hh; exact hx
    have app : ∀ {a b : List (List UInt8)}, H32 a → H32 b → H32 (a ++ b) := fun h1 h2 h hh => (List.mem_append.1 hh).elim (h1 h) (h2 h)
    split
    · split
      · exact ⟨fun h hh => by simp at hh, by simp⟩
      · exact ⟨one (rootS_len hH), by simp⟩
    · split
      · obtain ⟨i1, i2⟩ := subF_H f (l.take (splitS l.length)) m kn (hH.take _)
        exact ⟨app i1 (one (rootS_len (hH.drop _))), by simp; omega⟩
      · obtain ⟨i1, i2⟩ := subF_H f (l.drop (splitS l.length)) (m - splitS l.length) false (hH.drop _)
        exact ⟨app i1 (one (rootS_len (hH.take _))), by simp; omega⟩
theorem subS_H {l : List (List UInt8)} {m : Nat} {kn : Bool} (hH : H32 l) : H32 (subS l m kn) := (subF_H _ l m kn hH).1
theorem subS_le {l : List (List UInt8)} {m : Nat} {kn : Bool} (hH : H32 l) : (subS l m kn).length ≤ l.length + 1 := (subF_H _ l m kn hH).2
/-- What Proof has in memory: its own proof, itself, and rows of its own. -/
structure PrS (σ0 σ' : Store) (v : AV) (es : List (List AV)) : Prop where
  out : σ'[σ0.length]? = some (some [[v]])
  fn : σ'[σ0.length + 1]? = some (some [[.fn 60 [.ptr σ0.length 0 0, .ptr (σ0.length + 1) 0 0]]])
  keep : ∀ q, q < σ0.length → σ'[q]? = σ0[q]?
  sl : (es = [] ∧ v = .nilsl) ∨ ∃ r, σ0.length + 2 ≤ r ∧ es ≠ [] ∧ v = .sl r 0 es.length none 32 ∧ σ'[r]? = some (some es)
theorem PrS.lt {σ0 σ' : Store} {v : AV} {es : List (List AV)} (h : PrS σ0 σ' v es) : σ0.length + 2 ≤ σ'.length := by
  have := (List.getElem?_eq_some_iff.1 h.fn).1; omega
/-- One more. -/
theorem PrS.add {σ0 σ' : Store} {v : AV} {es : List (List AV)} (h : PrS σ0 σ' v es) (row : List AV) (hl : es.length + 1 ≤ 1073741824) :
    ∃ r σ2, aApp σ' 32 v [row] = some (.sl r 0 (es.length + 1) none 32, σ2) ∧ σ2[σ0.length]? = some (some [[v]]) ∧ PrS σ0 (σ2.set σ0.length (some [[.sl r 0 (es.length + 1) none 32]])) (.sl r 0 (es.length + 1) none 32) (es ++ [row]) := by
  have hlt := h.lt
  obtain ⟨h1, h2, h3, ⟨rfl, rfl⟩ | ⟨r, hr, h0, rfl, hg⟩⟩ := h
  · refine ⟨σ'.length, σ' ++ [some [row]], rfl, by rw [gapp (by omega)]; exact h1, ⟨?_, ?_, ?_, .inr ⟨σ'.length, by omega, by simp, by simp, ?_⟩⟩⟩
    · rw [gset_eq (by simp; omega)]
    · rw [gset_ne (by omega), gapp (by omega)]; exact h2
    · intro q hq; rw [gset_ne (by omega), gapp (by omega)]; exact h3 q hq
    · rw [gset_ne (by omega), gappr (Nat.le_refl _), Nat.sub_self]; rfl
  · have hrl := (List.getElem?_eq_some_iff.1 hg).1
    refine ⟨σ'.length, σ'.set r none ++ [some (es ++ [row])], ?_, ?_, ⟨?_, ?_, ?_, .inr ⟨σ'.length, by omega, by simp, by simp, ?_⟩⟩⟩
    · rw [app_s, if_neg (by simp), hg]
      simp only [List.length_cons, List.length_nil]
      rw [if_pos ⟨trivial, by omega, by omega⟩, if_neg (by omega), List.drop_zero, List.take_of_length_le (Nat.le_refl _)]
    · rw [gapp (by simp; omega), gset_ne (by omega)]; exact h1
    · rw [gset_eq (by simp; omega)]
    · rw [gset_ne (by omega), gapp (by simp; omega), gset_ne (by omega)]; exact h2
    · intro q hq; rw [gset_ne (by omega), gapp (by simp; omega), gset_ne (by omega)]; exact h3 q hq
    · rw [gset_ne (by omega), gappr (by simp), List.length_set, Nat.sub_self]; rfl
theorem PrS.ex (σ0 : Store) (es : List (List AV)) : ∃ v σ', PrS σ0 σ' v es := by
  by_cases h : es = []
  · exact ⟨.nilsl, σ0 ++ [some [[.nilsl]], some [[.fn 60 [.ptr σ0.length 0 0, .ptr (σ0.length + 1) 0 0]]]], by simp, by simp, fun q hq => gapp hq, .inl ⟨h, rfl⟩⟩
  · exact ⟨.sl (σ0.length + 2) 0 es.length none 32, σ0 ++ [some [[.sl (σ0.length + 2) 0 es.length none 32]], some [[.fn 60 [.ptr σ0.length 0 0, .ptr (σ0.length + 1) 0 0]]], some es], by simp, by simp, fun q hq => gapp hq, .inr ⟨_, Nat.le_refl _, h, rfl, by simp⟩⟩
set_option maxHeartbeats 8000000 in
theorem Proof_1_to (σ0 : Store) : ∀ (f : Nat) (hs : List (List UInt8)) (ex : Bool) (m : Nat) (kn : Bool) (σ : Store) (v : AV) (es : List (List AV)), hs.length < f → H32 hs → hs.length < 1000000 → 0 < m → m ≤ hs.length → es.length + hs.length < 10000000 → PrS σ0 σ v es →
    ACallsP TC 60 [.vsl 32 (hrows hs) ex, .int .i64 m, .bool kn, .ptr σ0.length 0 0, .ptr (σ0.length + 1) 0 0] σ (fun r σ' => r = .tup [] ∧ ∃ v', PrS σ0 σ' v' (es ++ hrows (subS hs m kn))) := by
  intro f
  induction f with
  | zero => intro hs ex m kn σ v es h; omega
  | succ f ih =>
    intro hs ex m kn σ v es hf hH hl h0 hm hel hP
    have hrl := hrows_len hs
    have ho := hP.out
    have hfn := hP.fn
    have hlt := hP.lt
    by_cases h1 : m = hs.length
    · subst h1
      rw [subS_all]
      cases kn with
      | true =>
        refine ACallsP.of_keep proofs_Proof_1_ok (by simp) ?_
        repeat' (first | refine SWp.seq ?_ | refine SWp.block ?_ | refine SWp.scope ?_ | (refine SWp.reg ?_; (simp (disch := first | omega | (simp only [List.length_set, List.length_append, List.length_cons, List.length_nil, List.length_map]; omega)) only [go_sem, Nat.reduceEqDiff, Nat.reduceBEq, Nat.reduceAdd, Nat.reduceMul, Nat.reduceSub, Nat.reduceLeDiff, Int.reduceToNat, Int.reducePow, hrl])) | refine SWp.condT rfl ?_ | refine SWp.condF rfl ?_ | (refine SWp.condD rfl (fun ht => ?_) (fun ht => ?_) <;> try (exfalso; omega)) | ((first | refine SWp.skip ?_ | refine SWp.exit ?_ | refine SWp.ret ?_); try (simp (disch := first | omega | (simp only [List.length_set, List.length_append, List.length_cons, List.length_nil, List.length_map]; omega)) only [go_sem, Nat.reduceEqDiff, Nat.reduceBEq, Nat.reduceAdd, Nat.reduceMul, Nat.reduceSub, Nat.reduceLeDiff, Int.reduceToNat, Int.reducePow, hrl])) | ((first | refine splitG (fun ht => ?_) (fun ht => ?_) | refine splitGB (fun ht => ?_) (fun ht => ?_) | refine splitR (fun ht => ?_) (fun ht => ?_) | refine splitRB (fun ht => ?_) (fun ht => ?_) | refine splitE (fun ht => ?_) (fun ht => ?_) | refine splitEB (fun ht => ?_) (fun ht => ?_) | refine splitC (fun ht => ?_) (fun ht => ?_) | refine splitCB (fun ht => ?_) (fun ht => ?_)) <;> (simp (disch := first | omega | (simp only [List.length_set, List.length_append, List.length_cons, List.length_nil, List.length_map]; omega)) only [go_sem, Nat.reduceEqDiff, Nat.reduceBEq, Nat.reduceAdd, Nat.reduceMul, Nat.reduceSub, Nat.reduceLeDiff, Int.reduceToNat, Int.reducePow, hrl])))
        exact ⟨v, by simpa [hrows] using hP⟩
      | false =>
        obtain ⟨r, σ2, he, hg, hP2⟩ := hP.add (byteEsC (rootS hs)) (by omega)
        have hR := trees_Root_to σ hs (.vsl 32 (hrows hs) ex) (.inr ⟨ex, rfl⟩) hH (by omega)
        have hc := byteEsC_len (rootS hs)
        rw [rootS_len hH] at hc
        have hgo : hrows (if false = true then [] else [rootS hs]) = [byteEsC (rootS hs)] := rfl
        rw [hgo]
        generalize byteEsC (rootS hs) = row at *
        generalize hrows hs = rows at *
        refine ACallsP.of_keep proofs_Proof_1_ok (by simp) ?_
        repeat' (first | (apply callW.any; (first | exact (hR)); all_goals try (simp (disch := first | omega | (simp only [List.length_set, List.length_append, List.length_cons, List.length_nil, List.length_map]; omega)) only [go_sem, Nat.reduceEqDiff, Nat.reduceBEq, Nat.reduceAdd, Nat.reduceMul, Nat.reduceSub, Nat.reduceLeDiff, Int.reduceToNat, Int.reducePow, hrl, ho, he, hg, hc])) | refine SWp.seq ?_ | refine SWp.block ?_ | refine SWp.scope ?_ | (refine SWp.regS ?_; (simp (disch := first | omega | (simp only [List.length_set, List.length_append, List.length_cons, List.length_nil, List.length_map]; omega)) only [go_sem, Nat.reduceEqDiff, Nat.reduceBEq, Nat.reduceAdd, Nat.reduceMul, Nat.reduceSub, Nat.reduceLeDiff, Int.reduceToNat, Int.reducePow, hrl, ho, he, hg, hc])) | refine SWp.condT rfl ?_ | refine SWp.condF rfl ?_ | (refine SWp.condD rfl (fun ht => ?_) (fun ht => ?_) <;> try (exfalso; omega)) | ((first | refine SWp.skip ?_ | refine SWp.exit ?_ | refine SWp.ret ?_); try (simp (disch := first | omega | (simp only [List.length_set, List.length_append, List.length_cons, List.length_nil, List.length_map]; omega)) only [go_sem, Nat.reduceEqDiff, Nat.reduceBEq, Nat.reduceAdd, Nat.reduceMul, Nat.reduceSub, Nat.reduceLeDiff, Int.reduceToNat, Int.reducePow, hrl, ho, he, hg, hc])) | ((first | refine splitG (fun ht => ?_) (fun ht => ?_) | refine splitGB (fun ht => ?_) (fun ht => ?_) | refine splitR (fun ht => ?_) (fun ht => ?_) | refine splitRB (fun ht => ?_) (fun ht => ?_) | refine splitE (fun ht => ?_) (fun ht => ?_) | refine splitEB (fun ht => ?_) (fun ht => ?_) | refine splitC (fun ht => ?_) (fun ht => ?_) | refine splitCB (fun ht => ?_) (fun ht => ?_)) <;> (simp (disch := first | omega | (simp only [List.length_set, List.length_append, List.length_cons, List.length_nil, List.length_map]; omega)) only [go_sem, Nat.reduceEqDiff, Nat.reduceBEq, Nat.reduceAdd, Nat.reduceMul, Nat.reduceSub, Nat.reduceLeDiff, Int.reduceToNat, Int.reducePow, hrl, ho, he, hg, hc])))
        exact ⟨_, hP2⟩
    · obtain ⟨s1, s2, s3⟩ := split_spec (n := hs.length) (by omega)
      have hsp := fun σ => trees_Split_to σ hs.length (by omega)
      obtain ⟨k, hkd⟩ : ∃ k, splitS hs.length = k := ⟨_, rfl⟩
      have tk := hrows_take hs k
      have dk := hrows_drop hs k
      rw [hkd] at s1 s2 s3 hsp
      have hm1 : ¬ (m : Int) = hs.length := by omega
      by_cases h2 : m ≤ k
      · have e := subS_left (l := hs) (m := m) (kn := kn) h0 (by omega) (by rw [hkd]; exact h2)
        rw [hkd] at e
        have i1 := fun b => ih (hs.take k) b m kn σ v es (by rw [List.length_take]; omega) (hH.take _) (by rw [List.length_take]; omega) (by omega) (by rw [List.length_take]; omega) (by rw [List.length_take]; omega) hP
        have hR := fun σ b => trees_Root_to σ (hs.drop k) (.vsl 32 (hrows (hs.drop k)) b) (.inr ⟨b, rfl⟩) (hH.drop _) (by rw [List.length_drop]; omega)
        have hc := byteEsC_len (rootS (hs.drop k))
        rw [rootS_len (hH.drop _)] at hc
        have hcat : hrows (subS hs m kn) = hrows (subS (hs.take k) m kn) ++ [byteEsC (rootS (hs.drop k))] := by rw [e]; simp [hrows]
        have hsl := subS_le (m := m) (kn := kn) (hH.take k)
        have hsr := hrows_len (subS (hs.take k) m kn)
        rw [hcat, ← List.append_assoc]
        rw [List.length_take] at hsl
        generalize byteEsC (rootS (hs.drop k)) = row at *
        generalize hrows (subS (hs.take k) m kn) = es1 at *
        generalize hrows (hs.take k) = ra at *
        generalize hrows (hs.drop k) = rb at *
        generalize hrows hs = rows at *
        refine ACallsP.of_keep proofs_Proof_1_ok (by simp) ?_
        repeat' (first | (apply callW.any; (first | exact (hsp _)); all_goals try (simp (disch := first | omega | (simp only [List.length_set, List.length_append, List.length_cons, List.length_nil, List.length_map]; omega)) only [go_sem, Nat.reduceEqDiff, Nat.reduceBEq, Nat.reduceAdd, Nat.reduceMul, Nat.reduceSub, Nat.reduceLeDiff, Int.reduceToNat, Int.reducePow, hrl, ho, hfn, hm1, tk, dk])) | refine SWp.seq ?_ | refine SWp.block ?_ | refine SWp.scope ?_ | (refine SWp.regS ?_; (simp (disch := first | omega | (simp only [List.length_set, List.length_append, List.length_cons, List.length_nil, List.length_map]; omega)) only [go_sem, Nat.reduceEqDiff, Nat.reduceBEq, Nat.reduceAdd, Nat.reduceMul, Nat.reduceSub, Nat.reduceLeDiff, Int.reduceToNat, Int.reducePow, hrl, ho, hfn, hm1, tk, dk])) | refine SWp.condT rfl ?_ | refine SWp.condF rfl ?_ | (refine SWp.condD rfl (fun ht => ?_) (fun ht => ?_) <;> try (exfalso; omega)) | ((first | refine SWp.skip ?_ | refine SWp.exit ?_ | refine SWp.ret ?_); try (simp (disch := first | omega | (simp only [List.length_set, List.length_append, List.length_cons, List.length_nil, List.length_map]; omega)) only [go_sem, Nat.reduceEqDiff, Nat.reduceBEq, Nat.reduceAdd, Nat.reduceMul, Nat.reduceSub, Nat.reduceLeDiff, Int.reduceToNat, Int.reducePow, hrl, ho, hfn, hm1, tk, dk])) | ((first | refine splitG (fun ht => ?_) (fun ht => ?_) | refine splitGB (fun ht => ?_) (fun ht => ?_) | refine splitR (fun ht => ?_) (fun ht => ?_) | refine splitRB (fun ht => ?_) (fun ht => ?_) | refine splitE (fun ht => ?_) (fun ht => ?_) | refine splitEB (fun ht => ?_) (fun ht => ?_) | refine splitC (fun ht => ?_) (fun ht => ?_) | refine splitCB (fun ht => ?_) (fun ht => ?_)) <;> (simp (disch := first | omega | (simp only [List.length_set, List.length_append, List.length_cons, List.length_nil, List.length_map]; omega)) only [go_sem, Nat.reduceEqDiff, Nat.reduceBEq, Nat.reduceAdd, Nat.reduceMul, Nat.reduceSub, Nat.reduceLeDiff, Int.reduceToNat, Int.reducePow, hrl, ho, hfn, hm1, tk, dk])))
        refine callW.mkP (i1 _) (by obtain ⟨v', σ', h⟩ := PrS.ex σ0 (es ++ es1); exact ⟨_, σ', rfl, v', h⟩) ?_
        rintro r1 σ1 ⟨rfl, v1, hP1⟩
        have ho1 := hP1.out
        obtain ⟨r, σ2, he, hg, hP2⟩ := hP1.add row (by rw [List.length_append]; omega)
        repeat' (first | (apply callW.any; (first | exact (hR _ _)); all_goals try (simp (disch := first | omega | (simp only [List.length_set, List.length_append, List.length_cons, List.length_nil, List.length_map]; omega)) only [go_sem, Nat.reduceEqDiff, Nat.reduceBEq, Nat.reduceAdd, Nat.reduceMul, Nat.reduceSub, Nat.reduceLeDiff, Int.reduceToNat, Int.reducePow, hrl, ho1, he, hg, hc, tk, dk])) | refine SWp.seq ?_ | refine SWp.block ?_ | refine SWp.scope ?_ | (refine SWp.regS ?_; (simp (disch := first | omega | (simp only [List.length_set, List.length_append, List.length_cons, List.length_nil, List.length_map]; omega)) only [go_sem, Nat.reduceEqDiff, Nat.reduceBEq, Nat.reduceAdd, Nat.reduceMul, Nat.reduceSub, Nat.reduceLeDiff, Int.reduceToNat, Int.reducePow, hrl, ho1, he, hg, hc, tk, dk])) | refine SWp.condT rfl ?_ | refine SWp.condF rfl ?_ | (refine SWp.condD rfl (fun ht => ?_) (fun ht => ?_) <;> try (exfalso; omega)) | ((first | refine SWp.skip ?_ | refine SWp.exit ?_ | refine SWp.ret ?_); try (simp (disch := first | omega | (simp only [List.length_set, List.length_append, List.length_cons, List.length_nil, List.length_map]; omega)) only [go_sem, Nat.reduceEqDiff, Nat.reduceBEq, Nat.reduceAdd, Nat.reduceMul, Nat.reduceSub, Nat.reduceLeDiff, Int.reduceToNat, Int.reducePow, hrl, ho1, he, hg, hc, tk, dk])) | ((first | refine splitG (fun ht => ?_) (fun ht => ?_) | refine splitGB (fun ht => ?_) (fun ht => ?_) | refine splitR (fun ht => ?_) (fun ht => ?_) | refine splitRB (fun ht => ?_) (fun ht => ?_) | refine splitE (fun ht => ?_) (fun ht => ?_) | refine splitEB (fun ht => ?_) (fun ht => ?_) | refine splitC (fun ht => ?_) (fun ht => ?_) | refine splitCB (fun ht => ?_) (fun ht => ?_)) <;> (simp (disch := first | omega | (simp only [List.length_set, List.length_append, List.length_cons, List.length_nil, List.length_map]; omega)) only [go_sem, Nat.reduceEqDiff, Nat.reduceBEq, Nat.reduceAdd, Nat.reduceMul, Nat.reduceSub, Nat.reduceLeDiff, Int.reduceToNat, Int.reducePow, hrl, ho1, he, hg, hc, tk, dk])))
        rw [List.length_append, List.append_assoc] at hP2
        exact ⟨_, hP2⟩
      · have e := subS_right (l := hs) (m := m) (kn := kn) (by omega) (by rw [hkd]; exact h2)
        rw [hkd] at e
        have hms : (m : Int) - k = ((m - k : Nat) : Int) := by omega
        have i1 := fun b => ih (hs.drop k) b (m - k) false σ v es (by rw [List.length_drop]; omega) (hH.drop _) (by rw [List.length_drop]; omega) (by omega) (by rw [List.length_drop]; omega) (by rw [List.length_drop]; omega) hP
        have hR := fun σ b => trees_Root_to σ (hs.take k) (.vsl 32 (hrows (hs.take k)) b) (.inr ⟨b, rfl⟩) (hH.take _) (by rw [List.length_take]; omega)
        have hc := byteEsC_len (rootS (hs.take k))
        rw [rootS_len (hH.take _)] at hc
        have hcat : hrows (subS hs m kn) = hrows (subS (hs.drop k) (m - k) false) ++ [byteEsC (rootS (hs.take k))] := by rw [e]; simp [hrows]
        have hsl := subS_le (m := (m - k)) (kn := false) (hH.drop k)
        have hsr := hrows_len (subS (hs.drop k) (m - k) false)
        rw [hcat, ← List.append_assoc]
        rw [List.length_drop] at hsl
        generalize byteEsC (rootS (hs.take k)) = row at *
        generalize hrows (subS (hs.drop k) (m - k) false) = es1 at *
        generalize hrows (hs.take k) = ra at *
        generalize hrows (hs.drop k) = rb at *
        generalize hrows hs = rows at *
        refine ACallsP.of_keep proofs_Proof_1_ok (by simp) ?_
        repeat' (first | (apply callW.any; (first | exact (hsp _)); all_goals try (simp (disch := first | omega | (simp only [List.length_set, List.length_append, List.length_cons, List.length_nil, List.length_map]; omega)) only [go_sem, Nat.reduceEqDiff, Nat.reduceBEq, Nat.reduceAdd, Nat.reduceMul, Nat.reduceSub, Nat.reduceLeDiff, Int.reduceToNat, Int.reducePow, hrl, ho, hfn, hm1, tk, dk, hms])) | refine SWp.seq ?_ | refine SWp.block ?_ | refine SWp.scope ?_ | (refine SWp.regS ?_; (simp (disch := first | omega | (simp only [List.length_set, List.length_append, List.length_cons, List.length_nil, List.length_map]; omega)) only [go_sem, Nat.reduceEqDiff, Nat.reduceBEq, Nat.reduceAdd, Nat.reduceMul, Nat.reduceSub, Nat.reduceLeDiff, Int.reduceToNat, Int.reducePow, hrl, ho, hfn, hm1, tk, dk, hms])) | refine SWp.condT rfl ?_ | refine SWp.condF rfl ?_ | (refine SWp.condD rfl (fun ht => ?_) (fun ht => ?_) <;> try (exfalso; omega)) | ((first | refine SWp.skip ?_ | refine SWp.exit ?_ | refine SWp.ret ?_); try (simp (disch := first | omega | (simp only [List.length_set, List.length_append, List.length_cons, List.length_nil, List.length_map]; omega)) only [go_sem, Nat.reduceEqDiff, Nat.reduceBEq, Nat.reduceAdd, Nat.reduceMul, Nat.reduceSub, Nat.reduceLeDiff, Int.reduceToNat, Int.reducePow, hrl, ho, hfn, hm1, tk, dk, hms])) | ((first | refine splitG (fun ht => ?_) (fun ht => ?_) | refine splitGB (fun ht => ?_) (fun ht => ?_) | refine splitR (fun ht => ?_) (fun ht => ?_) | refine splitRB (fun ht => ?_) (fun ht => ?_) | refine splitE (fun ht => ?_) (fun ht => ?_) | refine splitEB (fun ht => ?_) (fun ht => ?_) | refine splitC (fun ht => ?_) (fun ht => ?_) | refine splitCB (fun ht => ?_) (fun ht => ?_)) <;> (simp (disch := first | omega | (simp only [List.length_set, List.length_append, List.length_cons, List.length_nil, List.length_map]; omega)) only [go_sem, Nat.reduceEqDiff, Nat.reduceBEq, Nat.reduceAdd, Nat.reduceMul, Nat.reduceSub, Nat.reduceLeDiff, Int.reduceToNat, Int.reducePow, hrl, ho, hfn, hm1, tk, dk, hms])))
        refine callW.mkP (i1 _) (by obtain ⟨v', σ', h⟩ := PrS.ex σ0 (es ++ es1); exact ⟨_, σ', rfl, v', h⟩) ?_
        rintro r1 σ1 ⟨rfl, v1, hP1⟩
        have ho1 := hP1.out
        obtain ⟨r, σ2, he, hg, hP2⟩ := hP1.add row (by rw [List.length_append]; omega)
        repeat' (first | (apply callW.any; (first | exact (hR _ _)); all_goals try (simp (disch := first | omega | (simp only [List.length_set, List.length_append, List.length_cons, List.length_nil, List.length_map]; omega)) only [go_sem, Nat.reduceEqDiff, Nat.reduceBEq, Nat.reduceAdd, Nat.reduceMul, Nat.reduceSub, Nat.reduceLeDiff, Int.reduceToNat, Int.reducePow, hrl, ho1, he, hg, hc, tk, dk])) | refine SWp.seq ?_ | refine SWp.block ?_ | refine SWp.scope ?_ | (refine SWp.regS ?_; (simp (disch := first | omega | (simp only [List.length_set, List.length_append, List.length_cons, List.length_nil, List.length_map]; omega)) only [go_sem, Nat.reduceEqDiff, Nat.reduceBEq, Nat.reduceAdd, Nat.reduceMul, Nat.reduceSub, Nat.reduceLeDiff, Int.reduceToNat, Int.reducePow, hrl, ho1, he, hg, hc, tk, dk])) | refine SWp.condT rfl ?_ | refine SWp.condF rfl ?_ | (refine SWp.condD rfl (fun ht => ?_) (fun ht => ?_) <;> try (exfalso; omega)) | ((first | refine SWp.skip ?_ | refine SWp.exit ?_ | refine SWp.ret ?_); try (simp (disch := first | omega | (simp only [List.length_set, List.length_append, List.length_cons, List.length_nil, List.length_map]; omega)) only [go_sem, Nat.reduceEqDiff, Nat.reduceBEq, Nat.reduceAdd, Nat.reduceMul, Nat.reduceSub, Nat.reduceLeDiff, Int.reduceToNat, Int.reducePow, hrl, ho1, he, hg, hc, tk, dk])) | ((first | refine splitG (fun ht => ?_) (fun ht => ?_) | refine splitGB (fun ht => ?_) (fun ht => ?_) | refine splitR (fun ht => ?_) (fun ht => ?_) | refine splitRB (fun ht => ?_) (fun ht => ?_) | refine splitE (fun ht => ?_) (fun ht => ?_) | refine splitEB (fun ht => ?_) (fun ht => ?_) | refine splitC (fun ht => ?_) (fun ht => ?_) | refine splitCB (fun ht => ?_) (fun ht => ?_)) <;> (simp (disch := first | omega | (simp only [List.length_set, List.length_append, List.length_cons, List.length_nil, List.length_map]; omega)) only [go_sem, Nat.reduceEqDiff, Nat.reduceBEq, Nat.reduceAdd, Nat.reduceMul, Nat.reduceSub, Nat.reduceLeDiff, Int.reduceToNat, Int.reducePow, hrl, ho1, he, hg, hc, tk, dk])))
        rw [List.length_append, List.append_assoc] at hP2
        exact ⟨_, hP2⟩
theorem DownV.tup2 {k : Nat} {v v2 : AV} {σ σ2 : Store} {i : IntKind} {e : Int} (h : DownV k v σ v2 σ2) : DownV k (.tup [v, .int i e]) σ (.tup [v2, .int i e]) σ2 := by
  obtain ⟨D, a, b, c⟩ := h
  exact ⟨D, a, b, by simp only [DR, DRs]; exact ⟨_, rfl, _, _, rfl, c, _, _, rfl, rfl, rfl⟩⟩
theorem ext_of {σ σ' : Store} (h : σ.length ≤ σ'.length) (h2 : ∀ q, q < σ.length → σ'[q]? = σ[q]?) : ∃ y, σ' = σ ++ y := by
  refine ⟨σ'.drop σ.length, ?_⟩
  have e : σ'.take σ.length = σ := by
    refine List.ext_getElem? fun i => ?_
    by_cases hi : i < σ.length
    · rw [List.getElem?_take_of_lt hi]; exact h2 i hi
    · rw [List.getElem?_eq_none (by simp; omega), List.getElem?_eq_none (by omega)]
  calc σ' = σ'.take σ.length ++ σ'.drop σ.length := (List.take_append_drop _ _).symm
    _ = σ ++ σ'.drop σ.length := by rw [e]
theorem PrS.own {σ0 σ' : Store} {v : AV} {es : List (List AV)} (h : PrS σ0 σ' v es) : OwnN 32 σ0 σ' v es := by
  have hlt := h.lt
  obtain ⟨y, rfl⟩ := ext_of (by omega) h.keep
  obtain ⟨h1, h2, h3, h4 | ⟨r, hr, h0, rfl, hg⟩⟩ := h
  · exact ⟨y, rfl, .inl h4⟩
  · refine ⟨y, rfl, .inr ⟨r - σ0.length, h0, by rw [show σ0.length + (r - σ0.length) = r by omega], ?_⟩⟩
    rw [List.getElem?_append_right (by omega)] at hg; exact hg
/-- What Proof answers. -/
def proofL (hs : List (List UInt8)) (m : Int) : List (List UInt8) := if 0 < m ∧ m < hs.length then subS hs m.toNat true else []
def proofE (hs : List (List UInt8)) (m : Int) : Int := if m < 0 ∨ (hs.length : Int) < m then 2 else 0
theorem proofL_H {hs : List (List UInt8)} {m : Int} (h : H32 hs) : H32 (proofL hs m) := by
  unfold proofL
  split
  · exact subS_H h
  · intro x hx; simp at hx
theorem proofL_le {hs : List (List UInt8)} {m : Int} (h : H32 hs) : (proofL hs m).length ≤ hs.length + 1 := by
  unfold proofL
  split
  · exact subS_le h
  · simp
def ProofP (σ : Store) (hs : List (List UInt8)) (m : Int) (v : AV) (σ' : Store) : Prop := ∃ v2, v = .tup [v2, .int .i64 (proofE hs m)] ∧ OwnN 32 σ σ' v2 (hrows (proofL hs m))
theorem ProofP.ex (σ : Store) (hs : List (List UInt8)) (m : Int) : ∃ v σ', ProofP σ hs m v σ' := ⟨_, _, _, rfl, own_is σ 32 _⟩
theorem ProofP.none {σ : Store} {hs : List (List UInt8)} {m : Int} (h : proofL hs m = []) : ProofP σ hs m (.tup [.nilsl, .int .i64 (proofE hs m)]) σ := ⟨.nilsl, rfl, by rw [h]; exact ⟨[], by simp, .inl ⟨rfl, rfl⟩⟩⟩
set_option maxHeartbeats 8000000 in
theorem Proof_to (σ : Store) (hs : List (List UInt8)) (x : AV) (m : Int) (hx : SlV 32 (hrows hs) x) (hH : H32 hs) (hl : hs.length < 1000000) :
    ACallsP TC 16 [x, .int .i64 m] σ (ProofP σ hs m) := by
  have r1 := hx.len
  rw [hrows_len] at r1
  unfold rLenSl at r1
  by_cases h1 : m < 0 ∨ (hs.length : Int) < m
  · have e1 : proofE hs m = 2 := by unfold proofE; rw [if_pos h1]
    have e2 : proofL hs m = [] := by unfold proofL; rw [if_neg (by omega)]
    refine ACallsTo.toP (v := .tup [.nilsl, .int .i64 2]) (σ' := σ) ?_ (by have := ProofP.none (σ := σ) e2; rwa [e1] at this)
    refine ACallsTo.of_body proofs_Proof_ok (by simp) fun hw _ => ?_
    repeat' (first | refine SWp.seq ?_ | refine SWp.block ?_ | refine SWp.scope ?_ | (refine SWp.reg ?_; (simp (disch := first | omega | (simp only [List.length_set, List.length_append, List.length_cons, List.length_nil, List.length_map]; omega)) only [go_sem, Nat.reduceEqDiff, Nat.reduceBEq, Nat.reduceAdd, Nat.reduceMul, Nat.reduceSub, Nat.reduceLeDiff, Int.reduceToNat, Int.reducePow, r1])) | refine SWp.condT rfl ?_ | refine SWp.condF rfl ?_ | (refine SWp.condD rfl (fun ht => ?_) (fun ht => ?_) <;> try (exfalso; omega)) | ((first | refine SWp.skip ?_ | refine SWp.exit ?_ | refine SWp.ret ?_); try (simp (disch := first | omega | (simp only [List.length_set, List.length_append, List.length_cons, List.length_nil, List.length_map]; omega)) only [go_sem, Nat.reduceEqDiff, Nat.reduceBEq, Nat.reduceAdd, Nat.reduceMul, Nat.reduceSub, Nat.reduceLeDiff, Int.reduceToNat, Int.reducePow, r1])) | ((first | refine splitG (fun ht => ?_) (fun ht => ?_) | refine splitGB (fun ht => ?_) (fun ht => ?_) | refine splitR (fun ht => ?_) (fun ht => ?_) | refine splitRB (fun ht => ?_) (fun ht => ?_) | refine splitE (fun ht => ?_) (fun ht => ?_) | refine splitEB (fun ht => ?_) (fun ht => ?_) | refine splitC (fun ht => ?_) (fun ht => ?_) | refine splitCB (fun ht => ?_) (fun ht => ?_)) <;> (simp (disch := first | omega | (simp only [List.length_set, List.length_append, List.length_cons, List.length_nil, List.length_map]; omega)) only [go_sem, Nat.reduceEqDiff, Nat.reduceBEq, Nat.reduceAdd, Nat.reduceMul, Nat.reduceSub, Nat.reduceLeDiff, Int.reduceToNat, Int.reducePow, r1])))
    all_goals exact DownV.same hw (rlB_ok _ rfl)
  · have e1 : proofE hs m = 0 := by unfold proofE; rw [if_neg h1]
    by_cases h2 : m = 0 ∨ m = hs.length
    · have e2 : proofL hs m = [] := by unfold proofL; rw [if_neg (by omega)]
      refine ACallsTo.toP (v := .tup [.nilsl, .int .i64 0]) (σ' := σ) ?_ (by have := ProofP.none (σ := σ) e2; rwa [e1] at this)
      refine ACallsTo.of_body proofs_Proof_ok (by simp) fun hw _ => ?_
      repeat' (first | refine SWp.seq ?_ | refine SWp.block ?_ | refine SWp.scope ?_ | (refine SWp.reg ?_; (simp (disch := first | omega | (simp only [List.length_set, List.length_append, List.length_cons, List.length_nil, List.length_map]; omega)) only [go_sem, Nat.reduceEqDiff, Nat.reduceBEq, Nat.reduceAdd, Nat.reduceMul, Nat.reduceSub, Nat.reduceLeDiff, Int.reduceToNat, Int.reducePow, r1])) | refine SWp.condT rfl ?_ | refine SWp.condF rfl ?_ | (refine SWp.condD rfl (fun ht => ?_) (fun ht => ?_) <;> try (exfalso; omega)) | ((first | refine SWp.skip ?_ | refine SWp.exit ?_ | refine SWp.ret ?_); try (simp (disch := first | omega | (simp only [List.length_set, List.length_append, List.length_cons, List.length_nil, List.length_map]; omega)) only [go_sem, Nat.reduceEqDiff, Nat.reduceBEq, Nat.reduceAdd, Nat.reduceMul, Nat.reduceSub, Nat.reduceLeDiff, Int.reduceToNat, Int.reducePow, r1])) | ((first | refine splitG (fun ht => ?_) (fun ht => ?_) | refine splitGB (fun ht => ?_) (fun ht => ?_) | refine splitR (fun ht => ?_) (fun ht => ?_) | refine splitRB (fun ht => ?_) (fun ht => ?_) | refine splitE (fun ht => ?_) (fun ht => ?_) | refine splitEB (fun ht => ?_) (fun ht => ?_) | refine splitC (fun ht => ?_) (fun ht => ?_) | refine splitCB (fun ht => ?_) (fun ht => ?_)) <;> (simp (disch := first | omega | (simp only [List.length_set, List.length_append, List.length_cons, List.length_nil, List.length_map]; omega)) only [go_sem, Nat.reduceEqDiff, Nat.reduceBEq, Nat.reduceAdd, Nat.reduceMul, Nat.reduceSub, Nat.reduceLeDiff, Int.reduceToNat, Int.reducePow, r1])))
      all_goals exact DownV.same hw (rlB_ok _ rfl)
    · obtain ⟨n, rfl⟩ : ∃ n : Nat, m = n := ⟨m.toNat, by omega⟩
      have e2 : proofL hs n = subS hs n true := by unfold proofL; rw [if_pos (by omega)]; rfl
      obtain ⟨ex, rfl⟩ := hx.vsl (by rw [hrows_len]; omega)
      have i1 := fun σ' v => Proof_1_to σ (hs.length + 1) hs ex n true σ' v [] (by omega) hH hl (by omega) (by omega) (by simp; omega)
      simp only [List.nil_append] at i1
      rw [← e2] at i1
      have hP0 : PrS σ (σ ++ [some [[.nilsl]], some [[.fn 60 [.ptr σ.length 0 0, .ptr (σ.length + 1) 0 0]]]]) .nilsl [] := ⟨by simp, by simp, fun q hq => gapp hq, .inl ⟨rfl, rfl⟩⟩
      refine ACallsP.of_body proofs_Proof_ok (by simp) fun hw _ => ?_
      have hrl := hrows_len hs
      generalize hrows hs = rows at *
      repeat' (first | refine SWp.seq ?_ | refine SWp.block ?_ | refine SWp.scope ?_ | (refine SWp.reg ?_; (simp (disch := first | omega | (simp only [List.length_set, List.length_append, List.length_cons, List.length_nil, List.length_map]; omega)) only [go_sem, Nat.reduceEqDiff, Nat.reduceBEq, Nat.reduceAdd, Nat.reduceMul, Nat.reduceSub, Nat.reduceLeDiff, Int.reduceToNat, Int.reducePow, r1, hrl])) | refine SWp.condT rfl ?_ | refine SWp.condF rfl ?_ | (refine SWp.condD rfl (fun ht => ?_) (fun ht => ?_) <;> try (exfalso; omega)) | ((first | refine SWp.skip ?_ | refine SWp.exit ?_ | refine SWp.ret ?_); try (simp (disch := first | omega | (simp only [List.length_set, List.length_append, List.length_cons, List.length_nil, List.length_map]; omega)) only [go_sem, Nat.reduceEqDiff, Nat.reduceBEq, Nat.reduceAdd, Nat.reduceMul, Nat.reduceSub, Nat.reduceLeDiff, Int.reduceToNat, Int.reducePow, r1, hrl])) | ((first | refine splitG (fun ht => ?_) (fun ht => ?_) | refine splitGB (fun ht => ?_) (fun ht => ?_) | refine splitR (fun ht => ?_) (fun ht => ?_) | refine splitRB (fun ht => ?_) (fun ht => ?_) | refine splitE (fun ht => ?_) (fun ht => ?_) | refine splitEB (fun ht => ?_) (fun ht => ?_) | refine splitC (fun ht => ?_) (fun ht => ?_) | refine splitCB (fun ht => ?_) (fun ht => ?_)) <;> (simp (disch := first | omega | (simp only [List.length_set, List.length_append, List.length_cons, List.length_nil, List.length_map]; omega)) only [go_sem, Nat.reduceEqDiff, Nat.reduceBEq, Nat.reduceAdd, Nat.reduceMul, Nat.reduceSub, Nat.reduceLeDiff, Int.reduceToNat, Int.reducePow, r1, hrl])))
      refine callW.mkP (i1 _ _ hP0) (by obtain ⟨v', σ', h⟩ := PrS.ex σ (hrows (proofL hs n)); exact ⟨_, σ', rfl, v', h⟩) ?_
      rintro r σ1 ⟨rfl, v1, hP1⟩
      have ho1 := hP1.out
      repeat' (first | refine SWp.seq ?_ | refine SWp.block ?_ | refine SWp.scope ?_ | (refine SWp.reg ?_; (simp (disch := first | omega | (simp only [List.length_set, List.length_append, List.length_cons, List.length_nil, List.length_map]; omega)) only [go_sem, Nat.reduceEqDiff, Nat.reduceBEq, Nat.reduceAdd, Nat.reduceMul, Nat.reduceSub, Nat.reduceLeDiff, Int.reduceToNat, Int.reducePow, ho1])) | refine SWp.condT rfl ?_ | refine SWp.condF rfl ?_ | (refine SWp.condD rfl (fun ht => ?_) (fun ht => ?_) <;> try (exfalso; omega)) | ((first | refine SWp.skip ?_ | refine SWp.exit ?_ | refine SWp.ret ?_); try (simp (disch := first | omega | (simp only [List.length_set, List.length_append, List.length_cons, List.length_nil, List.length_map]; omega)) only [go_sem, Nat.reduceEqDiff, Nat.reduceBEq, Nat.reduceAdd, Nat.reduceMul, Nat.reduceSub, Nat.reduceLeDiff, Int.reduceToNat, Int.reducePow, ho1])) | ((first | refine splitG (fun ht => ?_) (fun ht => ?_) | refine splitGB (fun ht => ?_) (fun ht => ?_) | refine splitR (fun ht => ?_) (fun ht => ?_) | refine splitRB (fun ht => ?_) (fun ht => ?_) | refine splitE (fun ht => ?_) (fun ht => ?_) | refine splitEB (fun ht => ?_) (fun ht => ?_) | refine splitC (fun ht => ?_) (fun ht => ?_) | refine splitCB (fun ht => ?_) (fun ht => ?_)) <;> (simp (disch := first | omega | (simp only [List.length_set, List.length_append, List.length_cons, List.length_nil, List.length_map]; omega)) only [go_sem, Nat.reduceEqDiff, Nat.reduceBEq, Nat.reduceAdd, Nat.reduceMul, Nat.reduceSub, Nat.reduceLeDiff, Int.reduceToNat, Int.reducePow, ho1])))
      refine ⟨_, _, ⟨_, rfl, own_is σ 32 _⟩, ?_⟩
      rw [e1]
      exact (hP1.own.own hw (rlss_h _)).tup2
end Am
end Go.Proofs.YtfofemaglndnjaaDoor
end
section
set_option linter.unusedSimpArgs false
set_option linter.unusedVariables false
/- Proofs: contracts: Proof of the reference. -/
set_option linter.unusedSimpArgs false
set_option linter.unusedVariables false
namespace Go.Proofs.YtfofemaglndnjaaDoor
namespace Am
/-- Own elements, or a literal that can be gone on with. -/
def OwnA (sz : Nat) (τ σ' : Store) (v : AV) (es : List (List AV)) : Prop := OwnN sz τ σ' v es ∨ (v = .vsl sz es true ∧ es ≠ [] ∧ ∃ news, σ' = τ ++ news)
theorem OwnA.app {sz : Nat} {τ σ' : Store} {v : AV} {es ys : List (List AV)} (h : OwnA sz τ σ' v es) (h0 : ys.length ≠ 0) (hl : es.length + ys.length ≤ 1073741824) :
    ∃ v' σ'', aApp σ' sz v ys = some (v', σ'') ∧ OwnN sz τ σ'' v' (es ++ ys) := by
  rcases h with h | ⟨rfl, h1, news, rfl⟩
  · exact h.app h0 hl
  · refine ⟨.sl (τ ++ news).length 0 (es.length + ys.length) none sz, (τ ++ news) ++ [some (es ++ ys)], by rw [app_v, if_neg h0, if_pos ⟨rfl, rfl, hl⟩], news ++ [some (es ++ ys)], by rw [List.append_assoc], .inr ⟨news.length, by simp [h1], by simp, by rw [List.getElem?_append_right (Nat.le_refl _)]; simp⟩⟩
theorem OwnA.rd {sz : Nat} {τ σ' : Store} {v : AV} {es : List (List AV)} (h : OwnA sz τ σ' v es) : RdSl σ' sz es v := by
  rcases h with h | ⟨rfl, _⟩
  · exact h.rd
  · exact .inl (.inr ⟨true, rfl⟩)
theorem OwnA.more {sz : Nat} {τ σ' : Store} {v : AV} {es : List (List AV)} (h : OwnA sz τ σ' v es) (y : Store) : OwnA sz τ (σ' ++ y) v es := by
  rcases h with h | ⟨rfl, h1, news, rfl⟩
  · exact .inl (h.more y)
  · exact .inr ⟨rfl, h1, news ++ y, by rw [List.append_assoc]⟩
theorem OwnA.ext {sz : Nat} {τ σ' : Store} {v : AV} {es : List (List AV)} (h : OwnA sz τ σ' v es) : ∃ news, σ' = τ ++ news := by
  rcases h with h | ⟨_, _, h⟩
  · exact h.ext
  · exact h
theorem OwnA.down {sz : Nat} {σ σ' : Store} {v : AV} {es : List (List AV)} (hw : Wf σ.length σ) (h : OwnA sz σ σ' v es) (hr : RLss σ.length es) : ∃ v2 σ2, OwnA sz σ σ2 v2 es ∧ DownV σ.length v σ' v2 σ2 := by
  rcases h with h | ⟨rfl, h1, news, rfl⟩
  · exact ⟨_, _, .inl (own_is σ sz es), h.own hw hr⟩
  · exact ⟨_, σ, .inr ⟨rfl, h1, [], by simp⟩, DownV.pure hw (by simpa only [RL] using hr)⟩
set_option maxHeartbeats 8000000 in
theorem sub_to : ∀ (f : Nat) (σ : Store) (hs : List (List UInt8)) (ex : Bool) (m : Nat) (kn : Bool), hs.length < f → H32 hs → hs.length < 1000000 → 0 < m → m ≤ hs.length →
    ACallsP TC 62 [.vsl 32 (hrows hs) ex, .int .i64 m, .bool kn] σ (fun v σ' => OwnA 32 σ σ' v (hrows (subS hs m kn))) := by
  intro f
  induction f with
  | zero => intro σ hs ex m kn h; omega
  | succ f ih =>
    intro σ hs ex m kn hf hH hl h0 hm
    have hrl := hrows_len hs
    by_cases h1 : m = hs.length
    · subst h1
      rw [subS_all]
      cases kn with
      | true =>
        refine ACallsP.of_body speculumref07_sub_ok (by simp) fun hw _ => ?_
        repeat' (first | refine SWp.seq ?_ | refine SWp.block ?_ | refine SWp.scope ?_ | (refine SWp.reg ?_; (simp (disch := first | omega | (simp only [List.length_set, List.length_append, List.length_cons, List.length_nil, List.length_map]; omega)) only [go_sem, Nat.reduceEqDiff, Nat.reduceBEq, Nat.reduceAdd, Nat.reduceMul, Nat.reduceSub, Nat.reduceLeDiff, Int.reduceToNat, Int.reducePow, hrl])) | refine SWp.condT rfl ?_ | refine SWp.condF rfl ?_ | (refine SWp.condD rfl (fun ht => ?_) (fun ht => ?_) <;> try (exfalso; omega)) | ((first | refine SWp.skip ?_ | refine SWp.exit ?_ | refine SWp.ret ?_); try (simp (disch := first | omega | (simp only [List.length_set, List.length_append, List.length_cons, List.length_nil, List.length_map]; omega)) only [go_sem, Nat.reduceEqDiff, Nat.reduceBEq, Nat.reduceAdd, Nat.reduceMul, Nat.reduceSub, Nat.reduceLeDiff, Int.reduceToNat, Int.reducePow, hrl])) | ((first | refine splitG (fun ht => ?_) (fun ht => ?_) | refine splitGB (fun ht => ?_) (fun ht => ?_) | refine splitR (fun ht => ?_) (fun ht => ?_) | refine splitRB (fun ht => ?_) (fun ht => ?_) | refine splitE (fun ht => ?_) (fun ht => ?_) | refine splitEB (fun ht => ?_) (fun ht => ?_) | refine splitC (fun ht => ?_) (fun ht => ?_) | refine splitCB (fun ht => ?_) (fun ht => ?_)) <;> (simp (disch := first | omega | (simp only [List.length_set, List.length_append, List.length_cons, List.length_nil, List.length_map]; omega)) only [go_sem, Nat.reduceEqDiff, Nat.reduceBEq, Nat.reduceAdd, Nat.reduceMul, Nat.reduceSub, Nat.reduceLeDiff, Int.reduceToNat, Int.reducePow, hrl])))
        exact ⟨.nilsl, σ, .inl ⟨[], by simp, .inl ⟨rfl, rfl⟩⟩, DownV.same hw (rlB_ok _ rfl)⟩
      | false =>
        have hR := fun σ => ref_Root_to σ hs (.vsl 32 (hrows hs) ex) (.inr ⟨ex, rfl⟩) hH (by omega)
        have hc := byteEsC_len (rootS hs)
        rw [rootS_len hH] at hc
        have hgo : hrows (if false = true then [] else [rootS hs]) = [byteEsC (rootS hs)] := rfl
        rw [hgo]
        have hrr := rl_bytes (k := σ.length) (rootS hs)
        generalize byteEsC (rootS hs) = row at *
        generalize hrows hs = rows at *
        refine ACallsP.of_body speculumref07_sub_ok (by simp) fun hw _ => ?_
        repeat' (first | (apply callW.any; (first | exact (hR _)); all_goals try (simp (disch := first | omega | (simp only [List.length_set, List.length_append, List.length_cons, List.length_nil, List.length_map]; omega)) only [go_sem, Nat.reduceEqDiff, Nat.reduceBEq, Nat.reduceAdd, Nat.reduceMul, Nat.reduceSub, Nat.reduceLeDiff, Int.reduceToNat, Int.reducePow, hrl, hc])) | refine SWp.seq ?_ | refine SWp.block ?_ | refine SWp.scope ?_ | (refine SWp.reg ?_; (simp (disch := first | omega | (simp only [List.length_set, List.length_append, List.length_cons, List.length_nil, List.length_map]; omega)) only [go_sem, Nat.reduceEqDiff, Nat.reduceBEq, Nat.reduceAdd, Nat.reduceMul, Nat.reduceSub, Nat.reduceLeDiff, Int.reduceToNat, Int.reducePow, hrl, hc])) | refine SWp.condT rfl ?_ | refine SWp.condF rfl ?_ | (refine SWp.condD rfl (fun ht => ?_) (fun ht => ?_) <;> try (exfalso; omega)) | ((first | refine SWp.skip ?_ | refine SWp.exit ?_ | refine SWp.ret ?_); try (simp (disch := first | omega | (simp only [List.length_set, List.length_append, List.length_cons, List.length_nil, List.length_map]; omega)) only [go_sem, Nat.reduceEqDiff, Nat.reduceBEq, Nat.reduceAdd, Nat.reduceMul, Nat.reduceSub, Nat.reduceLeDiff, Int.reduceToNat, Int.reducePow, hrl, hc])) | ((first | refine splitG (fun ht => ?_) (fun ht => ?_) | refine splitGB (fun ht => ?_) (fun ht => ?_) | refine splitR (fun ht => ?_) (fun ht => ?_) | refine splitRB (fun ht => ?_) (fun ht => ?_) | refine splitE (fun ht => ?_) (fun ht => ?_) | refine splitEB (fun ht => ?_) (fun ht => ?_) | refine splitC (fun ht => ?_) (fun ht => ?_) | refine splitCB (fun ht => ?_) (fun ht => ?_)) <;> (simp (disch := first | omega | (simp only [List.length_set, List.length_append, List.length_cons, List.length_nil, List.length_map]; omega)) only [go_sem, Nat.reduceEqDiff, Nat.reduceBEq, Nat.reduceAdd, Nat.reduceMul, Nat.reduceSub, Nat.reduceLeDiff, Int.reduceToNat, Int.reducePow, hrl, hc])))
        exact ⟨_, σ, .inr ⟨rfl, by simp, [], by simp⟩, DownV.same hw (by simp only [RL, RLss]; exact ⟨hrr, trivial⟩)⟩
    · obtain ⟨s1, s2, s3⟩ := split_spec (n := hs.length) (by omega)
      have hsp := fun σ => ref_Split_to σ hs.length (by omega)
      obtain ⟨k, hkd⟩ : ∃ k, splitS hs.length = k := ⟨_, rfl⟩
      have tk := hrows_take hs k
      have dk := hrows_drop hs k
      rw [hkd] at s1 s2 s3 hsp
      have hm1 : ¬ (m : Int) = hs.length := by omega
      have hrs := rlss_h (k := σ.length) (subS hs m kn)
      by_cases h2 : m ≤ k
      · have e := subS_left (l := hs) (m := m) (kn := kn) h0 (by omega) (by rw [hkd]; exact h2)
        rw [hkd] at e
        have i1 := fun b => ih σ (hs.take k) b m kn (by rw [List.length_take]; omega) (hH.take _) (by rw [List.length_take]; omega) (by omega) (by rw [List.length_take]; omega)
        have hR := fun σ b => ref_Root_to σ (hs.drop k) (.vsl 32 (hrows (hs.drop k)) b) (.inr ⟨b, rfl⟩) (hH.drop _) (by rw [List.length_drop]; omega)
        have hc := byteEsC_len (rootS (hs.drop k))
        rw [rootS_len (hH.drop _)] at hc
        have hcat : hrows (subS hs m kn) = hrows (subS (hs.take k) m kn) ++ [byteEsC (rootS (hs.drop k))] := by rw [e]; simp [hrows]
        have hsl := subS_le (m := m) (kn := kn) (hH.take k)
        have hsr := hrows_len (subS (hs.take k) m kn)
        rw [hcat] at hrs ⊢
        rw [List.length_take] at hsl
        generalize byteEsC (rootS (hs.drop k)) = row at *
        generalize hrows (subS (hs.take k) m kn) = es1 at *
        generalize hrows (hs.take k) = ra at *
        generalize hrows (hs.drop k) = rb at *
        generalize hrows hs = rows at *
        refine ACallsP.of_body speculumref07_sub_ok (by simp) fun hw _ => ?_
        repeat' (first | (apply callW.any; (first | exact (hsp _)); all_goals try (simp (disch := first | omega | (simp only [List.length_set, List.length_append, List.length_cons, List.length_nil, List.length_map]; omega)) only [go_sem, Nat.reduceEqDiff, Nat.reduceBEq, Nat.reduceAdd, Nat.reduceMul, Nat.reduceSub, Nat.reduceLeDiff, Int.reduceToNat, Int.reducePow, hrl, hm1, tk, dk])) | refine SWp.seq ?_ | refine SWp.block ?_ | refine SWp.scope ?_ | (refine SWp.reg ?_; (simp (disch := first | omega | (simp only [List.length_set, List.length_append, List.length_cons, List.length_nil, List.length_map]; omega)) only [go_sem, Nat.reduceEqDiff, Nat.reduceBEq, Nat.reduceAdd, Nat.reduceMul, Nat.reduceSub, Nat.reduceLeDiff, Int.reduceToNat, Int.reducePow, hrl, hm1, tk, dk])) | refine SWp.condT rfl ?_ | refine SWp.condF rfl ?_ | (refine SWp.condD rfl (fun ht => ?_) (fun ht => ?_) <;> try (exfalso; omega)) | ((first | refine SWp.skip ?_ | refine SWp.exit ?_ | refine SWp.ret ?_); try (simp (disch := first | omega | (simp only [List.length_set, List.length_append, List.length_cons, List.length_nil, List.length_map]; omega)) only [go_sem, Nat.reduceEqDiff, Nat.reduceBEq, Nat.reduceAdd, Nat.reduceMul, Nat.reduceSub, Nat.reduceLeDiff, Int.reduceToNat, Int.reducePow, hrl, hm1, tk, dk])) | ((first | refine splitG (fun ht => ?_) (fun ht => ?_) | refine splitGB (fun ht => ?_) (fun ht => ?_) | refine splitR (fun ht => ?_) (fun ht => ?_) | refine splitRB (fun ht => ?_) (fun ht => ?_) | refine splitE (fun ht => ?_) (fun ht => ?_) | refine splitEB (fun ht => ?_) (fun ht => ?_) | refine splitC (fun ht => ?_) (fun ht => ?_) | refine splitCB (fun ht => ?_) (fun ht => ?_)) <;> (simp (disch := first | omega | (simp only [List.length_set, List.length_append, List.length_cons, List.length_nil, List.length_map]; omega)) only [go_sem, Nat.reduceEqDiff, Nat.reduceBEq, Nat.reduceAdd, Nat.reduceMul, Nat.reduceSub, Nat.reduceLeDiff, Int.reduceToNat, Int.reducePow, hrl, hm1, tk, dk])))
        refine callW.mkP_ef (i1 _) ⟨_, _, .inl (own_is σ 32 es1)⟩ ?_
        rintro v1 σ1 hO1
        obtain ⟨v2, σ2, he, hO2⟩ := hO1.app (ys := [row]) (by simp) (by simp; omega)
        simp (disch := first | omega | (simp only [List.length_set, List.length_append, List.length_cons, List.length_nil, List.length_map]; omega)) only [go_sem, Nat.reduceEqDiff, Nat.reduceBEq, Nat.reduceAdd, Nat.reduceMul, Nat.reduceSub, Nat.reduceLeDiff, Int.reduceToNat, Int.reducePow, hrl, tk, dk]
        repeat' (first | (apply callW.any; (first | exact (hR _ _)); all_goals try (simp (disch := first | omega | (simp only [List.length_set, List.length_append, List.length_cons, List.length_nil, List.length_map]; omega)) only [go_sem, Nat.reduceEqDiff, Nat.reduceBEq, Nat.reduceAdd, Nat.reduceMul, Nat.reduceSub, Nat.reduceLeDiff, Int.reduceToNat, Int.reducePow, hrl, he, hc, tk, dk])) | refine SWp.seq ?_ | refine SWp.block ?_ | refine SWp.scope ?_ | (refine SWp.reg ?_; (simp (disch := first | omega | (simp only [List.length_set, List.length_append, List.length_cons, List.length_nil, List.length_map]; omega)) only [go_sem, Nat.reduceEqDiff, Nat.reduceBEq, Nat.reduceAdd, Nat.reduceMul, Nat.reduceSub, Nat.reduceLeDiff, Int.reduceToNat, Int.reducePow, hrl, he, hc, tk, dk])) | refine SWp.condT rfl ?_ | refine SWp.condF rfl ?_ | (refine SWp.condD rfl (fun ht => ?_) (fun ht => ?_) <;> try (exfalso; omega)) | ((first | refine SWp.skip ?_ | refine SWp.exit ?_ | refine SWp.ret ?_); try (simp (disch := first | omega | (simp only [List.length_set, List.length_append, List.length_cons, List.length_nil, List.length_map]; omega)) only [go_sem, Nat.reduceEqDiff, Nat.reduceBEq, Nat.reduceAdd, Nat.reduceMul, Nat.reduceSub, Nat.reduceLeDiff, Int.reduceToNat, Int.reducePow, hrl, he, hc, tk, dk])) | ((first | refine splitG (fun ht => ?_) (fun ht => ?_) | refine splitGB (fun ht => ?_) (fun ht => ?_) | refine splitR (fun ht => ?_) (fun ht => ?_) | refine splitRB (fun ht => ?_) (fun ht => ?_) | refine splitE (fun ht => ?_) (fun ht => ?_) | refine splitEB (fun ht => ?_) (fun ht => ?_) | refine splitC (fun ht => ?_) (fun ht => ?_) | refine splitCB (fun ht => ?_) (fun ht => ?_)) <;> (simp (disch := first | omega | (simp only [List.length_set, List.length_append, List.length_cons, List.length_nil, List.length_map]; omega)) only [go_sem, Nat.reduceEqDiff, Nat.reduceBEq, Nat.reduceAdd, Nat.reduceMul, Nat.reduceSub, Nat.reduceLeDiff, Int.reduceToNat, Int.reducePow, hrl, he, hc, tk, dk])))
        obtain ⟨v3, σ3, h3, h4⟩ := OwnA.down hw (.inl hO2) hrs
        exact ⟨v3, σ3, h3, h4⟩
      · have e := subS_right (l := hs) (m := m) (kn := kn) (by omega) (by rw [hkd]; exact h2)
        rw [hkd] at e
        have hms : (m : Int) - k = ((m - k : Nat) : Int) := by omega
        have i1 := fun b => ih σ (hs.drop k) b (m - k) false (by rw [List.length_drop]; omega) (hH.drop _) (by rw [List.length_drop]; omega) (by omega) (by rw [List.length_drop]; omega)
        have hR := fun σ b => ref_Root_to σ (hs.take k) (.vsl 32 (hrows (hs.take k)) b) (.inr ⟨b, rfl⟩) (hH.take _) (by rw [List.length_take]; omega)
        have hc := byteEsC_len (rootS (hs.take k))
        rw [rootS_len (hH.take _)] at hc
        have hcat : hrows (subS hs m kn) = hrows (subS (hs.drop k) (m - k) false) ++ [byteEsC (rootS (hs.take k))] := by rw [e]; simp [hrows]
        have hsl := subS_le (m := (m - k)) (kn := false) (hH.drop k)
        have hsr := hrows_len (subS (hs.drop k) (m - k) false)
        rw [hcat] at hrs ⊢
        rw [List.length_drop] at hsl
        generalize byteEsC (rootS (hs.take k)) = row at *
        generalize hrows (subS (hs.drop k) (m - k) false) = es1 at *
        generalize hrows (hs.take k) = ra at *
        generalize hrows (hs.drop k) = rb at *
        generalize hrows hs = rows at *
        refine ACallsP.of_body speculumref07_sub_ok (by simp) fun hw _ => ?_
        repeat' (first | (apply callW.any; (first | exact (hsp _)); all_goals try (simp (disch := first | omega | (simp only [List.length_set, List.length_append, List.length_cons, List.length_nil, List.length_map]; omega)) only [go_sem, Nat.reduceEqDiff, Nat.reduceBEq, Nat.reduceAdd, Nat.reduceMul, Nat.reduceSub, Nat.reduceLeDiff, Int.reduceToNat, Int.reducePow, hrl, hm1, tk, dk, hms])) | refine SWp.seq ?_ | refine SWp.block ?_ | refine SWp.scope ?_ | (refine SWp.reg ?_; (simp (disch := first | omega | (simp only [List.length_set, List.length_append, List.length_cons, List.length_nil, List.length_map]; omega)) only [go_sem, Nat.reduceEqDiff, Nat.reduceBEq, Nat.reduceAdd, Nat.reduceMul, Nat.reduceSub, Nat.reduceLeDiff, Int.reduceToNat, Int.reducePow, hrl, hm1, tk, dk, hms])) | refine SWp.condT rfl ?_ | refine SWp.condF rfl ?_ | (refine SWp.condD rfl (fun ht => ?_) (fun ht => ?_) <;> try (exfalso; omega)) | ((first | refine SWp.skip ?_ | refine SWp.exit ?_ | refine SWp.ret ?_); try (simp (disch := first | omega | (simp only [List.length_set, List.length_append, List.length_cons, List.length_nil, List.length_map]; omega)) only [go_sem, Nat.reduceEqDiff, Nat.reduceBEq, Nat.reduceAdd, Nat.reduceMul, Nat.reduceSub, Nat.reduceLeDiff, Int.reduceToNat, Int.reducePow, hrl, hm1, tk, dk, hms])) | ((first | refine splitG (fun ht => ?_) (fun ht => ?_) | refine splitGB (fun ht => ?_) (fun ht => ?_) | refine splitR (fun ht => ?_) (fun ht => ?_) | refine splitRB (fun ht => ?_) (fun ht => ?_) | refine splitE (fun ht => ?_) (fun ht => ?_) | refine splitEB (fun ht => ?_) (fun ht => ?_) | refine splitC (fun ht => ?_) (fun ht => ?_) | refine splitCB (fun ht => ?_) (fun ht => ?_)) <;> (simp (disch := first | omega | (simp only [List.length_set, List.length_append, List.length_cons, List.length_nil, List.length_map]; omega)) only [go_sem, Nat.reduceEqDiff, Nat.reduceBEq, Nat.reduceAdd, Nat.reduceMul, Nat.reduceSub, Nat.reduceLeDiff, Int.reduceToNat, Int.reducePow, hrl, hm1, tk, dk, hms])))
        refine callW.mkP_ef (i1 _) ⟨_, _, .inl (own_is σ 32 es1)⟩ ?_
        rintro v1 σ1 hO1
        obtain ⟨v2, σ2, he, hO2⟩ := hO1.app (ys := [row]) (by simp) (by simp; omega)
        simp (disch := first | omega | (simp only [List.length_set, List.length_append, List.length_cons, List.length_nil, List.length_map]; omega)) only [go_sem, Nat.reduceEqDiff, Nat.reduceBEq, Nat.reduceAdd, Nat.reduceMul, Nat.reduceSub, Nat.reduceLeDiff, Int.reduceToNat, Int.reducePow, hrl, tk, dk]
        repeat' (first | (apply callW.any; (first | exact (hR _ _)); all_goals try (simp (disch := first | omega | (simp only [List.length_set, List.length_append, List.length_cons, List.length_nil, List.length_map]; omega)) only [go_sem, Nat.reduceEqDiff, Nat.reduceBEq, Nat.reduceAdd, Nat.reduceMul, Nat.reduceSub, Nat.reduceLeDiff, Int.reduceToNat, Int.reducePow, hrl, he, hc, tk, dk])) | refine SWp.seq ?_ | refine SWp.block ?_ | refine SWp.scope ?_ | (refine SWp.reg ?_; (simp (disch := first | omega | (simp only [List.length_set, List.length_append, List.length_cons, List.length_nil, List.length_map]; omega)) only [go_sem, Nat.reduceEqDiff, Nat.reduceBEq, Nat.reduceAdd, Nat.reduceMul, Nat.reduceSub, Nat.reduceLeDiff, Int.reduceToNat, Int.reducePow, hrl, he, hc, tk, dk])) | refine SWp.condT rfl ?_ | refine SWp.condF rfl ?_ | (refine SWp.condD rfl (fun ht => ?_) (fun ht => ?_) <;> try (exfalso; omega)) | ((first | refine SWp.skip ?_ | refine SWp.exit ?_ | refine SWp.ret ?_); try (simp (disch := first | omega | (simp only [List.length_set, List.length_append, List.length_cons, List.length_nil, List.length_map]; omega)) only [go_sem, Nat.reduceEqDiff, Nat.reduceBEq, Nat.reduceAdd, Nat.reduceMul, Nat.reduceSub, Nat.reduceLeDiff, Int.reduceToNat, Int.reducePow, hrl, he, hc, tk, dk])) | ((first | refine splitG (fun ht => ?_) (fun ht => ?_) | refine splitGB (fun ht => ?_) (fun ht => ?_) | refine splitR (fun ht => ?_) (fun ht => ?_) | refine splitRB (fun ht => ?_) (fun ht => ?_) | refine splitE (fun ht => ?_) (fun ht => ?_) | refine splitEB (fun ht => ?_) (fun ht => ?_) | refine splitC (fun ht => ?_) (fun ht => ?_) | refine splitCB (fun ht => ?_) (fun ht => ?_)) <;> (simp (disch := first | omega | (simp only [List.length_set, List.length_append, List.length_cons, List.length_nil, List.length_map]; omega)) only [go_sem, Nat.reduceEqDiff, Nat.reduceBEq, Nat.reduceAdd, Nat.reduceMul, Nat.reduceSub, Nat.reduceLeDiff, Int.reduceToNat, Int.reducePow, hrl, he, hc, tk, dk])))
        obtain ⟨v3, σ3, h3, h4⟩ := OwnA.down hw (.inl hO2) hrs
        exact ⟨v3, σ3, h3, h4⟩
end Am
end Go.Proofs.YtfofemaglndnjaaDoor
end
section
set_option linter.unusedSimpArgs false
set_option linter.unusedVariables false
/- Proofs: what a proof says, by plain loops; the reference's Proof; a proof's next hash. -/
set_option linter.unusedSimpArgs false
set_option linter.unusedVariables false
namespace Go.Proofs.YtfofemaglndnjaaDoor
namespace Am
theorem refProof_none {σ : Store} {hs : List (List UInt8)} {m : Int} (h : proofL hs m = []) : OwnA 32 σ σ .nilsl (hrows (proofL hs m)) := by rw [h]; exact .inl ⟨[], by simp, .inl ⟨rfl, rfl⟩⟩
def RefP (σ : Store) (hs : List (List UInt8)) (m : Int) (v : AV) (σ' : Store) : Prop := ∃ v2, v = .tup [v2, .int .i64 (proofE hs m)] ∧ OwnA 32 σ σ' v2 (hrows (proofL hs m))
set_option maxHeartbeats 8000000 in
theorem refProof_to (σ : Store) (hs : List (List UInt8)) (x : AV) (m : Int) (hx : SlV 32 (hrows hs) x) (hH : H32 hs) (hl : hs.length < 1000000) :
    ACallsP TC 17 [x, .int .i64 m] σ (RefP σ hs m) := by
  have r1 := hx.len
  rw [hrows_len] at r1
  unfold rLenSl at r1
  by_cases h1 : m < 0 ∨ (hs.length : Int) < m
  · have e1 : proofE hs m = 2 := by unfold proofE; rw [if_pos h1]
    have e2 : proofL hs m = [] := by unfold proofL; rw [if_neg (by omega)]
    refine ACallsTo.toP (v := .tup [.nilsl, .int .i64 2]) (σ' := σ) ?_ ⟨_, by rw [e1], refProof_none e2⟩
    refine ACallsTo.of_body speculumref07_Proof_ok (by simp) fun hw _ => ?_
    repeat' (first | refine SWp.seq ?_ | refine SWp.block ?_ | refine SWp.scope ?_ | (refine SWp.reg ?_; (simp (disch := first | omega | (simp only [List.length_set, List.length_append, List.length_cons, List.length_nil, List.length_map]; omega)) only [go_sem, Nat.reduceEqDiff, Nat.reduceBEq, Nat.reduceAdd, Nat.reduceMul, Nat.reduceSub, Nat.reduceLeDiff, Int.reduceToNat, Int.reducePow, r1])) | refine SWp.condT rfl ?_ | refine SWp.condF rfl ?_ | (refine SWp.condD rfl (fun ht => ?_) (fun ht => ?_) <;> try (exfalso; omega)) | ((first | refine SWp.skip ?_ | refine SWp.exit ?_ | refine SWp.ret ?_); try (simp (disch := first | omega | (simp only [List.length_set, List.length_append, List.length_cons, List.length_nil, List.length_map]; omega)) only [go_sem, Nat.reduceEqDiff, Nat.reduceBEq, Nat.reduceAdd, Nat.reduceMul, Nat.reduceSub, Nat.reduceLeDiff, Int.reduceToNat, Int.reducePow, r1])) | ((first | refine splitG (fun ht => ?_) (fun ht => ?_) | refine splitGB (fun ht => ?_) (fun ht => ?_) | refine splitR (fun ht => ?_) (fun ht => ?_) | refine splitRB (fun ht => ?_) (fun ht => ?_) | refine splitE (fun ht => ?_) (fun ht => ?_) | refine splitEB (fun ht => ?_) (fun ht => ?_) | refine splitC (fun ht => ?_) (fun ht => ?_) | refine splitCB (fun ht => ?_) (fun ht => ?_)) <;> (simp (disch := first | omega | (simp only [List.length_set, List.length_append, List.length_cons, List.length_nil, List.length_map]; omega)) only [go_sem, Nat.reduceEqDiff, Nat.reduceBEq, Nat.reduceAdd, Nat.reduceMul, Nat.reduceSub, Nat.reduceLeDiff, Int.reduceToNat, Int.reducePow, r1])))
    all_goals exact DownV.same hw (rlB_ok _ rfl)
  · have e1 : proofE hs m = 0 := by unfold proofE; rw [if_neg h1]
    by_cases h2 : m = 0
    · have e2 : proofL hs m = [] := by unfold proofL; rw [if_neg (by omega)]
      refine ACallsTo.toP (v := .tup [.nilsl, .int .i64 0]) (σ' := σ) ?_ ⟨_, by rw [e1], refProof_none e2⟩
      refine ACallsTo.of_body speculumref07_Proof_ok (by simp) fun hw _ => ?_
      repeat' (first | refine SWp.seq ?_ | refine SWp.block ?_ | refine SWp.scope ?_ | (refine SWp.reg ?_; (simp (disch := first | omega | (simp only [List.length_set, List.length_append, List.length_cons, List.length_nil, List.length_map]; omega)) only [go_sem, Nat.reduceEqDiff, Nat.reduceBEq, Nat.reduceAdd, Nat.reduceMul, Nat.reduceSub, Nat.reduceLeDiff, Int.reduceToNat, Int.reducePow, r1])) | refine SWp.condT rfl ?_ | refine SWp.condF rfl ?_ | (refine SWp.condD rfl (fun ht => ?_) (fun ht => ?_) <;> try (exfalso; omega)) | ((first | refine SWp.skip ?_ | refine SWp.exit ?_ | refine SWp.ret ?_); try (simp (disch := first | omega | (simp only [List.length_set, List.length_append, List.length_cons, List.length_nil, List.length_map]; omega)) only [go_sem, Nat.reduceEqDiff, Nat.reduceBEq, Nat.reduceAdd, Nat.reduceMul, Nat.reduceSub, Nat.reduceLeDiff, Int.reduceToNat, Int.reducePow, r1])) | ((first | refine splitG (fun ht => ?_) (fun ht => ?_) | refine splitGB (fun ht => ?_) (fun ht => ?_) | refine splitR (fun ht => ?_) (fun ht => ?_) | refine splitRB (fun ht => ?_) (fun ht => ?_) | refine splitE (fun ht => ?_) (fun ht => ?_) | refine splitEB (fun ht => ?_) (fun ht => ?_) | refine splitC (fun ht => ?_) (fun ht => ?_) | refine splitCB (fun ht => ?_) (fun ht => ?_)) <;> (simp (disch := first | omega | (simp only [List.length_set, List.length_append, List.length_cons, List.length_nil, List.length_map]; omega)) only [go_sem, Nat.reduceEqDiff, Nat.reduceBEq, Nat.reduceAdd, Nat.reduceMul, Nat.reduceSub, Nat.reduceLeDiff, Int.reduceToNat, Int.reducePow, r1])))
      all_goals exact DownV.same hw (rlB_ok _ rfl)
    · obtain ⟨n, rfl⟩ : ∃ n : Nat, m = n := ⟨m.toNat, by omega⟩
      obtain ⟨ex, rfl⟩ := hx.vsl (by rw [hrows_len]; omega)
      have e2 : proofL hs n = subS hs n true := by
        unfold proofL
        by_cases h3 : n = hs.length
        · subst h3; rw [if_neg (by omega), subS_all]; rfl
        · rw [if_pos (by omega)]; rfl
      have i1 := sub_to (hs.length + 1) σ hs ex n true (by omega) hH hl (by omega) (by omega)
      rw [← e2] at i1
      have hrs := rlss_h (k := σ.length) (proofL hs n)
      unfold RefP
      rw [e1]
      have hrl := hrows_len hs
      generalize hrows hs = rows at *
      generalize hrows (proofL hs n) = es at *
      refine ACallsP.of_body speculumref07_Proof_ok (by simp) fun hw _ => ?_
      repeat' (first | refine SWp.seq ?_ | refine SWp.block ?_ | refine SWp.scope ?_ | (refine SWp.reg ?_; (simp (disch := first | omega | (simp only [List.length_set, List.length_append, List.length_cons, List.length_nil, List.length_map]; omega)) only [go_sem, Nat.reduceEqDiff, Nat.reduceBEq, Nat.reduceAdd, Nat.reduceMul, Nat.reduceSub, Nat.reduceLeDiff, Int.reduceToNat, Int.reducePow, r1, hrl])) | refine SWp.condT rfl ?_ | refine SWp.condF rfl ?_ | (refine SWp.condD rfl (fun ht => ?_) (fun ht => ?_) <;> try (exfalso; omega)) | ((first | refine SWp.skip ?_ | refine SWp.exit ?_ | refine SWp.ret ?_); try (simp (disch := first | omega | (simp only [List.length_set, List.length_append, List.length_cons, List.length_nil, List.length_map]; omega)) only [go_sem, Nat.reduceEqDiff, Nat.reduceBEq, Nat.reduceAdd, Nat.reduceMul, Nat.reduceSub, Nat.reduceLeDiff, Int.reduceToNat, Int.reducePow, r1, hrl])) | ((first | refine splitG (fun ht => ?_) (fun ht => ?_) | refine splitGB (fun ht => ?_) (fun ht => ?_) | refine splitR (fun ht => ?_) (fun ht => ?_) | refine splitRB (fun ht => ?_) (fun ht => ?_) | refine splitE (fun ht => ?_) (fun ht => ?_) | refine splitEB (fun ht => ?_) (fun ht => ?_) | refine splitC (fun ht => ?_) (fun ht => ?_) | refine splitCB (fun ht => ?_) (fun ht => ?_)) <;> (simp (disch := first | omega | (simp only [List.length_set, List.length_append, List.length_cons, List.length_nil, List.length_map]; omega)) only [go_sem, Nat.reduceEqDiff, Nat.reduceBEq, Nat.reduceAdd, Nat.reduceMul, Nat.reduceSub, Nat.reduceLeDiff, Int.reduceToNat, Int.reducePow, r1, hrl])))
      refine callW.mkP i1 ⟨_, _, .inl (own_is σ 32 _)⟩ ?_
      rintro v1 σ1 hO
      repeat' (first | refine SWp.seq ?_ | refine SWp.block ?_ | refine SWp.scope ?_ | (refine SWp.reg ?_; (simp (disch := first | omega | (simp only [List.length_set, List.length_append, List.length_cons, List.length_nil, List.length_map]; omega)) only [go_sem, Nat.reduceEqDiff, Nat.reduceBEq, Nat.reduceAdd, Nat.reduceMul, Nat.reduceSub, Nat.reduceLeDiff, Int.reduceToNat, Int.reducePow])) | refine SWp.condT rfl ?_ | refine SWp.condF rfl ?_ | (refine SWp.condD rfl (fun ht => ?_) (fun ht => ?_) <;> try (exfalso; omega)) | ((first | refine SWp.skip ?_ | refine SWp.exit ?_ | refine SWp.ret ?_); try (simp (disch := first | omega | (simp only [List.length_set, List.length_append, List.length_cons, List.length_nil, List.length_map]; omega)) only [go_sem, Nat.reduceEqDiff, Nat.reduceBEq, Nat.reduceAdd, Nat.reduceMul, Nat.reduceSub, Nat.reduceLeDiff, Int.reduceToNat, Int.reducePow])) | ((first | refine splitG (fun ht => ?_) (fun ht => ?_) | refine splitGB (fun ht => ?_) (fun ht => ?_) | refine splitR (fun ht => ?_) (fun ht => ?_) | refine splitRB (fun ht => ?_) (fun ht => ?_) | refine splitE (fun ht => ?_) (fun ht => ?_) | refine splitEB (fun ht => ?_) (fun ht => ?_) | refine splitC (fun ht => ?_) (fun ht => ?_) | refine splitCB (fun ht => ?_) (fun ht => ?_)) <;> (simp (disch := first | omega | (simp only [List.length_set, List.length_append, List.length_cons, List.length_nil, List.length_map]; omega)) only [go_sem, Nat.reduceEqDiff, Nat.reduceBEq, Nat.reduceAdd, Nat.reduceMul, Nat.reduceSub, Nat.reduceLeDiff, Int.reduceToNat, Int.reducePow])))
      obtain ⟨v3, σ3, h3, h4⟩ := OwnA.down hw hO hrs
      exact ⟨_, _, ⟨_, rfl, h3⟩, h4.tup2⟩
/-- Up to where the older tree's last full one hangs. -/
def st (i last : Nat) : Nat × Nat := if h : i % 2 = 1 then st (i / 2) (last / 2) else (i, last)
termination_by i
decreasing_by omega
/-- On which side each hash stands: true: left of both. -/
def lp (i last : Nat) : List Bool :=
  if h : last = 0 then [] else if i % 2 = 1 then true :: lp (i / 2) (last / 2) else if i = last then lp (i / 2) (last / 2) else false :: lp (i / 2) (last / 2)
termination_by last
decreasing_by all_goals omega
theorem st_odd {i last : Nat} (h : i % 2 = 1) : st i last = st (i / 2) (last / 2) := by rw [st, dif_pos h]
theorem st_even {i last : Nat} (h : ¬ i % 2 = 1) : st i last = (i, last) := by rw [st, dif_neg h]
theorem lp_zero (i : Nat) : lp i 0 = [] := by rw [lp, dif_pos rfl]
theorem lp_odd {i last : Nat} (h : i % 2 = 1) (h0 : last ≠ 0) : lp i last = true :: lp (i / 2) (last / 2) := by rw [lp, dif_neg h0, if_pos h]
theorem lp_eq {i : Nat} (h : ¬ i % 2 = 1) : lp i i = lp (i / 2) (i / 2) := by
  by_cases h0 : i = 0
  · subst h0; rfl
  · rw [lp, dif_neg h0, if_neg h, if_pos rfl]
theorem lp_ne {i last : Nat} (h : ¬ i % 2 = 1) (h0 : last ≠ 0) (h1 : i ≠ last) : lp i last = false :: lp (i / 2) (last / 2) := by rw [lp, dif_neg h0, if_neg h, if_neg h1]
theorem lp_same : ∀ (f i : Nat), i < f → i ≠ 0 → ∃ P, lp i i = true :: P
  | 0, _, h, _ => by omega
  | f + 1, i, h, h0 => by
    by_cases h1 : i % 2 = 1
    · exact ⟨_, lp_odd h1 h0⟩
    · obtain ⟨P, hP⟩ := lp_same f (i / 2) (by omega) (by omega)
      exact ⟨P, by rw [lp_eq h1, hP]⟩
/-- Two roots, of the hashes. -/
def run : List Bool → List (List UInt8) → List UInt8 → List UInt8 → Option (List UInt8 × List UInt8)
  | [], [], a, b => some (a, b)
  | true :: p, h :: ps, a, b => run p ps (nodeS h a) (nodeS h b)
  | false :: p, h :: ps, a, b => run p ps a (nodeS b h)
  | _, _, _, _ => none
def chkG (i last : Nat) (o : List UInt8) (ps : List (List UInt8)) : Option (List UInt8 × List UInt8) :=
  if 0 < i then match ps with
    | [] => none
    | h :: ps => run (lp i last) ps h h
  else run (lp i last) ps o o
def chkS (i last : Nat) (o : List UInt8) (ps : List (List UInt8)) : Option (List UInt8 × List UInt8) := chkG (st i last).1 (st i last).2 o ps
/-- What Check answers. -/
def fitI (r : Option (List UInt8 × List UInt8)) (o nw : List UInt8) : Int :=
  match r with
  | some (a, b) => if a = o ∧ b = nw then 0 else 80
  | none => 80
def chkI (m n : Int) (o nw : List UInt8) (ps : List (List UInt8)) : Int :=
  if n < 0 ∨ 4096 < n ∨ m < 0 ∨ n < m then 2
  else if m = 0 then (if ps = [] ∧ o = rootS [] ∧ (0 < n ∨ nw = o) then 0 else 80)
  else if m = n then (if ps = [] ∧ o = nw then 0 else 80)
  else fitI (chkS (m.toNat - 1) (n.toNat - 1) o ps) o nw
def zero32 : List UInt8 := List.replicate 32 0
theorem next_to (p : Nat) (σ : Store) (h : List UInt8) (ps : List (List UInt8)) (ex : Bool) (hh : h.length = 32) (hl : ps.length < 1000000) (hp : σ[p]? = some (some [[.vsl 32 (hrows (h :: ps)) ex]])) :
    ACallsTo TC 64 [.ptr p 0 0] σ (.tup [.agg (byteEsC h), .bool true]) (σ.set p (some [[.vsl 32 (hrows ps) ex]]) ++ [some [byteEsC h]]) := by
  have hc := byteEsC_len h
  rw [hh] at hc
  have hlt := (List.getElem?_eq_some_iff.1 hp).1
  have hr : hrows (h :: ps) = byteEsC h :: hrows ps := rfl
  have hrl := hrows_len ps
  rw [hr] at hp
  generalize byteEsC h = row at *
  generalize hrows ps = rows at *
  refine ACallsTo.of_body_keep proofs_Check_1_ok (by simp) ?_
  repeat' (first | refine SWp.seq ?_ | refine SWp.block ?_ | refine SWp.scope ?_ | (refine SWp.reg ?_; (simp (disch := first | omega | (simp only [List.length_set, List.length_append, List.length_cons, List.length_nil, List.length_map]; omega)) only [go_sem, Nat.reduceEqDiff, Nat.reduceBEq, Nat.reduceAdd, Nat.reduceMul, Nat.reduceSub, Nat.reduceLeDiff, Int.reduceToNat, Int.reducePow, hp, hc, hrl])) | refine SWp.condT rfl ?_ | refine SWp.condF rfl ?_ | (refine SWp.condD rfl (fun ht => ?_) (fun ht => ?_) <;> try (exfalso; omega)) | ((first | refine SWp.skip ?_ | refine SWp.exit ?_ | refine SWp.ret ?_); try (simp (disch := first | omega | (simp only [List.length_set, List.length_append, List.length_cons, List.length_nil, List.length_map]; omega)) only [go_sem, Nat.reduceEqDiff, Nat.reduceBEq, Nat.reduceAdd, Nat.reduceMul, Nat.reduceSub, Nat.reduceLeDiff, Int.reduceToNat, Int.reducePow, hp, hc, hrl])) | ((first | refine splitG (fun ht => ?_) (fun ht => ?_) | refine splitGB (fun ht => ?_) (fun ht => ?_) | refine splitR (fun ht => ?_) (fun ht => ?_) | refine splitRB (fun ht => ?_) (fun ht => ?_) | refine splitE (fun ht => ?_) (fun ht => ?_) | refine splitEB (fun ht => ?_) (fun ht => ?_) | refine splitC (fun ht => ?_) (fun ht => ?_) | refine splitCB (fun ht => ?_) (fun ht => ?_)) <;> (simp (disch := first | omega | (simp only [List.length_set, List.length_append, List.length_cons, List.length_nil, List.length_map]; omega)) only [go_sem, Nat.reduceEqDiff, Nat.reduceBEq, Nat.reduceAdd, Nat.reduceMul, Nat.reduceSub, Nat.reduceLeDiff, Int.reduceToNat, Int.reducePow, hp, hc, hrl])))
  rw [List.drop_of_length_le (by omega), List.append_nil, List.take_of_length_le (by omega)]
  exact ⟨rfl, rfl⟩
theorem next_none (p : Nat) (σ : Store) (x : AV) (hx : SlV 32 [] x) (hp : σ[p]? = some (some [[x]])) :
    ACallsTo TC 64 [.ptr p 0 0] σ (.tup [.agg (byteEsC zero32), .bool false]) (σ ++ [some [byteEsC zero32]]) := by
  have hlt := (List.getElem?_eq_some_iff.1 hp).1
  have r1 := hx.len
  unfold rLenSl at r1
  have hz : byteEsC zero32 = List.replicate 32 (.int .u8 0) := rfl
  rw [hz]
  refine ACallsTo.of_body_keep proofs_Check_1_ok (by simp) ?_
  repeat' (first | refine SWp.seq ?_ | refine SWp.block ?_ | refine SWp.scope ?_ | (refine SWp.regS ?_; (simp (disch := first | omega | (simp only [List.length_set, List.length_append, List.length_cons, List.length_nil, List.length_map]; omega)) only [go_sem, Nat.reduceEqDiff, Nat.reduceBEq, Nat.reduceAdd, Nat.reduceMul, Nat.reduceSub, Nat.reduceLeDiff, Int.reduceToNat, Int.reducePow, hp, r1])) | refine SWp.condT rfl ?_ | refine SWp.condF rfl ?_ | (refine SWp.condD rfl (fun ht => ?_) (fun ht => ?_) <;> try (exfalso; omega)) | ((first | refine SWp.skip ?_ | refine SWp.exit ?_ | refine SWp.ret ?_); try (simp (disch := first | omega | (simp only [List.length_set, List.length_append, List.length_cons, List.length_nil, List.length_map]; omega)) only [go_sem, Nat.reduceEqDiff, Nat.reduceBEq, Nat.reduceAdd, Nat.reduceMul, Nat.reduceSub, Nat.reduceLeDiff, Int.reduceToNat, Int.reducePow, hp, r1])) | ((first | refine splitG (fun ht => ?_) (fun ht => ?_) | refine splitGB (fun ht => ?_) (fun ht => ?_) | refine splitR (fun ht => ?_) (fun ht => ?_) | refine splitRB (fun ht => ?_) (fun ht => ?_) | refine splitE (fun ht => ?_) (fun ht => ?_) | refine splitEB (fun ht => ?_) (fun ht => ?_) | refine splitC (fun ht => ?_) (fun ht => ?_) | refine splitCB (fun ht => ?_) (fun ht => ?_)) <;> (simp (disch := first | omega | (simp only [List.length_set, List.length_append, List.length_cons, List.length_nil, List.length_map]; omega)) only [go_sem, Nat.reduceEqDiff, Nat.reduceBEq, Nat.reduceAdd, Nat.reduceMul, Nat.reduceSub, Nat.reduceLeDiff, Int.reduceToNat, Int.reducePow, hp, r1])))
  exact ⟨rfl, rfl⟩
theorem holds_to (σ : Store) (b : Bool) : ACallsTo TC 63 [.bool b] σ (.int .i64 (if b then 0 else 80)) σ := by
  refine ACallsTo.of_body proofs_holds_ok (by simp) fun hw _ => ?_
  cases b with
  | true =>
    repeat' (first | refine SWp.seq ?_ | refine SWp.block ?_ | refine SWp.scope ?_ | (refine SWp.reg ?_; (simp (disch := first | omega | (simp only [List.length_set, List.length_append, List.length_cons, List.length_nil, List.length_map]; omega)) only [go_sem, Nat.reduceEqDiff, Nat.reduceBEq, Nat.reduceAdd, Nat.reduceMul, Nat.reduceSub, Nat.reduceLeDiff, Int.reduceToNat, Int.reducePow])) | refine SWp.condT rfl ?_ | refine SWp.condF rfl ?_ | (refine SWp.condD rfl (fun ht => ?_) (fun ht => ?_) <;> try (exfalso; omega)) | ((first | refine SWp.skip ?_ | refine SWp.exit ?_ | refine SWp.ret ?_); try (simp (disch := first | omega | (simp only [List.length_set, List.length_append, List.length_cons, List.length_nil, List.length_map]; omega)) only [go_sem, Nat.reduceEqDiff, Nat.reduceBEq, Nat.reduceAdd, Nat.reduceMul, Nat.reduceSub, Nat.reduceLeDiff, Int.reduceToNat, Int.reducePow])) | ((first | refine splitG (fun ht => ?_) (fun ht => ?_) | refine splitGB (fun ht => ?_) (fun ht => ?_) | refine splitR (fun ht => ?_) (fun ht => ?_) | refine splitRB (fun ht => ?_) (fun ht => ?_) | refine splitE (fun ht => ?_) (fun ht => ?_) | refine splitEB (fun ht => ?_) (fun ht => ?_) | refine splitC (fun ht => ?_) (fun ht => ?_) | refine splitCB (fun ht => ?_) (fun ht => ?_)) <;> (simp (disch := first | omega | (simp only [List.length_set, List.length_append, List.length_cons, List.length_nil, List.length_map]; omega)) only [go_sem, Nat.reduceEqDiff, Nat.reduceBEq, Nat.reduceAdd, Nat.reduceMul, Nat.reduceSub, Nat.reduceLeDiff, Int.reduceToNat, Int.reducePow])))
    exact DownV.same hw (rlB_ok _ rfl)
  | false =>
    repeat' (first | refine SWp.seq ?_ | refine SWp.block ?_ | refine SWp.scope ?_ | (refine SWp.reg ?_; (simp (disch := first | omega | (simp only [List.length_set, List.length_append, List.length_cons, List.length_nil, List.length_map]; omega)) only [go_sem, Nat.reduceEqDiff, Nat.reduceBEq, Nat.reduceAdd, Nat.reduceMul, Nat.reduceSub, Nat.reduceLeDiff, Int.reduceToNat, Int.reducePow])) | refine SWp.condT rfl ?_ | refine SWp.condF rfl ?_ | (refine SWp.condD rfl (fun ht => ?_) (fun ht => ?_) <;> try (exfalso; omega)) | ((first | refine SWp.skip ?_ | refine SWp.exit ?_ | refine SWp.ret ?_); try (simp (disch := first | omega | (simp only [List.length_set, List.length_append, List.length_cons, List.length_nil, List.length_map]; omega)) only [go_sem, Nat.reduceEqDiff, Nat.reduceBEq, Nat.reduceAdd, Nat.reduceMul, Nat.reduceSub, Nat.reduceLeDiff, Int.reduceToNat, Int.reducePow])) | ((first | refine splitG (fun ht => ?_) (fun ht => ?_) | refine splitGB (fun ht => ?_) (fun ht => ?_) | refine splitR (fun ht => ?_) (fun ht => ?_) | refine splitRB (fun ht => ?_) (fun ht => ?_) | refine splitE (fun ht => ?_) (fun ht => ?_) | refine splitEB (fun ht => ?_) (fun ht => ?_) | refine splitC (fun ht => ?_) (fun ht => ?_) | refine splitCB (fun ht => ?_) (fun ht => ?_)) <;> (simp (disch := first | omega | (simp only [List.length_set, List.length_append, List.length_cons, List.length_nil, List.length_map]; omega)) only [go_sem, Nat.reduceEqDiff, Nat.reduceBEq, Nat.reduceAdd, Nat.reduceMul, Nat.reduceSub, Nat.reduceLeDiff, Int.reduceToNat, Int.reducePow])))
    exact DownV.same hw (rlB_ok _ rfl)
end Am
end Go.Proofs.YtfofemaglndnjaaDoor
end
section
set_option linter.unusedSimpArgs false
set_option linter.unusedVariables false
/- Proofs: plain laws: a proof that Proof gives is checked; one of another length is not. -/
set_option linter.unusedSimpArgs false
set_option linter.unusedVariables false
namespace Go.Proofs.YtfofemaglndnjaaDoor
namespace Am
theorem pow_odd (j : Nat) : (2 ^ (j + 1) - 1) / 2 = 2 ^ j - 1 ∧ (2 ^ (j + 1) - 1) % 2 = 1 := by
  have := Nat.pow_succ (n := 2) (m := j)
  have h2 : 0 < 2 ^ j := Nat.pow_pos (by decide)
  omega
theorem lp_left : ∀ (j i last : Nat), i < 2 ^ j → 2 ^ j ≤ last → last < 2 ^ (j + 1) → lp i last = lp i (2 ^ j - 1) ++ [false]
  | 0, i, last, h1, h2, h3 => by
    simp at h1 h2 h3
    obtain rfl : i = 0 := by omega
    obtain rfl : last = 1 := by omega
    rw [lp_ne (by decide) (by decide) (by decide), show (1 : Nat) / 2 = 0 from rfl, show 2 ^ 0 - 1 = 0 from rfl, lp_zero]
    rfl
  | j + 1, i, last, h1, h2, h3 => by
    have e1 := Nat.pow_succ (n := 2) (m := j)
    have e2 := Nat.pow_succ (n := 2) (m := j + 1)
    have hp : 0 < 2 ^ j := Nat.pow_pos (by decide)
    obtain ⟨o1, o2⟩ := pow_odd j
    have ih := lp_left j (i / 2) (last / 2) (by omega) (by omega) (by omega)
    by_cases h : i % 2 = 1
    · rw [lp_odd h (by omega), lp_odd h (by omega), o1, ih]; rfl
    · rw [lp_ne h (by omega) (by omega), lp_ne h (by omega) (by omega), o1, ih]; rfl
theorem lp_right : ∀ (j i last : Nat), i ≤ last → last < 2 ^ j → lp (2 ^ j + i) (2 ^ j + last) = lp i last ++ [true]
  | 0, i, last, h1, h2 => by
    simp at h2
    subst h2
    obtain rfl : i = 0 := by omega
    rw [show 2 ^ 0 + 0 = 1 from rfl, lp_odd (by decide) (by decide), show (1 : Nat) / 2 = 0 from rfl, lp_zero]
    rfl
  | j + 1, i, last, h1, h2 => by
    have e1 := Nat.pow_succ (n := 2) (m := j)
    have hp : 0 < 2 ^ j := Nat.pow_pos (by decide)
    have ih := lp_right j (i / 2) (last / 2) (by omega) (by omega)
    have d1 : (2 ^ (j + 1) + i) / 2 = 2 ^ j + i / 2 := by omega
    have d2 : (2 ^ (j + 1) + last) / 2 = 2 ^ j + last / 2 := by omega
    by_cases h : i % 2 = 1
    · rw [lp_odd (i := 2 ^ (j + 1) + i) (by omega) (by omega), lp_odd h (by omega), d1, d2, ih]; rfl
    · by_cases he : i = last
      · subst he
        rw [lp_eq (i := 2 ^ (j + 1) + i) (by omega), lp_eq h, d1, ih]
      · rw [lp_ne (i := 2 ^ (j + 1) + i) (by omega) (by omega) (by omega), lp_ne h (by omega) he, d1, d2, ih]; rfl
def pathS (i last : Nat) : List Bool := lp (st i last).1 (st i last).2
theorem st_first : ∀ (f i last last' : Nat), i < f → (st i last).1 = (st i last').1
  | 0, _, _, _, h => by omega
  | f + 1, i, last, last', h => by
    by_cases h1 : i % 2 = 1
    · rw [st_odd h1, st_odd h1]; exact st_first f (i / 2) _ _ (by omega)
    · rw [st_even h1, st_even h1]
theorem path_left : ∀ (j i last : Nat), i < 2 ^ j → 2 ^ j ≤ last → last < 2 ^ (j + 1) → pathS i last = pathS i (2 ^ j - 1) ++ [false]
  | 0, i, last, h1, h2, h3 => by
    have h1' := h1
    simp at h1
    unfold pathS
    rw [st_even (by omega), st_even (by omega)]
    exact lp_left 0 i last h1' h2 h3
  | j + 1, i, last, h1, h2, h3 => by
    have e1 := Nat.pow_succ (n := 2) (m := j)
    have e2 := Nat.pow_succ (n := 2) (m := j + 1)
    have hp : 0 < 2 ^ j := Nat.pow_pos (by decide)
    obtain ⟨o1, o2⟩ := pow_odd j
    by_cases h : i % 2 = 1
    · have ih := path_left j (i / 2) (last / 2) (by omega) (by omega) (by omega)
      unfold pathS at ih ⊢
      rw [st_odd h, st_odd h, o1]; exact ih
    · unfold pathS
      rw [st_even h, st_even h]
      exact lp_left (j + 1) i last h1 h2 h3
theorem st_right : ∀ (j i last : Nat), i < last → last < 2 ^ j → ∃ k, st (2 ^ j + i) (2 ^ j + last) = (2 ^ k + (st i last).1, 2 ^ k + (st i last).2) ∧ (st i last).1 ≤ (st i last).2 ∧ (st i last).2 < 2 ^ k
  | 0, i, last, h1, h2 => by simp at h2; omega
  | j + 1, i, last, h1, h2 => by
    have e1 := Nat.pow_succ (n := 2) (m := j)
    have hp : 0 < 2 ^ j := Nat.pow_pos (by decide)
    by_cases h : i % 2 = 1
    · have ih := st_right j (i / 2) (last / 2) (by omega) (by omega)
      rw [st_odd h, st_odd (i := 2 ^ (j + 1) + i) (by omega), show (2 ^ (j + 1) + i) / 2 = 2 ^ j + i / 2 by omega, show (2 ^ (j + 1) + last) / 2 = 2 ^ j + last / 2 by omega]
      exact ih
    · rw [st_even h, st_even (i := 2 ^ (j + 1) + i) (by omega)]
      exact ⟨j + 1, rfl, by omega, h2⟩
theorem path_right {j i last : Nat} (h1 : i < last) (h2 : last < 2 ^ j) : pathS (2 ^ j + i) (2 ^ j + last) = pathS i last ++ [true] ∧ 0 < (st (2 ^ j + i) (2 ^ j + last)).1 := by
  obtain ⟨k, e, h3, h4⟩ := st_right j i last h1 h2
  unfold pathS
  rw [e]
  have hp : 0 < 2 ^ k := Nat.pow_pos (by decide)
  exact ⟨lp_right k _ _ h3 h4, by omega⟩
theorem st_full : ∀ (j : Nat), st (2 ^ j - 1) (2 ^ j - 1) = (0, 0)
  | 0 => by rw [st_even (by decide)]
  | j + 1 => by
    obtain ⟨o1, o2⟩ := pow_odd j
    rw [st_odd o2, o1]; exact st_full j
theorem run_snoc (t : Bool) (h : List UInt8) : ∀ (p : List Bool) (ps : List (List UInt8)) (a b : List UInt8), run (p ++ [t]) (ps ++ [h]) a b = (run p ps a b).map fun x => if t then (nodeS h x.1, nodeS h x.2) else (x.1, nodeS x.2 h)
  | [], [], a, b => by cases t <;> rfl
  | [], y :: ps, a, b => by
    have : ∀ a b, run [] (ps ++ [h]) a b = none := fun a b => by cases ps <;> rfl
    cases t <;> simp [run, this]
  | x :: p, [], a, b => by
    have : ∀ a b, run (p ++ [t]) [] a b = none := fun a b => by cases p <;> cases t <;> simp [run]
    cases x <;> simp [run, this]
  | x :: p, y :: ps, a, b => by
    have ih := run_snoc t h p ps
    cases x <;> simp [run, ih]
theorem run_len : ∀ (p : List Bool) (ps : List (List UInt8)) (a b : List UInt8) (r : List UInt8 × List UInt8), run p ps a b = some r → ps.length = p.length
  | [], [], _, _, _, _ => rfl
  | [], _ :: _, _, _, _, h => by simp [run] at h
  | x :: p, [], _, _, _, h => by cases x <;> simp [run] at h
  | x :: p, y :: ps, a, b, r, h => by
    cases x
    · simp only [run] at h; simp [run_len p ps _ _ r h]
    · simp only [run] at h; simp [run_len p ps _ _ r h]
/-- With the first one given, or the older root. -/
def runB (u : Bool) (p : List Bool) (ps : List (List UInt8)) (o : List UInt8) : Option (List UInt8 × List UInt8) :=
  if u then match ps with
    | [] => none
    | h :: ps => run p ps h h
  else run p ps o o
theorem chkG_is (i last : Nat) (o : List UInt8) (ps : List (List UInt8)) : chkG i last o ps = runB (decide (0 < i)) (lp i last) ps o := by
  unfold chkG runB
  by_cases h : 0 < i <;> simp [h] <;> cases ps <;> rfl
theorem runB_snoc (u t : Bool) (h : List UInt8) (p : List Bool) (ps : List (List UInt8)) (o : List UInt8) :
    runB u (p ++ [t]) (ps ++ [h]) o = (runB u p ps o).map fun x => if t then (nodeS h x.1, nodeS h x.2) else (x.1, nodeS x.2 h) := by
  unfold runB
  cases u with
  | false => exact run_snoc t h p ps o o
  | true =>
    cases ps with
    | nil =>
      have : run (p ++ [t]) [] h h = none := by cases p <;> cases t <;> simp [run]
      simp [this]
    | cons y ps => exact run_snoc t h p ps y y
theorem runB_len {u : Bool} {p : List Bool} {ps : List (List UInt8)} {o : List UInt8} {r : List UInt8 × List UInt8} (h : runB u p ps o = some r) : ps.length = p.length + (if u then 1 else 0) := by
  unfold runB at h
  cases u with
  | false => simpa using run_len _ _ _ _ _ h
  | true =>
    cases ps with
    | nil => simp at h
    | cons y ps => simp at h; simp [run_len _ _ _ _ _ h]
theorem split_pow {n : Nat} (h : 2 ≤ n) : ∃ j, splitS n = 2 ^ j ∧ 2 ^ j < n ∧ n ≤ 2 ^ (j + 1) := by
  obtain ⟨s1, s2, s3⟩ := split_spec h
  refine ⟨Nat.log2 (n - 1), ?_, ?_, ?_⟩
  · unfold splitS; rw [if_neg (by omega)]
  · have : splitS n = 2 ^ Nat.log2 (n - 1) := by unfold splitS; rw [if_neg (by omega)]
    omega
  · have : splitS n = 2 ^ Nat.log2 (n - 1) := by unfold splitS; rw [if_neg (by omega)]
    have e := Nat.pow_succ (n := 2) (m := Nat.log2 (n - 1))
    omega
/-- What Proof gives says the two roots. -/
theorem honest : ∀ (f : Nat) (l : List (List UInt8)) (m : Nat) (kn : Bool) (o : List UInt8), l.length < f → 0 < m → m ≤ l.length → (m < l.length ∨ ∃ j, l.length = 2 ^ j) → (kn = true → o = rootS (l.take m)) →
    runB (!kn || decide (0 < (st (m - 1) (l.length - 1)).1)) (pathS (m - 1) (l.length - 1)) (subS l m kn) o = some (rootS (l.take m), rootS l)
  | 0, _, _, _, _, h, _, _, _, _ => by omega
  | f + 1, l, m, kn, o, hf, h0, hm, hc, ho => by
    by_cases h1 : m = l.length
    · obtain ⟨j, hj⟩ := hc.resolve_left (by omega)
      subst h1
      have e : st (l.length - 1) (l.length - 1) = (0, 0) := by rw [hj]; exact st_full j
      unfold pathS
      rw [e, subS_all, List.take_of_length_le (Nat.le_refl _)]
      simp only [lp_zero]
      rw [List.take_of_length_le (Nat.le_refl _)] at ho
      cases kn with
      | true => rw [ho rfl]; rfl
      | false => rfl
    · obtain ⟨j, hk, k1, k2⟩ := split_pow (n := l.length) (by omega)
      have e2 := Nat.pow_succ (n := 2) (m := j)
      have hp : 0 < 2 ^ j := Nat.pow_pos (by decide)
      have hR : rootS l = nodeS (rootS (l.take (2 ^ j))) (rootS (l.drop (2 ^ j))) := by rw [rootS_two (by omega), hk]
      by_cases h2 : m ≤ 2 ^ j
      · have hs := subS_left (l := l) (m := m) (kn := kn) h0 (by omega) (by rw [hk]; exact h2)
        rw [hk] at hs
        have hl : (l.take (2 ^ j)).length = 2 ^ j := by rw [List.length_take]; omega
        have et : (l.take (2 ^ j)).take m = l.take m := by rw [List.take_take, Nat.min_eq_left h2]
        have ih := honest f (l.take (2 ^ j)) m kn o (by omega) h0 (by omega) (.inr ⟨j, hl⟩) (by rw [et]; exact ho)
        rw [hl, et] at ih
        rw [hs, path_left j (m - 1) (l.length - 1) (by omega) (by omega) (by omega), runB_snoc, st_first m (m - 1) (l.length - 1) (2 ^ j - 1) (by omega), ih, hR]
        rfl
      · have hs := subS_right (l := l) (m := m) (kn := kn) (by omega) (by rw [hk]; exact h2)
        rw [hk] at hs
        have hl : (l.drop (2 ^ j)).length = l.length - 2 ^ j := by rw [List.length_drop]
        have ih := honest f (l.drop (2 ^ j)) (m - 2 ^ j) false o (by omega) (by omega) (by omega) (.inl (by omega)) (by intro h; cases h)
        rw [hl] at ih
        obtain ⟨p1, p2⟩ := path_right (j := j) (i := m - 2 ^ j - 1) (last := l.length - 2 ^ j - 1) (by omega) (by omega)
        rw [show 2 ^ j + (m - 2 ^ j - 1) = m - 1 by omega, show 2 ^ j + (l.length - 2 ^ j - 1) = l.length - 1 by omega] at p1 p2
        have hRm : rootS (l.take m) = nodeS (rootS (l.take (2 ^ j))) (rootS ((l.drop (2 ^ j)).take (m - 2 ^ j))) := by
          have hlm : (l.take m).length = m := by rw [List.length_take]; omega
          rw [rootS_two (by omega), hlm, split_uniq (n := m) (j := j) (by omega) (by omega), List.take_take, Nat.min_eq_left (by omega), List.drop_take]
        rw [hs, p1, runB_snoc, decide_eq_true p2, Bool.or_true]
        simp only [Bool.not_false, Bool.true_or] at ih
        rw [ih, hR, hRm]
        rfl
theorem chkS_is (i last : Nat) (o : List UInt8) (ps : List (List UInt8)) : chkS i last o ps = runB (decide (0 < (st i last).1)) (pathS i last) ps o := chkG_is _ _ _ _
theorem honest_chk {l : List (List UInt8)} {m : Nat} (hm : m ≤ l.length) (hl : l.length ≤ 4096) : chkI m l.length (rootS (l.take m)) (rootS l) (proofL l m) = 0 := by
  unfold chkI
  rw [if_neg (by omega)]
  by_cases h0 : m = 0
  · subst h0
    rw [if_pos (show ((0 : Nat) : Int) = 0 from rfl), if_pos]
    refine ⟨by unfold proofL; rw [if_neg (by simp)], by simp, ?_⟩
    cases l with
    | nil => exact .inr rfl
    | cons a l => exact .inl (by simp only [List.length_cons]; omega)
  · rw [if_neg (by omega)]
    by_cases h1 : m = l.length
    · subst h1
      rw [if_pos rfl, if_pos]
      exact ⟨by unfold proofL; rw [if_neg (by omega)], by rw [List.take_of_length_le (Nat.le_refl _)]⟩
    · rw [if_neg (by omega)]
      have e : proofL l m = subS l m true := by unfold proofL; rw [if_pos (by omega)]; rfl
      have := honest (l.length + 1) l m true (rootS (l.take m)) (by omega) (by omega) hm (.inl (by omega)) (fun _ => rfl)
      simp only [Bool.not_true, Bool.false_or] at this
      rw [e, Int.toNat_natCast, Int.toNat_natCast, chkS_is, this]
      simp [fitI]
/-- One of another length. -/
theorem other_chk {l qs : List (List UInt8)} {m : Nat} {o nw : List UInt8} (hm : m ≤ l.length) (hl : l.length ≤ 4096) (hq : qs.length ≠ (proofL l m).length) : chkI m l.length o nw qs = 80 := by
  unfold chkI
  rw [if_neg (by omega)]
  have hne : proofL l m = [] → qs ≠ [] := fun h e => hq (by rw [h, e])
  by_cases h0 : m = 0
  · subst h0
    rw [if_pos (show ((0 : Nat) : Int) = 0 from rfl), if_neg (fun h => hne (by unfold proofL; rw [if_neg (by simp)]) h.1)]
  · rw [if_neg (by omega)]
    by_cases h1 : m = l.length
    · subst h1
      rw [if_pos rfl, if_neg (fun h => hne (by unfold proofL; rw [if_neg (by omega)]) h.1)]
    · rw [if_neg (by omega)]
      have e : proofL l m = subS l m true := by unfold proofL; rw [if_pos (by omega)]; rfl
      have h2 := honest (l.length + 1) l m true (rootS (l.take m)) (by omega) (by omega) hm (.inl (by omega)) (fun _ => rfl)
      simp only [Bool.not_true, Bool.false_or] at h2
      have h3 := runB_len h2
      rw [Int.toNat_natCast, Int.toNat_natCast, chkS_is]
      cases hr : runB (decide (0 < (st (m - 1) (l.length - 1)).1)) (pathS (m - 1) (l.length - 1)) qs o with
      | none => rfl
      | some r => exact absurd (runB_len hr) (by rw [e] at hq; omega)
theorem sub_bound : ∀ (j : Nat) (l : List (List UInt8)) (m : Nat) (kn : Bool), l.length ≤ 2 ^ j → 0 < m → m ≤ l.length → (subS l m kn).length ≤ j + 1
  | 0, l, m, kn, h, h0, h1 => by
    obtain rfl : m = l.length := by simp at h; omega
    rw [subS_all]; split <;> simp
  | j + 1, l, m, kn, h, h0, h1 => by
    by_cases he : m = l.length
    · subst he; rw [subS_all]; split <;> simp
    · obtain ⟨i, hk, k1, k2⟩ := split_pow (n := l.length) (by omega)
      have hij : i ≤ j := by
        have : 2 ^ i < 2 ^ (j + 1) := by omega
        have := (Nat.pow_lt_pow_iff_right (by decide : 1 < 2)).1 this
        omega
      have hle : 2 ^ i ≤ 2 ^ j := Nat.pow_le_pow_right (by decide) hij
      have e2 := Nat.pow_succ (n := 2) (m := i)
      by_cases h2 : m ≤ 2 ^ i
      · have hs := subS_left (l := l) (m := m) (kn := kn) h0 (by omega) (by rw [hk]; exact h2)
        rw [hk] at hs
        have := sub_bound j (l.take (2 ^ i)) m kn (by rw [List.length_take]; omega) h0 (by rw [List.length_take]; omega)
        rw [hs]; simp; omega
      · have hs := subS_right (l := l) (m := m) (kn := kn) (by omega) (by rw [hk]; exact h2)
        rw [hk] at hs
        have := sub_bound j (l.drop (2 ^ i)) (m - 2 ^ i) false (by rw [List.length_drop]; omega) (by omega) (by rw [List.length_drop]; omega)
        rw [hs]; simp; omega
theorem proofL_bound {l : List (List UInt8)} {m : Nat} (hm : m ≤ l.length) (hl : l.length ≤ 4096) : (proofL l m).length ≤ 13 := by
  unfold proofL
  split
  · rename_i h
    exact sub_bound 12 l m true hl (by omega) (by omega)
  · simp
end Am
end Go.Proofs.YtfofemaglndnjaaDoor
end
section
set_option linter.unusedSimpArgs false
set_option linter.unusedVariables false
/- Proofs: contract: Check of the program. -/
set_option linter.unusedSimpArgs false
set_option linter.unusedVariables false
namespace Go.Proofs.YtfofemaglndnjaaDoor
namespace Am
/-- What Check has in memory. -/
structure ChkM (ia ib : Nat) (σ σ' : Store) (o nw : List UInt8) (pv : AV) (ps : List (List UInt8)) (a b : List UInt8) : Prop where
  hab : (ia = 3 ∧ ib = 4) ∨ (ia = 4 ∧ ib = 3)
  len : σ.length + 5 ≤ σ'.length
  keep : ∀ q, q < σ.length → σ'[q]? = σ[q]?
  g0 : σ'[σ.length]? = some (some [byteEsC o])
  g1 : σ'[σ.length + 1]? = some (some [byteEsC nw])
  g2 : σ'[σ.length + 2]? = some (some [[pv]])
  g3 : σ'[σ.length + ia]? = some (some [byteEsC a])
  g4 : σ'[σ.length + ib]? = some (some [byteEsC b])
  hp : SlV 32 (hrows ps) pv
  ha : a.length = 32
  hb : b.length = 32
theorem ChkM.app {ia ib : Nat} {σ σ' y : Store} {o nw : List UInt8} {pv : AV} {ps : List (List UInt8)} {a b : List UInt8} (h : ChkM ia ib σ σ' o nw pv ps a b) : ChkM ia ib σ (σ' ++ y) o nw pv ps a b := by
  have hl := h.len
  have hab := h.hab
  refine ⟨hab, by rw [List.length_append]; omega, fun q hq => ?_, ?_, ?_, ?_, ?_, ?_, h.hp, h.ha, h.hb⟩
  · rw [gapp (by omega)]; exact h.keep q hq
  · rw [gapp (by omega)]; exact h.g0
  · rw [gapp (by omega)]; exact h.g1
  · rw [gapp (by omega)]; exact h.g2
  · rw [gapp (by omega)]; exact h.g3
  · rw [gapp (by omega)]; exact h.g4
theorem ChkM.setp {ia ib : Nat} {σ σ' : Store} {o nw : List UInt8} {pv : AV} {ps : List (List UInt8)} {a b : List UInt8} (h : ChkM ia ib σ σ' o nw pv ps a b) {qv : AV} {qs : List (List UInt8)} (hq : SlV 32 (hrows qs) qv) : ChkM ia ib σ (σ'.set (σ.length + 2) (some [[qv]])) o nw qv qs a b := by
  have hl := h.len
  have hab := h.hab
  refine ⟨hab, by rw [List.length_set]; omega, fun q hq => ?_, ?_, ?_, ?_, ?_, ?_, hq, h.ha, h.hb⟩
  · rw [gset_ne (by omega)]; exact h.keep q hq
  · rw [gset_ne (by omega)]; exact h.g0
  · rw [gset_ne (by omega)]; exact h.g1
  · rw [gset_eq (by omega)]
  · rw [gset_ne (by omega)]; exact h.g3
  · rw [gset_ne (by omega)]; exact h.g4
theorem ChkM.seta {ia ib : Nat} {σ σ' : Store} {o nw : List UInt8} {pv : AV} {ps : List (List UInt8)} {a b : List UInt8} (h : ChkM ia ib σ σ' o nw pv ps a b) {a' : List UInt8} (ha : a'.length = 32) : ChkM ia ib σ (σ'.set (σ.length + ia) (some [byteEsC a'])) o nw pv ps a' b := by
  have hl := h.len
  have hab := h.hab
  refine ⟨hab, by rw [List.length_set]; omega, fun q hq => ?_, ?_, ?_, ?_, ?_, ?_, h.hp, ha, h.hb⟩
  · rw [gset_ne (by omega)]; exact h.keep q hq
  · rw [gset_ne (by omega)]; exact h.g0
  · rw [gset_ne (by omega)]; exact h.g1
  · rw [gset_ne (by omega)]; exact h.g2
  · rw [gset_eq (by omega)]
  · rw [gset_ne (by omega)]; exact h.g4
theorem ChkM.setb {ia ib : Nat} {σ σ' : Store} {o nw : List UInt8} {pv : AV} {ps : List (List UInt8)} {a b : List UInt8} (h : ChkM ia ib σ σ' o nw pv ps a b) {b' : List UInt8} (hb : b'.length = 32) : ChkM ia ib σ (σ'.set (σ.length + ib) (some [byteEsC b'])) o nw pv ps a b' := by
  have hl := h.len
  have hab := h.hab
  refine ⟨hab, by rw [List.length_set]; omega, fun q hq => ?_, ?_, ?_, ?_, ?_, ?_, h.hp, h.ha, hb⟩
  · rw [gset_ne (by omega)]; exact h.keep q hq
  · rw [gset_ne (by omega)]; exact h.g0
  · rw [gset_ne (by omega)]; exact h.g1
  · rw [gset_ne (by omega)]; exact h.g2
  · rw [gset_ne (by omega)]; exact h.g3
  · rw [gset_eq (by omega)]
theorem ChkM.fin {ia ib : Nat} {σ σ' : Store} {o nw : List UInt8} {pv : AV} {ps : List (List UInt8)} {a b : List UInt8} (h : ChkM ia ib σ σ' o nw pv ps a b) (hw : Wf σ.length σ) {i : Int} : DownV σ.length (.int .i64 i) σ' (.int .i64 i) σ := by
  have hl := h.len
  have hab := h.hab
  obtain ⟨y, rfl⟩ := ext_of (by omega) h.keep
  exact DownV.pure hw (rlB_ok _ rfl)
theorem SlV.cells {sz : Nat} {es : List (List AV)} {x : AV} (h : SlV sz es x) : cellsOf x = some [x] := by
  rcases h with ⟨rfl, rfl⟩ | ⟨ex, rfl⟩ <;> rfl
theorem h32_nil : H32 [] := fun _ h => by simp at h
theorem downI {σ σ' : Store} {i : Int} (hw : Wf σ.length σ) (h : σ <+: σ') : DownV σ.length (.int .i64 i) σ' (.int .i64 i) σ := by
  obtain ⟨y, rfl⟩ := h
  exact DownV.pure hw (rlB_ok _ rfl)
set_option maxHeartbeats 8000000 in
theorem Check_bad (σ : Store) (m n : Int) (o nw : List UInt8) (x : AV) (es : List (List AV)) (hx : SlV 32 es x) (h : n < 0 ∨ 4096 < n ∨ m < 0 ∨ n < m) :
    ACallsTo TC 19 [.int .i64 m, .int .i64 n, .agg (byteEsC o), .agg (byteEsC nw), x] σ (.int .i64 2) σ := by
  have r0 := hx.cells
  unfold cellsOf at r0
  refine ACallsTo.of_body proofs_Check_ok (by simp) fun hw _ => ?_
  repeat' (first | refine SWp.seq ?_ | refine SWp.block ?_ | refine SWp.scope ?_ | (refine SWp.reg ?_; (simp (disch := first | omega | (simp only [List.length_set, List.length_append, List.length_cons, List.length_nil, List.length_map]; omega)) only [go_sem, Nat.reduceEqDiff, Nat.reduceBEq, Nat.reduceAdd, Nat.reduceMul, Nat.reduceSub, Nat.reduceLeDiff, Int.reduceToNat, Int.reducePow, r0])) | refine SWp.condT rfl ?_ | refine SWp.condF rfl ?_ | (refine SWp.condD rfl (fun ht => ?_) (fun ht => ?_) <;> try (exfalso; omega)) | ((first | refine SWp.skip ?_ | refine SWp.exit ?_ | refine SWp.ret ?_); try (simp (disch := first | omega | (simp only [List.length_set, List.length_append, List.length_cons, List.length_nil, List.length_map]; omega)) only [go_sem, Nat.reduceEqDiff, Nat.reduceBEq, Nat.reduceAdd, Nat.reduceMul, Nat.reduceSub, Nat.reduceLeDiff, Int.reduceToNat, Int.reducePow, r0])) | ((first | refine splitG (fun ht => ?_) (fun ht => ?_) | refine splitGB (fun ht => ?_) (fun ht => ?_) | refine splitR (fun ht => ?_) (fun ht => ?_) | refine splitRB (fun ht => ?_) (fun ht => ?_) | refine splitE (fun ht => ?_) (fun ht => ?_) | refine splitEB (fun ht => ?_) (fun ht => ?_) | refine splitC (fun ht => ?_) (fun ht => ?_) | refine splitCB (fun ht => ?_) (fun ht => ?_)) <;> (simp (disch := first | omega | (simp only [List.length_set, List.length_append, List.length_cons, List.length_nil, List.length_map]; omega)) only [go_sem, Nat.reduceEqDiff, Nat.reduceBEq, Nat.reduceAdd, Nat.reduceMul, Nat.reduceSub, Nat.reduceLeDiff, Int.reduceToNat, Int.reducePow, r0])))
  all_goals (refine downI hw ?_; simp)
set_option maxHeartbeats 8000000 in
theorem Check_zero (σ : Store) (n : Int) (o nw : List UInt8) (x : AV) (ps : List (List UInt8)) (hx : SlV 32 (hrows ps) x) (ho : o.length = 32) (hn : nw.length = 32) (h0 : 0 ≤ n) (h1 : n ≤ 4096) (hl : ps.length < 1000000) :
    ACallsTo TC 19 [.int .i64 0, .int .i64 n, .agg (byteEsC o), .agg (byteEsC nw), x] σ (.int .i64 (if ps = [] ∧ o = rootS [] ∧ (0 < n ∨ nw = o) then 0 else 80)) σ := by
  have r0 := hx.cells
  unfold cellsOf at r0
  have r1 := hx.len
  rw [hrows_len] at r1
  unfold rLenSl at r1
  have c1 := byteEsC_len o
  have c2 := byteEsC_len nw
  rw [ho] at c1
  rw [hn] at c2
  have hR : ∀ σ, ACallsTo TC 22 [.nilsl] σ (.agg (byteEsC (rootS []))) σ := fun σ => trees_Root_to σ [] .nilsl (.inl ⟨rfl, rfl⟩) (fun _ h => by simp at h) (by simp)
  have k1 := kinds32 ho
  have k2 := kinds32 hn
  have k3 := kinds32 (rootS_len (h32_nil))
  have e1 := eq_hash o (rootS [])
  have e2 := eq_hash nw o
  by_cases q1 : ps = []
  · have q1' : ps.length = 0 := by rw [q1]; rfl
    by_cases q2 : o = rootS []
    · rw [decide_eq_true q2] at e1
      by_cases q3 : 0 < n
      · rw [if_pos ⟨q1, q2, .inl q3⟩]
        generalize byteEsC (rootS []) = rr at *
        generalize byteEsC o = ro at *
        generalize byteEsC nw = rn at *
        refine ACallsTo.of_body proofs_Check_ok (by simp) fun hw _ => ?_
        repeat' (first | (apply callW.any; (first | exact (hR _) | exact (holds_to _ true)); all_goals try (simp (disch := first | omega | (simp only [List.length_set, List.length_append, List.length_cons, List.length_nil, List.length_map]; omega)) only [go_sem, Nat.reduceEqDiff, Nat.reduceBEq, Nat.reduceAdd, Nat.reduceMul, Nat.reduceSub, Nat.reduceLeDiff, Int.reduceToNat, Int.reducePow, r0, r1, c1, c2, k1, k2, k3, e1, q1'])) | refine SWp.seq ?_ | refine SWp.block ?_ | refine SWp.scope ?_ | (refine SWp.reg ?_; (simp (disch := first | omega | (simp only [List.length_set, List.length_append, List.length_cons, List.length_nil, List.length_map]; omega)) only [go_sem, Nat.reduceEqDiff, Nat.reduceBEq, Nat.reduceAdd, Nat.reduceMul, Nat.reduceSub, Nat.reduceLeDiff, Int.reduceToNat, Int.reducePow, r0, r1, c1, c2, k1, k2, k3, e1, q1'])) | refine SWp.condT rfl ?_ | refine SWp.condF rfl ?_ | (refine SWp.condD rfl (fun ht => ?_) (fun ht => ?_) <;> try (exfalso; omega)) | ((first | refine SWp.skip ?_ | refine SWp.exit ?_ | refine SWp.ret ?_); try (simp (disch := first | omega | (simp only [List.length_set, List.length_append, List.length_cons, List.length_nil, List.length_map]; omega)) only [go_sem, Nat.reduceEqDiff, Nat.reduceBEq, Nat.reduceAdd, Nat.reduceMul, Nat.reduceSub, Nat.reduceLeDiff, Int.reduceToNat, Int.reducePow, r0, r1, c1, c2, k1, k2, k3, e1, q1'])) | ((first | refine splitG (fun ht => ?_) (fun ht => ?_) | refine splitGB (fun ht => ?_) (fun ht => ?_) | refine splitR (fun ht => ?_) (fun ht => ?_) | refine splitRB (fun ht => ?_) (fun ht => ?_) | refine splitE (fun ht => ?_) (fun ht => ?_) | refine splitEB (fun ht => ?_) (fun ht => ?_) | refine splitC (fun ht => ?_) (fun ht => ?_) | refine splitCB (fun ht => ?_) (fun ht => ?_)) <;> (simp (disch := first | omega | (simp only [List.length_set, List.length_append, List.length_cons, List.length_nil, List.length_map]; omega)) only [go_sem, Nat.reduceEqDiff, Nat.reduceBEq, Nat.reduceAdd, Nat.reduceMul, Nat.reduceSub, Nat.reduceLeDiff, Int.reduceToNat, Int.reducePow, r0, r1, c1, c2, k1, k2, k3, e1, q1'])))
        all_goals (refine downI hw ?_; simp)
      · by_cases q4 : nw = o
        · rw [decide_eq_true q4] at e2
          rw [if_pos ⟨q1, q2, .inr q4⟩]
          generalize byteEsC (rootS []) = rr at *
          generalize byteEsC o = ro at *
          generalize byteEsC nw = rn at *
          refine ACallsTo.of_body proofs_Check_ok (by simp) fun hw _ => ?_
          repeat' (first | (apply callW.any; (first | exact (hR _) | exact (holds_to _ true)); all_goals try (simp (disch := first | omega | (simp only [List.length_set, List.length_append, List.length_cons, List.length_nil, List.length_map]; omega)) only [go_sem, Nat.reduceEqDiff, Nat.reduceBEq, Nat.reduceAdd, Nat.reduceMul, Nat.reduceSub, Nat.reduceLeDiff, Int.reduceToNat, Int.reducePow, r0, r1, c1, c2, k1, k2, k3, e1, e2, q1'])) | refine SWp.seq ?_ | refine SWp.block ?_ | refine SWp.scope ?_ | (refine SWp.reg ?_; (simp (disch := first | omega | (simp only [List.length_set, List.length_append, List.length_cons, List.length_nil, List.length_map]; omega)) only [go_sem, Nat.reduceEqDiff, Nat.reduceBEq, Nat.reduceAdd, Nat.reduceMul, Nat.reduceSub, Nat.reduceLeDiff, Int.reduceToNat, Int.reducePow, r0, r1, c1, c2, k1, k2, k3, e1, e2, q1'])) | refine SWp.condT rfl ?_ | refine SWp.condF rfl ?_ | (refine SWp.condD rfl (fun ht => ?_) (fun ht => ?_) <;> try (exfalso; omega)) | ((first | refine SWp.skip ?_ | refine SWp.exit ?_ | refine SWp.ret ?_); try (simp (disch := first | omega | (simp only [List.length_set, List.length_append, List.length_cons, List.length_nil, List.length_map]; omega)) only [go_sem, Nat.reduceEqDiff, Nat.reduceBEq, Nat.reduceAdd, Nat.reduceMul, Nat.reduceSub, Nat.reduceLeDiff, Int.reduceToNat, Int.reducePow, r0, r1, c1, c2, k1, k2, k3, e1, e2, q1'])) | ((first | refine splitG (fun ht => ?_) (fun ht => ?_) | refine splitGB (fun ht => ?_) (fun ht => ?_) | refine splitR (fun ht => ?_) (fun ht => ?_) | refine splitRB (fun ht => ?_) (fun ht => ?_) | refine splitE (fun ht => ?_) (fun ht => ?_) | refine splitEB (fun ht => ?_) (fun ht => ?_) | refine splitC (fun ht => ?_) (fun ht => ?_) | refine splitCB (fun ht => ?_) (fun ht => ?_)) <;> (simp (disch := first | omega | (simp only [List.length_set, List.length_append, List.length_cons, List.length_nil, List.length_map]; omega)) only [go_sem, Nat.reduceEqDiff, Nat.reduceBEq, Nat.reduceAdd, Nat.reduceMul, Nat.reduceSub, Nat.reduceLeDiff, Int.reduceToNat, Int.reducePow, r0, r1, c1, c2, k1, k2, k3, e1, e2, q1'])))
          all_goals (refine downI hw ?_; simp)
        · rw [decide_eq_false q4] at e2
          rw [if_neg (fun h => h.2.2.elim q3 q4)]
          generalize byteEsC (rootS []) = rr at *
          generalize byteEsC o = ro at *
          generalize byteEsC nw = rn at *
          refine ACallsTo.of_body proofs_Check_ok (by simp) fun hw _ => ?_
          repeat' (first | (apply callW.any; (first | exact (hR _) | exact (holds_to _ false)); all_goals try (simp (disch := first | omega | (simp only [List.length_set, List.length_append, List.length_cons, List.length_nil, List.length_map]; omega)) only [go_sem, Nat.reduceEqDiff, Nat.reduceBEq, Nat.reduceAdd, Nat.reduceMul, Nat.reduceSub, Nat.reduceLeDiff, Int.reduceToNat, Int.reducePow, r0, r1, c1, c2, k1, k2, k3, e1, e2, q1'])) | refine SWp.seq ?_ | refine SWp.block ?_ | refine SWp.scope ?_ | (refine SWp.reg ?_; (simp (disch := first | omega | (simp only [List.length_set, List.length_append, List.length_cons, List.length_nil, List.length_map]; omega)) only [go_sem, Nat.reduceEqDiff, Nat.reduceBEq, Nat.reduceAdd, Nat.reduceMul, Nat.reduceSub, Nat.reduceLeDiff, Int.reduceToNat, Int.reducePow, r0, r1, c1, c2, k1, k2, k3, e1, e2, q1'])) | refine SWp.condT rfl ?_ | refine SWp.condF rfl ?_ | (refine SWp.condD rfl (fun ht => ?_) (fun ht => ?_) <;> try (exfalso; omega)) | ((first | refine SWp.skip ?_ | refine SWp.exit ?_ | refine SWp.ret ?_); try (simp (disch := first | omega | (simp only [List.length_set, List.length_append, List.length_cons, List.length_nil, List.length_map]; omega)) only [go_sem, Nat.reduceEqDiff, Nat.reduceBEq, Nat.reduceAdd, Nat.reduceMul, Nat.reduceSub, Nat.reduceLeDiff, Int.reduceToNat, Int.reducePow, r0, r1, c1, c2, k1, k2, k3, e1, e2, q1'])) | ((first | refine splitG (fun ht => ?_) (fun ht => ?_) | refine splitGB (fun ht => ?_) (fun ht => ?_) | refine splitR (fun ht => ?_) (fun ht => ?_) | refine splitRB (fun ht => ?_) (fun ht => ?_) | refine splitE (fun ht => ?_) (fun ht => ?_) | refine splitEB (fun ht => ?_) (fun ht => ?_) | refine splitC (fun ht => ?_) (fun ht => ?_) | refine splitCB (fun ht => ?_) (fun ht => ?_)) <;> (simp (disch := first | omega | (simp only [List.length_set, List.length_append, List.length_cons, List.length_nil, List.length_map]; omega)) only [go_sem, Nat.reduceEqDiff, Nat.reduceBEq, Nat.reduceAdd, Nat.reduceMul, Nat.reduceSub, Nat.reduceLeDiff, Int.reduceToNat, Int.reducePow, r0, r1, c1, c2, k1, k2, k3, e1, e2, q1'])))
          all_goals (refine downI hw ?_; simp)
    · rw [decide_eq_false q2] at e1
      rw [if_neg (fun h => q2 h.2.1)]
      generalize byteEsC (rootS []) = rr at *
      generalize byteEsC o = ro at *
      generalize byteEsC nw = rn at *
      refine ACallsTo.of_body proofs_Check_ok (by simp) fun hw _ => ?_
      repeat' (first | (apply callW.any; (first | exact (hR _) | exact (holds_to _ false)); all_goals try (simp (disch := first | omega | (simp only [List.length_set, List.length_append, List.length_cons, List.length_nil, List.length_map]; omega)) only [go_sem, Nat.reduceEqDiff, Nat.reduceBEq, Nat.reduceAdd, Nat.reduceMul, Nat.reduceSub, Nat.reduceLeDiff, Int.reduceToNat, Int.reducePow, r0, r1, c1, c2, k1, k2, k3, e1, q1'])) | refine SWp.seq ?_ | refine SWp.block ?_ | refine SWp.scope ?_ | (refine SWp.reg ?_; (simp (disch := first | omega | (simp only [List.length_set, List.length_append, List.length_cons, List.length_nil, List.length_map]; omega)) only [go_sem, Nat.reduceEqDiff, Nat.reduceBEq, Nat.reduceAdd, Nat.reduceMul, Nat.reduceSub, Nat.reduceLeDiff, Int.reduceToNat, Int.reducePow, r0, r1, c1, c2, k1, k2, k3, e1, q1'])) | refine SWp.condT rfl ?_ | refine SWp.condF rfl ?_ | (refine SWp.condD rfl (fun ht => ?_) (fun ht => ?_) <;> try (exfalso; omega)) | ((first | refine SWp.skip ?_ | refine SWp.exit ?_ | refine SWp.ret ?_); try (simp (disch := first | omega | (simp only [List.length_set, List.length_append, List.length_cons, List.length_nil, List.length_map]; omega)) only [go_sem, Nat.reduceEqDiff, Nat.reduceBEq, Nat.reduceAdd, Nat.reduceMul, Nat.reduceSub, Nat.reduceLeDiff, Int.reduceToNat, Int.reducePow, r0, r1, c1, c2, k1, k2, k3, e1, q1'])) | ((first | refine splitG (fun ht => ?_) (fun ht => ?_) | refine splitGB (fun ht => ?_) (fun ht => ?_) | refine splitR (fun ht => ?_) (fun ht => ?_) | refine splitRB (fun ht => ?_) (fun ht => ?_) | refine splitE (fun ht => ?_) (fun ht => ?_) | refine splitEB (fun ht => ?_) (fun ht => ?_) | refine splitC (fun ht => ?_) (fun ht => ?_) | refine splitCB (fun ht => ?_) (fun ht => ?_)) <;> (simp (disch := first | omega | (simp only [List.length_set, List.length_append, List.length_cons, List.length_nil, List.length_map]; omega)) only [go_sem, Nat.reduceEqDiff, Nat.reduceBEq, Nat.reduceAdd, Nat.reduceMul, Nat.reduceSub, Nat.reduceLeDiff, Int.reduceToNat, Int.reducePow, r0, r1, c1, c2, k1, k2, k3, e1, q1'])))
      all_goals (refine downI hw ?_; simp)
  · have q1' : ¬ (ps.length : Int) = 0 := by intro e; exact q1 (List.eq_nil_of_length_eq_zero (by omega))
    have q1'' : ¬ ps.length = 0 := by omega
    rw [if_neg (fun h => q1 h.1)]
    generalize byteEsC (rootS []) = rr at *
    generalize byteEsC o = ro at *
    generalize byteEsC nw = rn at *
    refine ACallsTo.of_body proofs_Check_ok (by simp) fun hw _ => ?_
    repeat' (first | (apply callW.any; (first | exact (hR _) | exact (holds_to _ false)); all_goals try (simp (disch := first | omega | (simp only [List.length_set, List.length_append, List.length_cons, List.length_nil, List.length_map]; omega)) only [go_sem, Nat.reduceEqDiff, Nat.reduceBEq, Nat.reduceAdd, Nat.reduceMul, Nat.reduceSub, Nat.reduceLeDiff, Int.reduceToNat, Int.reducePow, r0, r1, c1, c2, q1', q1''])) | refine SWp.seq ?_ | refine SWp.block ?_ | refine SWp.scope ?_ | (refine SWp.reg ?_; (simp (disch := first | omega | (simp only [List.length_set, List.length_append, List.length_cons, List.length_nil, List.length_map]; omega)) only [go_sem, Nat.reduceEqDiff, Nat.reduceBEq, Nat.reduceAdd, Nat.reduceMul, Nat.reduceSub, Nat.reduceLeDiff, Int.reduceToNat, Int.reducePow, r0, r1, c1, c2, q1', q1''])) | refine SWp.condT rfl ?_ | refine SWp.condF rfl ?_ | (refine SWp.condD rfl (fun ht => ?_) (fun ht => ?_) <;> try (exfalso; omega)) | ((first | refine SWp.skip ?_ | refine SWp.exit ?_ | refine SWp.ret ?_); try (simp (disch := first | omega | (simp only [List.length_set, List.length_append, List.length_cons, List.length_nil, List.length_map]; omega)) only [go_sem, Nat.reduceEqDiff, Nat.reduceBEq, Nat.reduceAdd, Nat.reduceMul, Nat.reduceSub, Nat.reduceLeDiff, Int.reduceToNat, Int.reducePow, r0, r1, c1, c2, q1', q1''])) | ((first | refine splitG (fun ht => ?_) (fun ht => ?_) | refine splitGB (fun ht => ?_) (fun ht => ?_) | refine splitR (fun ht => ?_) (fun ht => ?_) | refine splitRB (fun ht => ?_) (fun ht => ?_) | refine splitE (fun ht => ?_) (fun ht => ?_) | refine splitEB (fun ht => ?_) (fun ht => ?_) | refine splitC (fun ht => ?_) (fun ht => ?_) | refine splitCB (fun ht => ?_) (fun ht => ?_)) <;> (simp (disch := first | omega | (simp only [List.length_set, List.length_append, List.length_cons, List.length_nil, List.length_map]; omega)) only [go_sem, Nat.reduceEqDiff, Nat.reduceBEq, Nat.reduceAdd, Nat.reduceMul, Nat.reduceSub, Nat.reduceLeDiff, Int.reduceToNat, Int.reducePow, r0, r1, c1, c2, q1', q1''])))
    all_goals (refine downI hw ?_; simp)
set_option maxHeartbeats 8000000 in
theorem Check_same (σ : Store) (n : Int) (o nw : List UInt8) (x : AV) (ps : List (List UInt8)) (hx : SlV 32 (hrows ps) x) (ho : o.length = 32) (hn : nw.length = 32) (h0 : 0 < n) (h1 : n ≤ 4096) (hl : ps.length < 1000000) :
    ACallsTo TC 19 [.int .i64 n, .int .i64 n, .agg (byteEsC o), .agg (byteEsC nw), x] σ (.int .i64 (if ps = [] ∧ o = nw then 0 else 80)) σ := by
  have r0 := hx.cells
  unfold cellsOf at r0
  have r1 := hx.len
  rw [hrows_len] at r1
  unfold rLenSl at r1
  have c1 := byteEsC_len o
  have c2 := byteEsC_len nw
  rw [ho] at c1
  rw [hn] at c2
  have k1 := kinds32 ho
  have k2 := kinds32 hn
  have e2 := eq_hash o nw
  by_cases q1 : ps = []
  · have q1' : ps.length = 0 := by rw [q1]; rfl
    by_cases q2 : o = nw
    · rw [decide_eq_true q2] at e2
      rw [if_pos ⟨q1, q2⟩]
      generalize byteEsC o = ro at *
      generalize byteEsC nw = rn at *
      refine ACallsTo.of_body proofs_Check_ok (by simp) fun hw _ => ?_
      repeat' (first | (apply callW.any; (first | exact (holds_to _ true)); all_goals try (simp (disch := first | omega | (simp only [List.length_set, List.length_append, List.length_cons, List.length_nil, List.length_map]; omega)) only [go_sem, Nat.reduceEqDiff, Nat.reduceBEq, Nat.reduceAdd, Nat.reduceMul, Nat.reduceSub, Nat.reduceLeDiff, Int.reduceToNat, Int.reducePow, r0, r1, c1, c2, k1, k2, e2, q1'])) | refine SWp.seq ?_ | refine SWp.block ?_ | refine SWp.scope ?_ | (refine SWp.reg ?_; (simp (disch := first | omega | (simp only [List.length_set, List.length_append, List.length_cons, List.length_nil, List.length_map]; omega)) only [go_sem, Nat.reduceEqDiff, Nat.reduceBEq, Nat.reduceAdd, Nat.reduceMul, Nat.reduceSub, Nat.reduceLeDiff, Int.reduceToNat, Int.reducePow, r0, r1, c1, c2, k1, k2, e2, q1'])) | refine SWp.condT rfl ?_ | refine SWp.condF rfl ?_ | (refine SWp.condD rfl (fun ht => ?_) (fun ht => ?_) <;> try (exfalso; omega)) | ((first | refine SWp.skip ?_ | refine SWp.exit ?_ | refine SWp.ret ?_); try (simp (disch := first | omega | (simp only [List.length_set, List.length_append, List.length_cons, List.length_nil, List.length_map]; omega)) only [go_sem, Nat.reduceEqDiff, Nat.reduceBEq, Nat.reduceAdd, Nat.reduceMul, Nat.reduceSub, Nat.reduceLeDiff, Int.reduceToNat, Int.reducePow, r0, r1, c1, c2, k1, k2, e2, q1'])) | ((first | refine splitG (fun ht => ?_) (fun ht => ?_) | refine splitGB (fun ht => ?_) (fun ht => ?_) | refine splitR (fun ht => ?_) (fun ht => ?_) | refine splitRB (fun ht => ?_) (fun ht => ?_) | refine splitE (fun ht => ?_) (fun ht => ?_) | refine splitEB (fun ht => ?_) (fun ht => ?_) | refine splitC (fun ht => ?_) (fun ht => ?_) | refine splitCB (fun ht => ?_) (fun ht => ?_)) <;> (simp (disch := first | omega | (simp only [List.length_set, List.length_append, List.length_cons, List.length_nil, List.length_map]; omega)) only [go_sem, Nat.reduceEqDiff, Nat.reduceBEq, Nat.reduceAdd, Nat.reduceMul, Nat.reduceSub, Nat.reduceLeDiff, Int.reduceToNat, Int.reducePow, r0, r1, c1, c2, k1, k2, e2, q1'])))
      all_goals (refine downI hw ?_; simp)
    · rw [decide_eq_false q2] at e2
      rw [if_neg (fun h => q2 h.2)]
      generalize byteEsC o = ro at *
      generalize byteEsC nw = rn at *
      refine ACallsTo.of_body proofs_Check_ok (by simp) fun hw _ => ?_
      repeat' (first | (apply callW.any; (first | exact (holds_to _ false)); all_goals try (simp (disch := first | omega | (simp only [List.length_set, List.length_append, List.length_cons, List.length_nil, List.length_map]; omega)) only [go_sem, Nat.reduceEqDiff, Nat.reduceBEq, Nat.reduceAdd, Nat.reduceMul, Nat.reduceSub, Nat.reduceLeDiff, Int.reduceToNat, Int.reducePow, r0, r1, c1, c2, k1, k2, e2, q1'])) | refine SWp.seq ?_ | refine SWp.block ?_ | refine SWp.scope ?_ | (refine SWp.reg ?_; (simp (disch := first | omega | (simp only [List.length_set, List.length_append, List.length_cons, List.length_nil, List.length_map]; omega)) only [go_sem, Nat.reduceEqDiff, Nat.reduceBEq, Nat.reduceAdd, Nat.reduceMul, Nat.reduceSub, Nat.reduceLeDiff, Int.reduceToNat, Int.reducePow, r0, r1, c1, c2, k1, k2, e2, q1'])) | refine SWp.condT rfl ?_ | refine SWp.condF rfl ?_ | (refine SWp.condD rfl (fun ht => ?_) (fun ht => ?_) <;> try (exfalso; omega)) | ((first | refine SWp.skip ?_ | refine SWp.exit ?_ | refine SWp.ret ?_); try (simp (disch := first | omega | (simp only [List.length_set, List.length_append, List.length_cons, List.length_nil, List.length_map]; omega)) only [go_sem, Nat.reduceEqDiff, Nat.reduceBEq, Nat.reduceAdd, Nat.reduceMul, Nat.reduceSub, Nat.reduceLeDiff, Int.reduceToNat, Int.reducePow, r0, r1, c1, c2, k1, k2, e2, q1'])) | ((first | refine splitG (fun ht => ?_) (fun ht => ?_) | refine splitGB (fun ht => ?_) (fun ht => ?_) | refine splitR (fun ht => ?_) (fun ht => ?_) | refine splitRB (fun ht => ?_) (fun ht => ?_) | refine splitE (fun ht => ?_) (fun ht => ?_) | refine splitEB (fun ht => ?_) (fun ht => ?_) | refine splitC (fun ht => ?_) (fun ht => ?_) | refine splitCB (fun ht => ?_) (fun ht => ?_)) <;> (simp (disch := first | omega | (simp only [List.length_set, List.length_append, List.length_cons, List.length_nil, List.length_map]; omega)) only [go_sem, Nat.reduceEqDiff, Nat.reduceBEq, Nat.reduceAdd, Nat.reduceMul, Nat.reduceSub, Nat.reduceLeDiff, Int.reduceToNat, Int.reducePow, r0, r1, c1, c2, k1, k2, e2, q1'])))
      all_goals (refine downI hw ?_; simp)
  · have q1' : ¬ (ps.length : Int) = 0 := by intro e; exact q1 (List.eq_nil_of_length_eq_zero (by omega))
    have q1'' : ¬ ps.length = 0 := by omega
    rw [if_neg (fun h => q1 h.1)]
    generalize byteEsC o = ro at *
    generalize byteEsC nw = rn at *
    refine ACallsTo.of_body proofs_Check_ok (by simp) fun hw _ => ?_
    repeat' (first | (apply callW.any; (first | exact (holds_to _ false)); all_goals try (simp (disch := first | omega | (simp only [List.length_set, List.length_append, List.length_cons, List.length_nil, List.length_map]; omega)) only [go_sem, Nat.reduceEqDiff, Nat.reduceBEq, Nat.reduceAdd, Nat.reduceMul, Nat.reduceSub, Nat.reduceLeDiff, Int.reduceToNat, Int.reducePow, r0, r1, c1, c2, q1', q1''])) | refine SWp.seq ?_ | refine SWp.block ?_ | refine SWp.scope ?_ | (refine SWp.reg ?_; (simp (disch := first | omega | (simp only [List.length_set, List.length_append, List.length_cons, List.length_nil, List.length_map]; omega)) only [go_sem, Nat.reduceEqDiff, Nat.reduceBEq, Nat.reduceAdd, Nat.reduceMul, Nat.reduceSub, Nat.reduceLeDiff, Int.reduceToNat, Int.reducePow, r0, r1, c1, c2, q1', q1''])) | refine SWp.condT rfl ?_ | refine SWp.condF rfl ?_ | (refine SWp.condD rfl (fun ht => ?_) (fun ht => ?_) <;> try (exfalso; omega)) | ((first | refine SWp.skip ?_ | refine SWp.exit ?_ | refine SWp.ret ?_); try (simp (disch := first | omega | (simp only [List.length_set, List.length_append, List.length_cons, List.length_nil, List.length_map]; omega)) only [go_sem, Nat.reduceEqDiff, Nat.reduceBEq, Nat.reduceAdd, Nat.reduceMul, Nat.reduceSub, Nat.reduceLeDiff, Int.reduceToNat, Int.reducePow, r0, r1, c1, c2, q1', q1''])) | ((first | refine splitG (fun ht => ?_) (fun ht => ?_) | refine splitGB (fun ht => ?_) (fun ht => ?_) | refine splitR (fun ht => ?_) (fun ht => ?_) | refine splitRB (fun ht => ?_) (fun ht => ?_) | refine splitE (fun ht => ?_) (fun ht => ?_) | refine splitEB (fun ht => ?_) (fun ht => ?_) | refine splitC (fun ht => ?_) (fun ht => ?_) | refine splitCB (fun ht => ?_) (fun ht => ?_)) <;> (simp (disch := first | omega | (simp only [List.length_set, List.length_append, List.length_cons, List.length_nil, List.length_map]; omega)) only [go_sem, Nat.reduceEqDiff, Nat.reduceBEq, Nat.reduceAdd, Nat.reduceMul, Nat.reduceSub, Nat.reduceLeDiff, Int.reduceToNat, Int.reducePow, r0, r1, c1, c2, q1', q1''])))
    all_goals (refine downI hw ?_; simp)
end Am
end Go.Proofs.YtfofemaglndnjaaDoor
end
section
set_option linter.unusedSimpArgs false
set_option linter.unusedVariables false
/- Proofs: contract: Check of the program, the loop. -/
set_option linter.unusedSimpArgs false
set_option linter.unusedVariables false
namespace Go.Proofs.YtfofemaglndnjaaDoor
namespace Am
theorem lp_pos {i last : Nat} (h : last ≠ 0) : ∃ t P, lp i last = t :: P := by
  by_cases h1 : i % 2 = 1
  · exact ⟨_, _, lp_odd h1 h⟩
  · by_cases h2 : i = last
    · subst h2; obtain ⟨P, hP⟩ := lp_same (i + 1) i (Nat.lt_succ_self _) h; exact ⟨_, _, hP⟩
    · exact ⟨_, _, lp_ne h1 h h2⟩
theorem run_nil {t : Bool} {P : List Bool} {a b : List UInt8} : run (t :: P) [] a b = none := by cases t <;> rfl
theorem hash_drop {h : List UInt8} (hh : h.length = 32) : (byteEsC h).drop 32 = [] := by
  have := byteEsC_len h
  exact List.drop_of_length_le (by omega)
theorem hash_take {h : List UInt8} (hh : h.length = 32) : (byteEsC h).take 32 = byteEsC h := by
  have := byteEsC_len h
  exact List.take_of_length_le (by omega)
set_option maxHeartbeats 8000000 in
theorem Check_loop (ia ib : Nat) (σ : Store) (hw : Wf σ.length σ) (o nw : List UInt8) (ho : o.length = 32) (hn : nw.length = 32) (R : Option (List UInt8 × List UInt8)) (ρ : Env) (σ' : Store) (i last : Nat) (pv : AV) (ps : List (List UInt8)) (a b : List UInt8)
    (hM : ChkM ia ib σ σ' o nw pv ps a b) (hH : H32 ps) (hi : i < 4096) (hl : last < 4096) (hpl : ps.length < 1000000) (hR : run (lp i last) ps a b = R)
    (q7 : ρ 7 = .ptr σ.length 0 0) (q8 : ρ 8 = .ptr (σ.length + 1) 0 0) (q9 : ρ 9 = .ptr (σ.length + 2) 0 0) (q11 : ρ 11 = .int .i64 i) (q12 : ρ 12 = .int .i64 last)
    (q13 : ρ 13 = .fn 64 [.ptr (σ.length + 2) 0 0]) (q14 : ρ 14 = .ptr (σ.length + ia) 0 0) (q15 : ρ 15 = .ptr (σ.length + ib) 0 0) :
    SWp TC 152 σ.length proofs_Check_c71 (endQ σ.length [.t 10] (.int .i64 (fitI R o nw)) σ) ρ σ' := by
  repeat' (first | refine SWp.seq ?_ | refine SWp.block ?_ | refine SWp.scope ?_ | (refine SWp.reg ?_; (simp (disch := first | omega | (simp only [List.length_set, List.length_append, List.length_cons, List.length_nil, List.length_map]; omega)) only [go_sem, Nat.reduceEqDiff, Nat.reduceBEq, Nat.reduceAdd, Nat.reduceMul, Nat.reduceSub, Nat.reduceLeDiff, Int.reduceToNat, Int.reducePow])) | refine SWp.condT rfl ?_ | refine SWp.condF rfl ?_ | (refine SWp.condD rfl (fun ht => ?_) (fun ht => ?_) <;> try (exfalso; omega)) | ((first | refine SWp.skip ?_ | refine SWp.exit ?_ | refine SWp.ret ?_); try (simp (disch := first | omega | (simp only [List.length_set, List.length_append, List.length_cons, List.length_nil, List.length_map]; omega)) only [go_sem, Nat.reduceEqDiff, Nat.reduceBEq, Nat.reduceAdd, Nat.reduceMul, Nat.reduceSub, Nat.reduceLeDiff, Int.reduceToNat, Int.reducePow])) | ((first | refine splitG (fun ht => ?_) (fun ht => ?_) | refine splitGB (fun ht => ?_) (fun ht => ?_) | refine splitR (fun ht => ?_) (fun ht => ?_) | refine splitRB (fun ht => ?_) (fun ht => ?_) | refine splitE (fun ht => ?_) (fun ht => ?_) | refine splitEB (fun ht => ?_) (fun ht => ?_) | refine splitC (fun ht => ?_) (fun ht => ?_) | refine splitCB (fun ht => ?_) (fun ht => ?_)) <;> (simp (disch := first | omega | (simp only [List.length_set, List.length_append, List.length_cons, List.length_nil, List.length_map]; omega)) only [go_sem, Nat.reduceEqDiff, Nat.reduceBEq, Nat.reduceAdd, Nat.reduceMul, Nat.reduceSub, Nat.reduceLeDiff, Int.reduceToNat, Int.reducePow])))
  refine SWp.loop (fun m ρ σ' => ∃ (i last : Nat) (pv : AV) (ps : List (List UInt8)) (a b : List UInt8), m = last ∧ ChkM ia ib σ σ' o nw pv ps a b ∧ H32 ps ∧ i < 4096 ∧ last < 4096 ∧ ps.length < 1000000 ∧ run (lp i last) ps a b = R ∧
    ρ 7 = .ptr σ.length 0 0 ∧ ρ 8 = .ptr (σ.length + 1) 0 0 ∧ ρ 9 = .ptr (σ.length + 2) 0 0 ∧ ρ 11 = .int .i64 i ∧ ρ 12 = .int .i64 last ∧ ρ 13 = .fn 64 [.ptr (σ.length + 2) 0 0] ∧ ρ 14 = .ptr (σ.length + ia) 0 0 ∧ ρ 15 = .ptr (σ.length + ib) 0 0) last ?_ ?_
  · exact ⟨i, last, pv, ps, a, b, rfl, hM, hH, hi, hl, hpl, hR, q7, q8, q9, q11, q12, q13, q14, q15⟩
  clear hM hH hi hl hpl hR q7 q8 q9 q11 q12 q13 q14 q15 i last pv ps a b ρ σ'
  rintro last ρ σ' ⟨i, _, pv, ps, a, b, rfl, hM, hH, hi, hl, hpl, hR, q7, q8, q9, q11, q12, q13, q14, q15⟩
  have hlen := hM.len
  have hab := hM.hab
  have g0 := hM.g0
  have g1 := hM.g1
  have g2 := hM.g2
  have g3 := hM.g3
  have g4 := hM.g4
  have c0 := byteEsC_len o
  have c1 := byteEsC_len nw
  have ca := byteEsC_len a
  have cb := byteEsC_len b
  rw [ho] at c0
  rw [hn] at c1
  rw [hM.ha] at ca
  rw [hM.hb] at cb
  by_cases h0 : last = 0
  · subst h0
    rw [lp_zero] at hR
    have r1 := hM.hp.len
    rw [hrows_len] at r1
    unfold rLenSl at r1
    have k0 := kinds32 ho
    have k1 := kinds32 hn
    have ka := kinds32 hM.ha
    have kb := kinds32 hM.hb
    have e1 := eq_hash a o
    have e2 := eq_hash b nw
    by_cases p1 : ps = []
    · have p1' : ps.length = 0 := by rw [p1]; rfl
      have hR' : R = some (a, b) := by rw [← hR, p1]; rfl
      by_cases p2 : a = o
      · rw [decide_eq_true p2] at e1
        by_cases p3 : b = nw
        · rw [decide_eq_true p3] at e2
          have hf : fitI R o nw = 0 := by rw [hR']; unfold fitI; simp only; rw [if_pos ⟨p2, p3⟩]
          rw [hf]
          repeat' (first | (apply callW.any; (first | exact (holds_to _ true)); all_goals try (simp (disch := first | omega | (simp only [List.length_set, List.length_append, List.length_cons, List.length_nil, List.length_map]; omega)) only [go_sem, Nat.reduceEqDiff, Nat.reduceBEq, Nat.reduceAdd, Nat.reduceMul, Nat.reduceSub, Nat.reduceLeDiff, Int.reduceToNat, Int.reducePow, q7, q8, q9, q12, q14, q15, r1, g0, g1, g2, g3, g4, c0, c1, ca, cb, k0, k1, ka, kb, e1, e2, p1'])) | refine SWp.seq ?_ | refine SWp.block ?_ | refine SWp.scope ?_ | (refine SWp.reg ?_; (simp (disch := first | omega | (simp only [List.length_set, List.length_append, List.length_cons, List.length_nil, List.length_map]; omega)) only [go_sem, Nat.reduceEqDiff, Nat.reduceBEq, Nat.reduceAdd, Nat.reduceMul, Nat.reduceSub, Nat.reduceLeDiff, Int.reduceToNat, Int.reducePow, q7, q8, q9, q12, q14, q15, r1, g0, g1, g2, g3, g4, c0, c1, ca, cb, k0, k1, ka, kb, e1, e2, p1'])) | refine SWp.condT rfl ?_ | refine SWp.condF rfl ?_ | (refine SWp.condD rfl (fun ht => ?_) (fun ht => ?_) <;> try (exfalso; omega)) | ((first | refine SWp.skip ?_ | refine SWp.exit ?_ | refine SWp.ret ?_); try (simp (disch := first | omega | (simp only [List.length_set, List.length_append, List.length_cons, List.length_nil, List.length_map]; omega)) only [go_sem, Nat.reduceEqDiff, Nat.reduceBEq, Nat.reduceAdd, Nat.reduceMul, Nat.reduceSub, Nat.reduceLeDiff, Int.reduceToNat, Int.reducePow, q7, q8, q9, q12, q14, q15, r1, g0, g1, g2, g3, g4, c0, c1, ca, cb, k0, k1, ka, kb, e1, e2, p1'])) | ((first | refine splitG (fun ht => ?_) (fun ht => ?_) | refine splitGB (fun ht => ?_) (fun ht => ?_) | refine splitR (fun ht => ?_) (fun ht => ?_) | refine splitRB (fun ht => ?_) (fun ht => ?_) | refine splitE (fun ht => ?_) (fun ht => ?_) | refine splitEB (fun ht => ?_) (fun ht => ?_) | refine splitC (fun ht => ?_) (fun ht => ?_) | refine splitCB (fun ht => ?_) (fun ht => ?_)) <;> (simp (disch := first | omega | (simp only [List.length_set, List.length_append, List.length_cons, List.length_nil, List.length_map]; omega)) only [go_sem, Nat.reduceEqDiff, Nat.reduceBEq, Nat.reduceAdd, Nat.reduceMul, Nat.reduceSub, Nat.reduceLeDiff, Int.reduceToNat, Int.reducePow, q7, q8, q9, q12, q14, q15, r1, g0, g1, g2, g3, g4, c0, c1, ca, cb, k0, k1, ka, kb, e1, e2, p1'])))
          exact hM.fin hw
        · rw [decide_eq_false p3] at e2
          have hf : fitI R o nw = 80 := by rw [hR']; unfold fitI; simp only; rw [if_neg (fun h => p3 h.2)]
          rw [hf]
          repeat' (first | (apply callW.any; (first | exact (holds_to _ false)); all_goals try (simp (disch := first | omega | (simp only [List.length_set, List.length_append, List.length_cons, List.length_nil, List.length_map]; omega)) only [go_sem, Nat.reduceEqDiff, Nat.reduceBEq, Nat.reduceAdd, Nat.reduceMul, Nat.reduceSub, Nat.reduceLeDiff, Int.reduceToNat, Int.reducePow, q7, q8, q9, q12, q14, q15, r1, g0, g1, g2, g3, g4, c0, c1, ca, cb, k0, k1, ka, kb, e1, e2, p1'])) | refine SWp.seq ?_ | refine SWp.block ?_ | refine SWp.scope ?_ | (refine SWp.reg ?_; (simp (disch := first | omega | (simp only [List.length_set, List.length_append, List.length_cons, List.length_nil, List.length_map]; omega)) only [go_sem, Nat.reduceEqDiff, Nat.reduceBEq, Nat.reduceAdd, Nat.reduceMul, Nat.reduceSub, Nat.reduceLeDiff, Int.reduceToNat, Int.reducePow, q7, q8, q9, q12, q14, q15, r1, g0, g1, g2, g3, g4, c0, c1, ca, cb, k0, k1, ka, kb, e1, e2, p1'])) | refine SWp.condT rfl ?_ | refine SWp.condF rfl ?_ | (refine SWp.condD rfl (fun ht => ?_) (fun ht => ?_) <;> try (exfalso; omega)) | ((first | refine SWp.skip ?_ | refine SWp.exit ?_ | refine SWp.ret ?_); try (simp (disch := first | omega | (simp only [List.length_set, List.length_append, List.length_cons, List.length_nil, List.length_map]; omega)) only [go_sem, Nat.reduceEqDiff, Nat.reduceBEq, Nat.reduceAdd, Nat.reduceMul, Nat.reduceSub, Nat.reduceLeDiff, Int.reduceToNat, Int.reducePow, q7, q8, q9, q12, q14, q15, r1, g0, g1, g2, g3, g4, c0, c1, ca, cb, k0, k1, ka, kb, e1, e2, p1'])) | ((first | refine splitG (fun ht => ?_) (fun ht => ?_) | refine splitGB (fun ht => ?_) (fun ht => ?_) | refine splitR (fun ht => ?_) (fun ht => ?_) | refine splitRB (fun ht => ?_) (fun ht => ?_) | refine splitE (fun ht => ?_) (fun ht => ?_) | refine splitEB (fun ht => ?_) (fun ht => ?_) | refine splitC (fun ht => ?_) (fun ht => ?_) | refine splitCB (fun ht => ?_) (fun ht => ?_)) <;> (simp (disch := first | omega | (simp only [List.length_set, List.length_append, List.length_cons, List.length_nil, List.length_map]; omega)) only [go_sem, Nat.reduceEqDiff, Nat.reduceBEq, Nat.reduceAdd, Nat.reduceMul, Nat.reduceSub, Nat.reduceLeDiff, Int.reduceToNat, Int.reducePow, q7, q8, q9, q12, q14, q15, r1, g0, g1, g2, g3, g4, c0, c1, ca, cb, k0, k1, ka, kb, e1, e2, p1'])))
          exact hM.fin hw
      · rw [decide_eq_false p2] at e1
        have hf : fitI R o nw = 80 := by rw [hR']; unfold fitI; simp only; rw [if_neg (fun h => p2 h.1)]
        rw [hf]
        repeat' (first | (apply callW.any; (first | exact (holds_to _ false)); all_goals try (simp (disch := first | omega | (simp only [List.length_set, List.length_append, List.length_cons, List.length_nil, List.length_map]; omega)) only [go_sem, Nat.reduceEqDiff, Nat.reduceBEq, Nat.reduceAdd, Nat.reduceMul, Nat.reduceSub, Nat.reduceLeDiff, Int.reduceToNat, Int.reducePow, q7, q8, q9, q12, q14, q15, r1, g0, g1, g2, g3, g4, c0, c1, ca, cb, k0, k1, ka, kb, e1, p1'])) | refine SWp.seq ?_ | refine SWp.block ?_ | refine SWp.scope ?_ | (refine SWp.reg ?_; (simp (disch := first | omega | (simp only [List.length_set, List.length_append, List.length_cons, List.length_nil, List.length_map]; omega)) only [go_sem, Nat.reduceEqDiff, Nat.reduceBEq, Nat.reduceAdd, Nat.reduceMul, Nat.reduceSub, Nat.reduceLeDiff, Int.reduceToNat, Int.reducePow, q7, q8, q9, q12, q14, q15, r1, g0, g1, g2, g3, g4, c0, c1, ca, cb, k0, k1, ka, kb, e1, p1'])) | refine SWp.condT rfl ?_ | refine SWp.condF rfl ?_ | (refine SWp.condD rfl (fun ht => ?_) (fun ht => ?_) <;> try (exfalso; omega)) | ((first | refine SWp.skip ?_ | refine SWp.exit ?_ | refine SWp.ret ?_); try (simp (disch := first | omega | (simp only [List.length_set, List.length_append, List.length_cons, List.length_nil, List.length_map]; omega)) only [go_sem, Nat.reduceEqDiff, Nat.reduceBEq, Nat.reduceAdd, Nat.reduceMul, Nat.reduceSub, Nat.reduceLeDiff, Int.reduceToNat, Int.reducePow, q7, q8, q9, q12, q14, q15, r1, g0, g1, g2, g3, g4, c0, c1, ca, cb, k0, k1, ka, kb, e1, p1'])) | ((first | refine splitG (fun ht => ?_) (fun ht => ?_) | refine splitGB (fun ht => ?_) (fun ht => ?_) | refine splitR (fun ht => ?_) (fun ht => ?_) | refine splitRB (fun ht => ?_) (fun ht => ?_) | refine splitE (fun ht => ?_) (fun ht => ?_) | refine splitEB (fun ht => ?_) (fun ht => ?_) | refine splitC (fun ht => ?_) (fun ht => ?_) | refine splitCB (fun ht => ?_) (fun ht => ?_)) <;> (simp (disch := first | omega | (simp only [List.length_set, List.length_append, List.length_cons, List.length_nil, List.length_map]; omega)) only [go_sem, Nat.reduceEqDiff, Nat.reduceBEq, Nat.reduceAdd, Nat.reduceMul, Nat.reduceSub, Nat.reduceLeDiff, Int.reduceToNat, Int.reducePow, q7, q8, q9, q12, q14, q15, r1, g0, g1, g2, g3, g4, c0, c1, ca, cb, k0, k1, ka, kb, e1, p1'])))
        exact hM.fin hw
    · have p1' : ¬ (ps.length : Int) = 0 := by intro e; exact p1 (List.eq_nil_of_length_eq_zero (by omega))
      have p1'' : ¬ ps.length = 0 := by omega
      have hf : fitI R o nw = 80 := by
        have : R = none := by
          rw [← hR]
          cases ps with
          | nil => exact absurd rfl p1
          | cons _ _ => rfl
        rw [this]; rfl
      rw [hf]
      repeat' (first | (apply callW.any; (first | exact (holds_to _ false)); all_goals try (simp (disch := first | omega | (simp only [List.length_set, List.length_append, List.length_cons, List.length_nil, List.length_map]; omega)) only [go_sem, Nat.reduceEqDiff, Nat.reduceBEq, Nat.reduceAdd, Nat.reduceMul, Nat.reduceSub, Nat.reduceLeDiff, Int.reduceToNat, Int.reducePow, q7, q8, q9, q12, q14, q15, r1, g0, g1, g2, g3, g4, c0, c1, p1', p1''])) | refine SWp.seq ?_ | refine SWp.block ?_ | refine SWp.scope ?_ | (refine SWp.reg ?_; (simp (disch := first | omega | (simp only [List.length_set, List.length_append, List.length_cons, List.length_nil, List.length_map]; omega)) only [go_sem, Nat.reduceEqDiff, Nat.reduceBEq, Nat.reduceAdd, Nat.reduceMul, Nat.reduceSub, Nat.reduceLeDiff, Int.reduceToNat, Int.reducePow, q7, q8, q9, q12, q14, q15, r1, g0, g1, g2, g3, g4, c0, c1, p1', p1''])) | refine SWp.condT rfl ?_ | refine SWp.condF rfl ?_ | (refine SWp.condD rfl (fun ht => ?_) (fun ht => ?_) <;> try (exfalso; omega)) | ((first | refine SWp.skip ?_ | refine SWp.exit ?_ | refine SWp.ret ?_); try (simp (disch := first | omega | (simp only [List.length_set, List.length_append, List.length_cons, List.length_nil, List.length_map]; omega)) only [go_sem, Nat.reduceEqDiff, Nat.reduceBEq, Nat.reduceAdd, Nat.reduceMul, Nat.reduceSub, Nat.reduceLeDiff, Int.reduceToNat, Int.reducePow, q7, q8, q9, q12, q14, q15, r1, g0, g1, g2, g3, g4, c0, c1, p1', p1''])) | ((first | refine splitG (fun ht => ?_) (fun ht => ?_) | refine splitGB (fun ht => ?_) (fun ht => ?_) | refine splitR (fun ht => ?_) (fun ht => ?_) | refine splitRB (fun ht => ?_) (fun ht => ?_) | refine splitE (fun ht => ?_) (fun ht => ?_) | refine splitEB (fun ht => ?_) (fun ht => ?_) | refine splitC (fun ht => ?_) (fun ht => ?_) | refine splitCB (fun ht => ?_) (fun ht => ?_)) <;> (simp (disch := first | omega | (simp only [List.length_set, List.length_append, List.length_cons, List.length_nil, List.length_map]; omega)) only [go_sem, Nat.reduceEqDiff, Nat.reduceBEq, Nat.reduceAdd, Nat.reduceMul, Nat.reduceSub, Nat.reduceLeDiff, Int.reduceToNat, Int.reducePow, q7, q8, q9, q12, q14, q15, r1, g0, g1, g2, g3, g4, c0, c1, p1', p1''])))
      exact hM.fin hw
  · cases ps with
    | nil =>
      have hf : fitI R o nw = 80 := by
        obtain ⟨t, P, e⟩ := lp_pos (i := i) h0
        rw [e, run_nil] at hR
        rw [← hR]; rfl
      rw [hf]
      have hnx := next_none (σ.length + 2) σ' pv hM.hp g2
      have dz : (byteEsC zero32).drop 32 = [] := rfl
      have hl0 : (0 : Int) < last := by omega
      have cz : (byteEsC zero32).length = 32 := by rw [byteEsC_len]; rfl
      repeat' (first | (apply callW.any; (first | exact (hnx)); all_goals try (simp (disch := first | omega | (simp only [List.length_set, List.length_append, List.length_cons, List.length_nil, List.length_map]; omega)) only [go_sem, Nat.reduceEqDiff, Nat.reduceBEq, Nat.reduceAdd, Nat.reduceMul, Nat.reduceSub, Nat.reduceLeDiff, Int.reduceToNat, Int.reducePow, q7, q8, q9, q12, q13, q14, q15, g0, g1, g2, g3, g4, cz, dz, hl0])) | refine SWp.seq ?_ | refine SWp.block ?_ | refine SWp.scope ?_ | (refine SWp.reg ?_; (simp (disch := first | omega | (simp only [List.length_set, List.length_append, List.length_cons, List.length_nil, List.length_map]; omega)) only [go_sem, Nat.reduceEqDiff, Nat.reduceBEq, Nat.reduceAdd, Nat.reduceMul, Nat.reduceSub, Nat.reduceLeDiff, Int.reduceToNat, Int.reducePow, q7, q8, q9, q12, q13, q14, q15, g0, g1, g2, g3, g4, cz, dz, hl0])) | refine SWp.condT rfl ?_ | refine SWp.condF rfl ?_ | (refine SWp.condD rfl (fun ht => ?_) (fun ht => ?_) <;> try (exfalso; omega)) | ((first | refine SWp.skip ?_ | refine SWp.exit ?_ | refine SWp.ret ?_); try (simp (disch := first | omega | (simp only [List.length_set, List.length_append, List.length_cons, List.length_nil, List.length_map]; omega)) only [go_sem, Nat.reduceEqDiff, Nat.reduceBEq, Nat.reduceAdd, Nat.reduceMul, Nat.reduceSub, Nat.reduceLeDiff, Int.reduceToNat, Int.reducePow, q7, q8, q9, q12, q13, q14, q15, g0, g1, g2, g3, g4, cz, dz, hl0])) | ((first | refine splitG (fun ht => ?_) (fun ht => ?_) | refine splitGB (fun ht => ?_) (fun ht => ?_) | refine splitR (fun ht => ?_) (fun ht => ?_) | refine splitRB (fun ht => ?_) (fun ht => ?_) | refine splitE (fun ht => ?_) (fun ht => ?_) | refine splitEB (fun ht => ?_) (fun ht => ?_) | refine splitC (fun ht => ?_) (fun ht => ?_) | refine splitCB (fun ht => ?_) (fun ht => ?_)) <;> (simp (disch := first | omega | (simp only [List.length_set, List.length_append, List.length_cons, List.length_nil, List.length_map]; omega)) only [go_sem, Nat.reduceEqDiff, Nat.reduceBEq, Nat.reduceAdd, Nat.reduceMul, Nat.reduceSub, Nat.reduceLeDiff, Int.reduceToNat, Int.reducePow, q7, q8, q9, q12, q13, q14, q15, g0, g1, g2, g3, g4, cz, dz, hl0])))
      exact (hM.app (y := [some [byteEsC zero32], some [byteEsC zero32]])).fin hw
    | cons h qs =>
      have hh : h.length = 32 := hH h (by simp)
      have hq : H32 qs := fun x hx => hH x (by simp [hx])
      obtain ⟨ex, rfl⟩ := hM.hp.vsl (by rw [hrows_len]; simp)
      simp only [List.length_cons] at hpl
      have hnx := next_to (σ.length + 2) σ' h qs ex hh (by omega) g2
      have ch := byteEsC_len h
      rw [hh] at ch
      have c7 := byteEsC_len (nodeS h a)
      have c8 := byteEsC_len (nodeS h b)
      have c9 := byteEsC_len (nodeS b h)
      rw [nodeS_len] at c7 c8 c9
      have d0 := hash_drop hM.ha
      have d1 := hash_drop hM.hb
      have d2 := hash_drop hh
      have t0 := hash_take hM.ha
      have t1 := hash_take hM.hb
      have t2 := hash_take hh
      by_cases hc : i % 2 = 1 ∨ i = last
      · have hl0 : (0 : Int) < last := by omega
        obtain ⟨P, hP⟩ : ∃ P, lp i last = true :: P := by
          rcases hc with hc | rfl
          · exact ⟨_, lp_odd hc h0⟩
          · exact lp_same (i + 1) i (Nat.lt_succ_self _) h0
        rw [hP] at hR
        rcases hc with hc | rfl
        · have hc1 : (i : Int) % 2 = 1 := by omega
          repeat' (first | (apply callW.any; (first | exact (hnx) | exact (trees_Node_to _ h a hh hM.ha) | exact (trees_Node_to _ h b hh hM.hb) | exact (trees_Node_to _ b h hM.hb hh)); all_goals try (simp (disch := first | omega | (simp only [List.length_set, List.length_append, List.length_cons, List.length_nil, List.length_map]; omega)) only [go_sem, Nat.reduceEqDiff, Nat.reduceBEq, Nat.reduceAdd, Nat.reduceMul, Nat.reduceSub, Nat.reduceLeDiff, Int.reduceToNat, Int.reducePow, q7, q8, q9, q11, q12, q13, q14, q15, g0, g1, g2, g3, g4, ca, cb, ch, c7, c8, c9, d0, d1, d2, t0, t1, t2, hc1, hl0])) | refine SWp.seq ?_ | refine SWp.block ?_ | refine SWp.scope ?_ | (refine SWp.reg ?_; (simp (disch := first | omega | (simp only [List.length_set, List.length_append, List.length_cons, List.length_nil, List.length_map]; omega)) only [go_sem, Nat.reduceEqDiff, Nat.reduceBEq, Nat.reduceAdd, Nat.reduceMul, Nat.reduceSub, Nat.reduceLeDiff, Int.reduceToNat, Int.reducePow, q7, q8, q9, q11, q12, q13, q14, q15, g0, g1, g2, g3, g4, ca, cb, ch, c7, c8, c9, d0, d1, d2, t0, t1, t2, hc1, hl0])) | refine SWp.condT rfl ?_ | refine SWp.condF rfl ?_ | (refine SWp.condD rfl (fun ht => ?_) (fun ht => ?_) <;> try (exfalso; omega)) | ((first | refine SWp.skip ?_ | refine SWp.exit ?_ | refine SWp.ret ?_); try (simp (disch := first | omega | (simp only [List.length_set, List.length_append, List.length_cons, List.length_nil, List.length_map]; omega)) only [go_sem, Nat.reduceEqDiff, Nat.reduceBEq, Nat.reduceAdd, Nat.reduceMul, Nat.reduceSub, Nat.reduceLeDiff, Int.reduceToNat, Int.reducePow, q7, q8, q9, q11, q12, q13, q14, q15, g0, g1, g2, g3, g4, ca, cb, ch, c7, c8, c9, d0, d1, d2, t0, t1, t2, hc1, hl0])) | ((first | refine splitG (fun ht => ?_) (fun ht => ?_) | refine splitGB (fun ht => ?_) (fun ht => ?_) | refine splitR (fun ht => ?_) (fun ht => ?_) | refine splitRB (fun ht => ?_) (fun ht => ?_) | refine splitE (fun ht => ?_) (fun ht => ?_) | refine splitEB (fun ht => ?_) (fun ht => ?_) | refine splitC (fun ht => ?_) (fun ht => ?_) | refine splitCB (fun ht => ?_) (fun ht => ?_)) <;> (simp (disch := first | omega | (simp only [List.length_set, List.length_append, List.length_cons, List.length_nil, List.length_map]; omega)) only [go_sem, Nat.reduceEqDiff, Nat.reduceBEq, Nat.reduceAdd, Nat.reduceMul, Nat.reduceSub, Nat.reduceLeDiff, Int.reduceToNat, Int.reducePow, q7, q8, q9, q11, q12, q13, q14, q15, g0, g1, g2, g3, g4, ca, cb, ch, c7, c8, c9, d0, d1, d2, t0, t1, t2, hc1, hl0])))
          have hM2 := (((hM.setp (qs := qs) (qv := .vsl 32 (hrows qs) ex) (.inr ⟨ex, rfl⟩)).seta (nodeS_len h a)).setb (nodeS_len h b)).app (y := [some [byteEsC h], some [byteEsC h]])
          refine SWp.loop (fun m ρ2 σ2 => ∃ (i2 last2 : Nat), m = i2 ∧ ChkM ia ib σ σ2 o nw (.vsl 32 (hrows qs) ex) qs (nodeS h a) (nodeS h b) ∧ lp i2 last2 = true :: P ∧ 0 < i2 ∧ (i2 % 2 = 1 ∨ i2 = last2) ∧ i2 < 4096 ∧ last2 ≤ last ∧
            ρ2 7 = .ptr σ.length 0 0 ∧ ρ2 8 = .ptr (σ.length + 1) 0 0 ∧ ρ2 9 = .ptr (σ.length + 2) 0 0 ∧ ρ2 11 = .int .i64 i2 ∧ ρ2 12 = .int .i64 last2 ∧ ρ2 13 = .fn 64 [.ptr (σ.length + 2) 0 0] ∧ ρ2 14 = .ptr (σ.length + ia) 0 0 ∧ ρ2 15 = .ptr (σ.length + ib) 0 0) i ?_ ?_
          · exact ⟨i, last, rfl, hM2, hP, by omega, .inl hc, hi, by omega, by simp (disch := first | omega | (simp only [List.length_set, List.length_append, List.length_cons, List.length_nil, List.length_map]; omega)) only [go_sem, Nat.reduceEqDiff, Nat.reduceBEq, Nat.reduceAdd, Nat.reduceMul, Nat.reduceSub, Nat.reduceLeDiff, Int.reduceToNat, Int.reducePow, q7], by simp (disch := first | omega | (simp only [List.length_set, List.length_append, List.length_cons, List.length_nil, List.length_map]; omega)) only [go_sem, Nat.reduceEqDiff, Nat.reduceBEq, Nat.reduceAdd, Nat.reduceMul, Nat.reduceSub, Nat.reduceLeDiff, Int.reduceToNat, Int.reducePow, q8], by simp (disch := first | omega | (simp only [List.length_set, List.length_append, List.length_cons, List.length_nil, List.length_map]; omega)) only [go_sem, Nat.reduceEqDiff, Nat.reduceBEq, Nat.reduceAdd, Nat.reduceMul, Nat.reduceSub, Nat.reduceLeDiff, Int.reduceToNat, Int.reducePow, q9], by simp (disch := first | omega | (simp only [List.length_set, List.length_append, List.length_cons, List.length_nil, List.length_map]; omega)) only [go_sem, Nat.reduceEqDiff, Nat.reduceBEq, Nat.reduceAdd, Nat.reduceMul, Nat.reduceSub, Nat.reduceLeDiff, Int.reduceToNat, Int.reducePow, q11], by simp (disch := first | omega | (simp only [List.length_set, List.length_append, List.length_cons, List.length_nil, List.length_map]; omega)) only [go_sem, Nat.reduceEqDiff, Nat.reduceBEq, Nat.reduceAdd, Nat.reduceMul, Nat.reduceSub, Nat.reduceLeDiff, Int.reduceToNat, Int.reducePow, q12], by simp (disch := first | omega | (simp only [List.length_set, List.length_append, List.length_cons, List.length_nil, List.length_map]; omega)) only [go_sem, Nat.reduceEqDiff, Nat.reduceBEq, Nat.reduceAdd, Nat.reduceMul, Nat.reduceSub, Nat.reduceLeDiff, Int.reduceToNat, Int.reducePow, q13], by simp (disch := first | omega | (simp only [List.length_set, List.length_append, List.length_cons, List.length_nil, List.length_map]; omega)) only [go_sem, Nat.reduceEqDiff, Nat.reduceBEq, Nat.reduceAdd, Nat.reduceMul, Nat.reduceSub, Nat.reduceLeDiff, Int.reduceToNat, Int.reducePow, q14], by simp (disch := first | omega | (simp only [List.length_set, List.length_append, List.length_cons, List.length_nil, List.length_map]; omega)) only [go_sem, Nat.reduceEqDiff, Nat.reduceBEq, Nat.reduceAdd, Nat.reduceMul, Nat.reduceSub, Nat.reduceLeDiff, Int.reduceToNat, Int.reducePow, q15]⟩
          · clear q7 q8 q9 q11 q12 q13 q14 q15 g0 g1 g2 g3 g4
            rintro i2 ρ2 σ2 ⟨_, last2, rfl, hM3, hlp, hp0, hor, hb2, hl2, q7, q8, q9, q11, q12, q13, q14, q15⟩
            have hln : last2 ≠ 0 := by
              intro e; rw [e, lp_zero] at hlp; simp at hlp
            by_cases hodd : i2 % 2 = 1
            · have hx1 : (i2 : Int) % 2 = 1 := by omega
              rw [lp_odd hodd hln] at hlp
              have hP2 : lp (i2 / 2) (last2 / 2) = P := by simpa using hlp
              rw [← hP2] at hR
              repeat' (first | refine SWp.seq ?_ | refine SWp.block ?_ | refine SWp.scope ?_ | (refine SWp.reg ?_; (simp (disch := first | omega | (simp only [List.length_set, List.length_append, List.length_cons, List.length_nil, List.length_map]; omega)) only [go_sem, Nat.reduceEqDiff, Nat.reduceBEq, Nat.reduceAdd, Nat.reduceMul, Nat.reduceSub, Nat.reduceLeDiff, Int.reduceToNat, Int.reducePow, q7, q8, q9, q11, q12, q13, q14, q15, hx1])) | refine SWp.condT rfl ?_ | refine SWp.condF rfl ?_ | (refine SWp.condD rfl (fun ht => ?_) (fun ht => ?_) <;> try (exfalso; omega)) | ((first | refine SWp.skip ?_ | refine SWp.exit ?_ | refine SWp.ret ?_); try (simp (disch := first | omega | (simp only [List.length_set, List.length_append, List.length_cons, List.length_nil, List.length_map]; omega)) only [go_sem, Nat.reduceEqDiff, Nat.reduceBEq, Nat.reduceAdd, Nat.reduceMul, Nat.reduceSub, Nat.reduceLeDiff, Int.reduceToNat, Int.reducePow, q7, q8, q9, q11, q12, q13, q14, q15, hx1])) | ((first | refine splitG (fun ht => ?_) (fun ht => ?_) | refine splitGB (fun ht => ?_) (fun ht => ?_) | refine splitR (fun ht => ?_) (fun ht => ?_) | refine splitRB (fun ht => ?_) (fun ht => ?_) | refine splitE (fun ht => ?_) (fun ht => ?_) | refine splitEB (fun ht => ?_) (fun ht => ?_) | refine splitC (fun ht => ?_) (fun ht => ?_) | refine splitCB (fun ht => ?_) (fun ht => ?_)) <;> (simp (disch := first | omega | (simp only [List.length_set, List.length_append, List.length_cons, List.length_nil, List.length_map]; omega)) only [go_sem, Nat.reduceEqDiff, Nat.reduceBEq, Nat.reduceAdd, Nat.reduceMul, Nat.reduceSub, Nat.reduceLeDiff, Int.reduceToNat, Int.reducePow, q7, q8, q9, q11, q12, q13, q14, q15, hx1])))
              exact ⟨last2 / 2, by omega, i2 / 2, last2 / 2, _, qs, _, _, rfl, hM3, hq, by omega, by omega, by omega, hR, by simp, by simp⟩
            · have hx1 : (i2 : Int) % 2 = 0 := by omega
              have hx2 : (0 : Int) < i2 := by omega
              obtain rfl : i2 = last2 := hor.resolve_left hodd
              rw [lp_eq hodd] at hlp
              repeat' (first | refine SWp.seq ?_ | refine SWp.block ?_ | refine SWp.scope ?_ | (refine SWp.reg ?_; (simp (disch := first | omega | (simp only [List.length_set, List.length_append, List.length_cons, List.length_nil, List.length_map]; omega)) only [go_sem, Nat.reduceEqDiff, Nat.reduceBEq, Nat.reduceAdd, Nat.reduceMul, Nat.reduceSub, Nat.reduceLeDiff, Int.reduceToNat, Int.reducePow, q7, q8, q9, q11, q12, q13, q14, q15, hx1, hx2])) | refine SWp.condT rfl ?_ | refine SWp.condF rfl ?_ | (refine SWp.condD rfl (fun ht => ?_) (fun ht => ?_) <;> try (exfalso; omega)) | ((first | refine SWp.skip ?_ | refine SWp.exit ?_ | refine SWp.ret ?_); try (simp (disch := first | omega | (simp only [List.length_set, List.length_append, List.length_cons, List.length_nil, List.length_map]; omega)) only [go_sem, Nat.reduceEqDiff, Nat.reduceBEq, Nat.reduceAdd, Nat.reduceMul, Nat.reduceSub, Nat.reduceLeDiff, Int.reduceToNat, Int.reducePow, q7, q8, q9, q11, q12, q13, q14, q15, hx1, hx2])) | ((first | refine splitG (fun ht => ?_) (fun ht => ?_) | refine splitGB (fun ht => ?_) (fun ht => ?_) | refine splitR (fun ht => ?_) (fun ht => ?_) | refine splitRB (fun ht => ?_) (fun ht => ?_) | refine splitE (fun ht => ?_) (fun ht => ?_) | refine splitEB (fun ht => ?_) (fun ht => ?_) | refine splitC (fun ht => ?_) (fun ht => ?_) | refine splitCB (fun ht => ?_) (fun ht => ?_)) <;> (simp (disch := first | omega | (simp only [List.length_set, List.length_append, List.length_cons, List.length_nil, List.length_map]; omega)) only [go_sem, Nat.reduceEqDiff, Nat.reduceBEq, Nat.reduceAdd, Nat.reduceMul, Nat.reduceSub, Nat.reduceLeDiff, Int.reduceToNat, Int.reducePow, q7, q8, q9, q11, q12, q13, q14, q15, hx1, hx2])))
              exact ⟨i2 / 2, by omega, i2 / 2, i2 / 2, rfl, hM3, hlp, by omega, .inr rfl, by omega, by omega, by simp, by simp⟩
        · by_cases hc : i % 2 = 1
          · have hc1 : (i : Int) % 2 = 1 := by omega
            repeat' (first | (apply callW.any; (first | exact (hnx) | exact (trees_Node_to _ h a hh hM.ha) | exact (trees_Node_to _ h b hh hM.hb) | exact (trees_Node_to _ b h hM.hb hh)); all_goals try (simp (disch := first | omega | (simp only [List.length_set, List.length_append, List.length_cons, List.length_nil, List.length_map]; omega)) only [go_sem, Nat.reduceEqDiff, Nat.reduceBEq, Nat.reduceAdd, Nat.reduceMul, Nat.reduceSub, Nat.reduceLeDiff, Int.reduceToNat, Int.reducePow, q7, q8, q9, q11, q12, q13, q14, q15, g0, g1, g2, g3, g4, ca, cb, ch, c7, c8, c9, d0, d1, d2, t0, t1, t2, hc1, hl0])) | refine SWp.seq ?_ | refine SWp.block ?_ | refine SWp.scope ?_ | (refine SWp.reg ?_; (simp (disch := first | omega | (simp only [List.length_set, List.length_append, List.length_cons, List.length_nil, List.length_map]; omega)) only [go_sem, Nat.reduceEqDiff, Nat.reduceBEq, Nat.reduceAdd, Nat.reduceMul, Nat.reduceSub, Nat.reduceLeDiff, Int.reduceToNat, Int.reducePow, q7, q8, q9, q11, q12, q13, q14, q15, g0, g1, g2, g3, g4, ca, cb, ch, c7, c8, c9, d0, d1, d2, t0, t1, t2, hc1, hl0])) | refine SWp.condT rfl ?_ | refine SWp.condF rfl ?_ | (refine SWp.condD rfl (fun ht => ?_) (fun ht => ?_) <;> try (exfalso; omega)) | ((first | refine SWp.skip ?_ | refine SWp.exit ?_ | refine SWp.ret ?_); try (simp (disch := first | omega | (simp only [List.length_set, List.length_append, List.length_cons, List.length_nil, List.length_map]; omega)) only [go_sem, Nat.reduceEqDiff, Nat.reduceBEq, Nat.reduceAdd, Nat.reduceMul, Nat.reduceSub, Nat.reduceLeDiff, Int.reduceToNat, Int.reducePow, q7, q8, q9, q11, q12, q13, q14, q15, g0, g1, g2, g3, g4, ca, cb, ch, c7, c8, c9, d0, d1, d2, t0, t1, t2, hc1, hl0])) | ((first | refine splitG (fun ht => ?_) (fun ht => ?_) | refine splitGB (fun ht => ?_) (fun ht => ?_) | refine splitR (fun ht => ?_) (fun ht => ?_) | refine splitRB (fun ht => ?_) (fun ht => ?_) | refine splitE (fun ht => ?_) (fun ht => ?_) | refine splitEB (fun ht => ?_) (fun ht => ?_) | refine splitC (fun ht => ?_) (fun ht => ?_) | refine splitCB (fun ht => ?_) (fun ht => ?_)) <;> (simp (disch := first | omega | (simp only [List.length_set, List.length_append, List.length_cons, List.length_nil, List.length_map]; omega)) only [go_sem, Nat.reduceEqDiff, Nat.reduceBEq, Nat.reduceAdd, Nat.reduceMul, Nat.reduceSub, Nat.reduceLeDiff, Int.reduceToNat, Int.reducePow, q7, q8, q9, q11, q12, q13, q14, q15, g0, g1, g2, g3, g4, ca, cb, ch, c7, c8, c9, d0, d1, d2, t0, t1, t2, hc1, hl0])))
            have hM2 := (((hM.setp (qs := qs) (qv := .vsl 32 (hrows qs) ex) (.inr ⟨ex, rfl⟩)).seta (nodeS_len h a)).setb (nodeS_len h b)).app (y := [some [byteEsC h], some [byteEsC h]])
            refine SWp.loop (fun m ρ2 σ2 => ∃ (i2 last2 : Nat), m = i2 ∧ ChkM ia ib σ σ2 o nw (.vsl 32 (hrows qs) ex) qs (nodeS h a) (nodeS h b) ∧ lp i2 last2 = true :: P ∧ 0 < i2 ∧ (i2 % 2 = 1 ∨ i2 = last2) ∧ i2 < 4096 ∧ last2 ≤ i ∧
              ρ2 7 = .ptr σ.length 0 0 ∧ ρ2 8 = .ptr (σ.length + 1) 0 0 ∧ ρ2 9 = .ptr (σ.length + 2) 0 0 ∧ ρ2 11 = .int .i64 i2 ∧ ρ2 12 = .int .i64 last2 ∧ ρ2 13 = .fn 64 [.ptr (σ.length + 2) 0 0] ∧ ρ2 14 = .ptr (σ.length + ia) 0 0 ∧ ρ2 15 = .ptr (σ.length + ib) 0 0) i ?_ ?_
            · exact ⟨i, i, rfl, hM2, hP, by omega, .inr rfl, hi, by omega, by simp (disch := first | omega | (simp only [List.length_set, List.length_append, List.length_cons, List.length_nil, List.length_map]; omega)) only [go_sem, Nat.reduceEqDiff, Nat.reduceBEq, Nat.reduceAdd, Nat.reduceMul, Nat.reduceSub, Nat.reduceLeDiff, Int.reduceToNat, Int.reducePow, q7], by simp (disch := first | omega | (simp only [List.length_set, List.length_append, List.length_cons, List.length_nil, List.length_map]; omega)) only [go_sem, Nat.reduceEqDiff, Nat.reduceBEq, Nat.reduceAdd, Nat.reduceMul, Nat.reduceSub, Nat.reduceLeDiff, Int.reduceToNat, Int.reducePow, q8], by simp (disch := first | omega | (simp only [List.length_set, List.length_append, List.length_cons, List.length_nil, List.length_map]; omega)) only [go_sem, Nat.reduceEqDiff, Nat.reduceBEq, Nat.reduceAdd, Nat.reduceMul, Nat.reduceSub, Nat.reduceLeDiff, Int.reduceToNat, Int.reducePow, q9], by simp (disch := first | omega | (simp only [List.length_set, List.length_append, List.length_cons, List.length_nil, List.length_map]; omega)) only [go_sem, Nat.reduceEqDiff, Nat.reduceBEq, Nat.reduceAdd, Nat.reduceMul, Nat.reduceSub, Nat.reduceLeDiff, Int.reduceToNat, Int.reducePow, q11], by simp (disch := first | omega | (simp only [List.length_set, List.length_append, List.length_cons, List.length_nil, List.length_map]; omega)) only [go_sem, Nat.reduceEqDiff, Nat.reduceBEq, Nat.reduceAdd, Nat.reduceMul, Nat.reduceSub, Nat.reduceLeDiff, Int.reduceToNat, Int.reducePow, q12], by simp (disch := first | omega | (simp only [List.length_set, List.length_append, List.length_cons, List.length_nil, List.length_map]; omega)) only [go_sem, Nat.reduceEqDiff, Nat.reduceBEq, Nat.reduceAdd, Nat.reduceMul, Nat.reduceSub, Nat.reduceLeDiff, Int.reduceToNat, Int.reducePow, q13], by simp (disch := first | omega | (simp only [List.length_set, List.length_append, List.length_cons, List.length_nil, List.length_map]; omega)) only [go_sem, Nat.reduceEqDiff, Nat.reduceBEq, Nat.reduceAdd, Nat.reduceMul, Nat.reduceSub, Nat.reduceLeDiff, Int.reduceToNat, Int.reducePow, q14], by simp (disch := first | omega | (simp only [List.length_set, List.length_append, List.length_cons, List.length_nil, List.length_map]; omega)) only [go_sem, Nat.reduceEqDiff, Nat.reduceBEq, Nat.reduceAdd, Nat.reduceMul, Nat.reduceSub, Nat.reduceLeDiff, Int.reduceToNat, Int.reducePow, q15]⟩
            · clear q7 q8 q9 q11 q12 q13 q14 q15 g0 g1 g2 g3 g4
              rintro i2 ρ2 σ2 ⟨_, last2, rfl, hM3, hlp, hp0, hor, hb2, hl2, q7, q8, q9, q11, q12, q13, q14, q15⟩
              have hln : last2 ≠ 0 := by
                intro e; rw [e, lp_zero] at hlp; simp at hlp
              by_cases hodd : i2 % 2 = 1
              · have hx1 : (i2 : Int) % 2 = 1 := by omega
                rw [lp_odd hodd hln] at hlp
                have hP2 : lp (i2 / 2) (last2 / 2) = P := by simpa using hlp
                rw [← hP2] at hR
                repeat' (first | refine SWp.seq ?_ | refine SWp.block ?_ | refine SWp.scope ?_ | (refine SWp.reg ?_; (simp (disch := first | omega | (simp only [List.length_set, List.length_append, List.length_cons, List.length_nil, List.length_map]; omega)) only [go_sem, Nat.reduceEqDiff, Nat.reduceBEq, Nat.reduceAdd, Nat.reduceMul, Nat.reduceSub, Nat.reduceLeDiff, Int.reduceToNat, Int.reducePow, q7, q8, q9, q11, q12, q13, q14, q15, hx1])) | refine SWp.condT rfl ?_ | refine SWp.condF rfl ?_ | (refine SWp.condD rfl (fun ht => ?_) (fun ht => ?_) <;> try (exfalso; omega)) | ((first | refine SWp.skip ?_ | refine SWp.exit ?_ | refine SWp.ret ?_); try (simp (disch := first | omega | (simp only [List.length_set, List.length_append, List.length_cons, List.length_nil, List.length_map]; omega)) only [go_sem, Nat.reduceEqDiff, Nat.reduceBEq, Nat.reduceAdd, Nat.reduceMul, Nat.reduceSub, Nat.reduceLeDiff, Int.reduceToNat, Int.reducePow, q7, q8, q9, q11, q12, q13, q14, q15, hx1])) | ((first | refine splitG (fun ht => ?_) (fun ht => ?_) | refine splitGB (fun ht => ?_) (fun ht => ?_) | refine splitR (fun ht => ?_) (fun ht => ?_) | refine splitRB (fun ht => ?_) (fun ht => ?_) | refine splitE (fun ht => ?_) (fun ht => ?_) | refine splitEB (fun ht => ?_) (fun ht => ?_) | refine splitC (fun ht => ?_) (fun ht => ?_) | refine splitCB (fun ht => ?_) (fun ht => ?_)) <;> (simp (disch := first | omega | (simp only [List.length_set, List.length_append, List.length_cons, List.length_nil, List.length_map]; omega)) only [go_sem, Nat.reduceEqDiff, Nat.reduceBEq, Nat.reduceAdd, Nat.reduceMul, Nat.reduceSub, Nat.reduceLeDiff, Int.reduceToNat, Int.reducePow, q7, q8, q9, q11, q12, q13, q14, q15, hx1])))
                exact ⟨last2 / 2, by omega, i2 / 2, last2 / 2, _, qs, _, _, rfl, hM3, hq, by omega, by omega, by omega, hR, by simp, by simp⟩
              · have hx1 : (i2 : Int) % 2 = 0 := by omega
                have hx2 : (0 : Int) < i2 := by omega
                obtain rfl : i2 = last2 := hor.resolve_left hodd
                rw [lp_eq hodd] at hlp
                repeat' (first | refine SWp.seq ?_ | refine SWp.block ?_ | refine SWp.scope ?_ | (refine SWp.reg ?_; (simp (disch := first | omega | (simp only [List.length_set, List.length_append, List.length_cons, List.length_nil, List.length_map]; omega)) only [go_sem, Nat.reduceEqDiff, Nat.reduceBEq, Nat.reduceAdd, Nat.reduceMul, Nat.reduceSub, Nat.reduceLeDiff, Int.reduceToNat, Int.reducePow, q7, q8, q9, q11, q12, q13, q14, q15, hx1, hx2])) | refine SWp.condT rfl ?_ | refine SWp.condF rfl ?_ | (refine SWp.condD rfl (fun ht => ?_) (fun ht => ?_) <;> try (exfalso; omega)) | ((first | refine SWp.skip ?_ | refine SWp.exit ?_ | refine SWp.ret ?_); try (simp (disch := first | omega | (simp only [List.length_set, List.length_append, List.length_cons, List.length_nil, List.length_map]; omega)) only [go_sem, Nat.reduceEqDiff, Nat.reduceBEq, Nat.reduceAdd, Nat.reduceMul, Nat.reduceSub, Nat.reduceLeDiff, Int.reduceToNat, Int.reducePow, q7, q8, q9, q11, q12, q13, q14, q15, hx1, hx2])) | ((first | refine splitG (fun ht => ?_) (fun ht => ?_) | refine splitGB (fun ht => ?_) (fun ht => ?_) | refine splitR (fun ht => ?_) (fun ht => ?_) | refine splitRB (fun ht => ?_) (fun ht => ?_) | refine splitE (fun ht => ?_) (fun ht => ?_) | refine splitEB (fun ht => ?_) (fun ht => ?_) | refine splitC (fun ht => ?_) (fun ht => ?_) | refine splitCB (fun ht => ?_) (fun ht => ?_)) <;> (simp (disch := first | omega | (simp only [List.length_set, List.length_append, List.length_cons, List.length_nil, List.length_map]; omega)) only [go_sem, Nat.reduceEqDiff, Nat.reduceBEq, Nat.reduceAdd, Nat.reduceMul, Nat.reduceSub, Nat.reduceLeDiff, Int.reduceToNat, Int.reducePow, q7, q8, q9, q11, q12, q13, q14, q15, hx1, hx2])))
                exact ⟨i2 / 2, by omega, i2 / 2, i2 / 2, rfl, hM3, hlp, by omega, .inr rfl, by omega, by omega, by simp, by simp⟩
          · have hc1 : (i : Int) % 2 = 0 := by omega
            repeat' (first | (apply callW.any; (first | exact (hnx) | exact (trees_Node_to _ h a hh hM.ha) | exact (trees_Node_to _ h b hh hM.hb) | exact (trees_Node_to _ b h hM.hb hh)); all_goals try (simp (disch := first | omega | (simp only [List.length_set, List.length_append, List.length_cons, List.length_nil, List.length_map]; omega)) only [go_sem, Nat.reduceEqDiff, Nat.reduceBEq, Nat.reduceAdd, Nat.reduceMul, Nat.reduceSub, Nat.reduceLeDiff, Int.reduceToNat, Int.reducePow, q7, q8, q9, q11, q12, q13, q14, q15, g0, g1, g2, g3, g4, ca, cb, ch, c7, c8, c9, d0, d1, d2, t0, t1, t2, hc1, hl0])) | refine SWp.seq ?_ | refine SWp.block ?_ | refine SWp.scope ?_ | (refine SWp.reg ?_; (simp (disch := first | omega | (simp only [List.length_set, List.length_append, List.length_cons, List.length_nil, List.length_map]; omega)) only [go_sem, Nat.reduceEqDiff, Nat.reduceBEq, Nat.reduceAdd, Nat.reduceMul, Nat.reduceSub, Nat.reduceLeDiff, Int.reduceToNat, Int.reducePow, q7, q8, q9, q11, q12, q13, q14, q15, g0, g1, g2, g3, g4, ca, cb, ch, c7, c8, c9, d0, d1, d2, t0, t1, t2, hc1, hl0])) | refine SWp.condT rfl ?_ | refine SWp.condF rfl ?_ | (refine SWp.condD rfl (fun ht => ?_) (fun ht => ?_) <;> try (exfalso; omega)) | ((first | refine SWp.skip ?_ | refine SWp.exit ?_ | refine SWp.ret ?_); try (simp (disch := first | omega | (simp only [List.length_set, List.length_append, List.length_cons, List.length_nil, List.length_map]; omega)) only [go_sem, Nat.reduceEqDiff, Nat.reduceBEq, Nat.reduceAdd, Nat.reduceMul, Nat.reduceSub, Nat.reduceLeDiff, Int.reduceToNat, Int.reducePow, q7, q8, q9, q11, q12, q13, q14, q15, g0, g1, g2, g3, g4, ca, cb, ch, c7, c8, c9, d0, d1, d2, t0, t1, t2, hc1, hl0])) | ((first | refine splitG (fun ht => ?_) (fun ht => ?_) | refine splitGB (fun ht => ?_) (fun ht => ?_) | refine splitR (fun ht => ?_) (fun ht => ?_) | refine splitRB (fun ht => ?_) (fun ht => ?_) | refine splitE (fun ht => ?_) (fun ht => ?_) | refine splitEB (fun ht => ?_) (fun ht => ?_) | refine splitC (fun ht => ?_) (fun ht => ?_) | refine splitCB (fun ht => ?_) (fun ht => ?_)) <;> (simp (disch := first | omega | (simp only [List.length_set, List.length_append, List.length_cons, List.length_nil, List.length_map]; omega)) only [go_sem, Nat.reduceEqDiff, Nat.reduceBEq, Nat.reduceAdd, Nat.reduceMul, Nat.reduceSub, Nat.reduceLeDiff, Int.reduceToNat, Int.reducePow, q7, q8, q9, q11, q12, q13, q14, q15, g0, g1, g2, g3, g4, ca, cb, ch, c7, c8, c9, d0, d1, d2, t0, t1, t2, hc1, hl0])))
            have hM2 := (((hM.setp (qs := qs) (qv := .vsl 32 (hrows qs) ex) (.inr ⟨ex, rfl⟩)).seta (nodeS_len h a)).setb (nodeS_len h b)).app (y := [some [byteEsC h], some [byteEsC h]])
            refine SWp.loop (fun m ρ2 σ2 => ∃ (i2 last2 : Nat), m = i2 ∧ ChkM ia ib σ σ2 o nw (.vsl 32 (hrows qs) ex) qs (nodeS h a) (nodeS h b) ∧ lp i2 last2 = true :: P ∧ 0 < i2 ∧ (i2 % 2 = 1 ∨ i2 = last2) ∧ i2 < 4096 ∧ last2 ≤ i ∧
              ρ2 7 = .ptr σ.length 0 0 ∧ ρ2 8 = .ptr (σ.length + 1) 0 0 ∧ ρ2 9 = .ptr (σ.length + 2) 0 0 ∧ ρ2 11 = .int .i64 i2 ∧ ρ2 12 = .int .i64 last2 ∧ ρ2 13 = .fn 64 [.ptr (σ.length + 2) 0 0] ∧ ρ2 14 = .ptr (σ.length + ia) 0 0 ∧ ρ2 15 = .ptr (σ.length + ib) 0 0) i ?_ ?_
            · exact ⟨i, i, rfl, hM2, hP, by omega, .inr rfl, hi, by omega, by simp (disch := first | omega | (simp only [List.length_set, List.length_append, List.length_cons, List.length_nil, List.length_map]; omega)) only [go_sem, Nat.reduceEqDiff, Nat.reduceBEq, Nat.reduceAdd, Nat.reduceMul, Nat.reduceSub, Nat.reduceLeDiff, Int.reduceToNat, Int.reducePow, q7], by simp (disch := first | omega | (simp only [List.length_set, List.length_append, List.length_cons, List.length_nil, List.length_map]; omega)) only [go_sem, Nat.reduceEqDiff, Nat.reduceBEq, Nat.reduceAdd, Nat.reduceMul, Nat.reduceSub, Nat.reduceLeDiff, Int.reduceToNat, Int.reducePow, q8], by simp (disch := first | omega | (simp only [List.length_set, List.length_append, List.length_cons, List.length_nil, List.length_map]; omega)) only [go_sem, Nat.reduceEqDiff, Nat.reduceBEq, Nat.reduceAdd, Nat.reduceMul, Nat.reduceSub, Nat.reduceLeDiff, Int.reduceToNat, Int.reducePow, q9], by simp (disch := first | omega | (simp only [List.length_set, List.length_append, List.length_cons, List.length_nil, List.length_map]; omega)) only [go_sem, Nat.reduceEqDiff, Nat.reduceBEq, Nat.reduceAdd, Nat.reduceMul, Nat.reduceSub, Nat.reduceLeDiff, Int.reduceToNat, Int.reducePow, q11], by simp (disch := first | omega | (simp only [List.length_set, List.length_append, List.length_cons, List.length_nil, List.length_map]; omega)) only [go_sem, Nat.reduceEqDiff, Nat.reduceBEq, Nat.reduceAdd, Nat.reduceMul, Nat.reduceSub, Nat.reduceLeDiff, Int.reduceToNat, Int.reducePow, q12], by simp (disch := first | omega | (simp only [List.length_set, List.length_append, List.length_cons, List.length_nil, List.length_map]; omega)) only [go_sem, Nat.reduceEqDiff, Nat.reduceBEq, Nat.reduceAdd, Nat.reduceMul, Nat.reduceSub, Nat.reduceLeDiff, Int.reduceToNat, Int.reducePow, q13], by simp (disch := first | omega | (simp only [List.length_set, List.length_append, List.length_cons, List.length_nil, List.length_map]; omega)) only [go_sem, Nat.reduceEqDiff, Nat.reduceBEq, Nat.reduceAdd, Nat.reduceMul, Nat.reduceSub, Nat.reduceLeDiff, Int.reduceToNat, Int.reducePow, q14], by simp (disch := first | omega | (simp only [List.length_set, List.length_append, List.length_cons, List.length_nil, List.length_map]; omega)) only [go_sem, Nat.reduceEqDiff, Nat.reduceBEq, Nat.reduceAdd, Nat.reduceMul, Nat.reduceSub, Nat.reduceLeDiff, Int.reduceToNat, Int.reducePow, q15]⟩
            · clear q7 q8 q9 q11 q12 q13 q14 q15 g0 g1 g2 g3 g4
              rintro i2 ρ2 σ2 ⟨_, last2, rfl, hM3, hlp, hp0, hor, hb2, hl2, q7, q8, q9, q11, q12, q13, q14, q15⟩
              have hln : last2 ≠ 0 := by
                intro e; rw [e, lp_zero] at hlp; simp at hlp
              by_cases hodd : i2 % 2 = 1
              · have hx1 : (i2 : Int) % 2 = 1 := by omega
                rw [lp_odd hodd hln] at hlp
                have hP2 : lp (i2 / 2) (last2 / 2) = P := by simpa using hlp
                rw [← hP2] at hR
                repeat' (first | refine SWp.seq ?_ | refine SWp.block ?_ | refine SWp.scope ?_ | (refine SWp.reg ?_; (simp (disch := first | omega | (simp only [List.length_set, List.length_append, List.length_cons, List.length_nil, List.length_map]; omega)) only [go_sem, Nat.reduceEqDiff, Nat.reduceBEq, Nat.reduceAdd, Nat.reduceMul, Nat.reduceSub, Nat.reduceLeDiff, Int.reduceToNat, Int.reducePow, q7, q8, q9, q11, q12, q13, q14, q15, hx1])) | refine SWp.condT rfl ?_ | refine SWp.condF rfl ?_ | (refine SWp.condD rfl (fun ht => ?_) (fun ht => ?_) <;> try (exfalso; omega)) | ((first | refine SWp.skip ?_ | refine SWp.exit ?_ | refine SWp.ret ?_); try (simp (disch := first | omega | (simp only [List.length_set, List.length_append, List.length_cons, List.length_nil, List.length_map]; omega)) only [go_sem, Nat.reduceEqDiff, Nat.reduceBEq, Nat.reduceAdd, Nat.reduceMul, Nat.reduceSub, Nat.reduceLeDiff, Int.reduceToNat, Int.reducePow, q7, q8, q9, q11, q12, q13, q14, q15, hx1])) | ((first | refine splitG (fun ht => ?_) (fun ht => ?_) | refine splitGB (fun ht => ?_) (fun ht => ?_) | refine splitR (fun ht => ?_) (fun ht => ?_) | refine splitRB (fun ht => ?_) (fun ht => ?_) | refine splitE (fun ht => ?_) (fun ht => ?_) | refine splitEB (fun ht => ?_) (fun ht => ?_) | refine splitC (fun ht => ?_) (fun ht => ?_) | refine splitCB (fun ht => ?_) (fun ht => ?_)) <;> (simp (disch := first | omega | (simp only [List.length_set, List.length_append, List.length_cons, List.length_nil, List.length_map]; omega)) only [go_sem, Nat.reduceEqDiff, Nat.reduceBEq, Nat.reduceAdd, Nat.reduceMul, Nat.reduceSub, Nat.reduceLeDiff, Int.reduceToNat, Int.reducePow, q7, q8, q9, q11, q12, q13, q14, q15, hx1])))
                exact ⟨last2 / 2, by omega, i2 / 2, last2 / 2, _, qs, _, _, rfl, hM3, hq, by omega, by omega, by omega, hR, by simp, by simp⟩
              · have hx1 : (i2 : Int) % 2 = 0 := by omega
                have hx2 : (0 : Int) < i2 := by omega
                obtain rfl : i2 = last2 := hor.resolve_left hodd
                rw [lp_eq hodd] at hlp
                repeat' (first | refine SWp.seq ?_ | refine SWp.block ?_ | refine SWp.scope ?_ | (refine SWp.reg ?_; (simp (disch := first | omega | (simp only [List.length_set, List.length_append, List.length_cons, List.length_nil, List.length_map]; omega)) only [go_sem, Nat.reduceEqDiff, Nat.reduceBEq, Nat.reduceAdd, Nat.reduceMul, Nat.reduceSub, Nat.reduceLeDiff, Int.reduceToNat, Int.reducePow, q7, q8, q9, q11, q12, q13, q14, q15, hx1, hx2])) | refine SWp.condT rfl ?_ | refine SWp.condF rfl ?_ | (refine SWp.condD rfl (fun ht => ?_) (fun ht => ?_) <;> try (exfalso; omega)) | ((first | refine SWp.skip ?_ | refine SWp.exit ?_ | refine SWp.ret ?_); try (simp (disch := first | omega | (simp only [List.length_set, List.length_append, List.length_cons, List.length_nil, List.length_map]; omega)) only [go_sem, Nat.reduceEqDiff, Nat.reduceBEq, Nat.reduceAdd, Nat.reduceMul, Nat.reduceSub, Nat.reduceLeDiff, Int.reduceToNat, Int.reducePow, q7, q8, q9, q11, q12, q13, q14, q15, hx1, hx2])) | ((first | refine splitG (fun ht => ?_) (fun ht => ?_) | refine splitGB (fun ht => ?_) (fun ht => ?_) | refine splitR (fun ht => ?_) (fun ht => ?_) | refine splitRB (fun ht => ?_) (fun ht => ?_) | refine splitE (fun ht => ?_) (fun ht => ?_) | refine splitEB (fun ht => ?_) (fun ht => ?_) | refine splitC (fun ht => ?_) (fun ht => ?_) | refine splitCB (fun ht => ?_) (fun ht => ?_)) <;> (simp (disch := first | omega | (simp only [List.length_set, List.length_append, List.length_cons, List.length_nil, List.length_map]; omega)) only [go_sem, Nat.reduceEqDiff, Nat.reduceBEq, Nat.reduceAdd, Nat.reduceMul, Nat.reduceSub, Nat.reduceLeDiff, Int.reduceToNat, Int.reducePow, q7, q8, q9, q11, q12, q13, q14, q15, hx1, hx2])))
                exact ⟨i2 / 2, by omega, i2 / 2, i2 / 2, rfl, hM3, hlp, by omega, .inr rfl, by omega, by omega, by simp, by simp⟩
      · have hc1 : (i : Int) % 2 = 0 := by omega
        have hc2 : ¬ (i : Int) = last := by omega
        have hl0 : (0 : Int) < last := by omega
        rw [lp_ne (by omega) h0 (by omega)] at hR
        repeat' (first | (apply callW.any; (first | exact (hnx) | exact (trees_Node_to _ h a hh hM.ha) | exact (trees_Node_to _ h b hh hM.hb) | exact (trees_Node_to _ b h hM.hb hh)); all_goals try (simp (disch := first | omega | (simp only [List.length_set, List.length_append, List.length_cons, List.length_nil, List.length_map]; omega)) only [go_sem, Nat.reduceEqDiff, Nat.reduceBEq, Nat.reduceAdd, Nat.reduceMul, Nat.reduceSub, Nat.reduceLeDiff, Int.reduceToNat, Int.reducePow, q7, q8, q9, q11, q12, q13, q14, q15, g0, g1, g2, g3, g4, ca, cb, ch, c7, c8, c9, d0, d1, d2, t0, t1, t2, hc1, hc2, hl0])) | refine SWp.seq ?_ | refine SWp.block ?_ | refine SWp.scope ?_ | (refine SWp.reg ?_; (simp (disch := first | omega | (simp only [List.length_set, List.length_append, List.length_cons, List.length_nil, List.length_map]; omega)) only [go_sem, Nat.reduceEqDiff, Nat.reduceBEq, Nat.reduceAdd, Nat.reduceMul, Nat.reduceSub, Nat.reduceLeDiff, Int.reduceToNat, Int.reducePow, q7, q8, q9, q11, q12, q13, q14, q15, g0, g1, g2, g3, g4, ca, cb, ch, c7, c8, c9, d0, d1, d2, t0, t1, t2, hc1, hc2, hl0])) | refine SWp.condT rfl ?_ | refine SWp.condF rfl ?_ | (refine SWp.condD rfl (fun ht => ?_) (fun ht => ?_) <;> try (exfalso; omega)) | ((first | refine SWp.skip ?_ | refine SWp.exit ?_ | refine SWp.ret ?_); try (simp (disch := first | omega | (simp only [List.length_set, List.length_append, List.length_cons, List.length_nil, List.length_map]; omega)) only [go_sem, Nat.reduceEqDiff, Nat.reduceBEq, Nat.reduceAdd, Nat.reduceMul, Nat.reduceSub, Nat.reduceLeDiff, Int.reduceToNat, Int.reducePow, q7, q8, q9, q11, q12, q13, q14, q15, g0, g1, g2, g3, g4, ca, cb, ch, c7, c8, c9, d0, d1, d2, t0, t1, t2, hc1, hc2, hl0])) | ((first | refine splitG (fun ht => ?_) (fun ht => ?_) | refine splitGB (fun ht => ?_) (fun ht => ?_) | refine splitR (fun ht => ?_) (fun ht => ?_) | refine splitRB (fun ht => ?_) (fun ht => ?_) | refine splitE (fun ht => ?_) (fun ht => ?_) | refine splitEB (fun ht => ?_) (fun ht => ?_) | refine splitC (fun ht => ?_) (fun ht => ?_) | refine splitCB (fun ht => ?_) (fun ht => ?_)) <;> (simp (disch := first | omega | (simp only [List.length_set, List.length_append, List.length_cons, List.length_nil, List.length_map]; omega)) only [go_sem, Nat.reduceEqDiff, Nat.reduceBEq, Nat.reduceAdd, Nat.reduceMul, Nat.reduceSub, Nat.reduceLeDiff, Int.reduceToNat, Int.reducePow, q7, q8, q9, q11, q12, q13, q14, q15, g0, g1, g2, g3, g4, ca, cb, ch, c7, c8, c9, d0, d1, d2, t0, t1, t2, hc1, hc2, hl0])))
        exact ⟨last / 2, by omega, i / 2, last / 2, _, qs, a, nodeS b h, rfl, ((hM.setp (qs := qs) (qv := .vsl 32 (hrows qs) ex) (.inr ⟨ex, rfl⟩)).setb (nodeS_len b h)).app, hq, by omega, by omega, by omega, hR, by simp, by simp⟩
end Am
end Go.Proofs.YtfofemaglndnjaaDoor
end
