/- Abstract code. (Printed by wip/gen.) -/
import Derived.Test.YtkffgmpbhahioaaSeat
set_option maxRecDepth 10000
namespace Go.Proofs.Ytkffgmpbhahioaa
namespace Am





-- 3 speculum/speculumlaw20.LinksOnce
@[go_sem] def speculumlaw20_LinksOnce_r0 : List AIns := [
  ⟨some 6, none, .no, .mv (.v (.bool false))⟩]
@[go_sem] def speculumlaw20_LinksOnce_r1 : List AIns := [
  ⟨some 19, none, .no, .mv (.t 0)⟩,
  ⟨some 20, none, .no, .lenSl (.t 19)⟩,
  ⟨some 21, none, .no, .bin .gtr .none (.t 20) (.v (.int .i64 (80)))⟩,
  ⟨some 22, none, .no, .mv (.t 21)⟩,
  ⟨some 23, some (22, false), .no, .mv (.t 1)⟩,
  ⟨some 24, some (22, false), .no, .lenSl (.t 23)⟩,
  ⟨some 25, some (22, false), .no, .bin .gtr .none (.t 24) (.v (.int .i64 (80)))⟩,
  ⟨some 26, none, .no, .pick (.t 22) (.v (.bool true)) (.t 25)⟩]
@[go_sem] def speculumlaw20_LinksOnce_r2 : List AIns := [
  ⟨some 27, none, .no, .call (.v (.fn 10 [])) []⟩,
  ⟨some 6, none, .no, .mv (.t 27)⟩]
def speculumlaw20_LinksOnce_c3 : ACode := .seq (.reg speculumlaw20_LinksOnce_r2) .ret
def speculumlaw20_LinksOnce_c4 : ACode := .cond (.t 26) speculumlaw20_LinksOnce_c3 .skip
def speculumlaw20_LinksOnce_c5 : ACode := .seq (.reg speculumlaw20_LinksOnce_r1) speculumlaw20_LinksOnce_c4
@[go_sem] def speculumlaw20_LinksOnce_r6 : List AIns := [
  ⟨some 29, none, .no, .call (.v (.fn 11 [])) [(.v (.int .i64 (2)))]⟩,
  ⟨some 28, none, .no, .mv (.t 29)⟩,
  ⟨some 30, none, .no, .ext 0 (.t 28)⟩,
  ⟨some 31, none, .no, .ext 1 (.t 28)⟩,
  ⟨some 7, none, .no, .mv (.t 30)⟩,
  ⟨some 8, none, .no, .mv (.t 31)⟩]
@[go_sem] def speculumlaw20_LinksOnce_r7 : List AIns := [
  ⟨some 32, none, .no, .mv (.t 8)⟩,
  ⟨some 33, none, .no, .bin .neq .none (.t 32) (.v (.int .i64 (0)))⟩]
@[go_sem] def speculumlaw20_LinksOnce_r8 : List AIns := [
  ⟨some 6, none, .no, .mv (.v (.bool false))⟩]
def speculumlaw20_LinksOnce_c9 : ACode := .seq (.reg speculumlaw20_LinksOnce_r8) .ret
def speculumlaw20_LinksOnce_c10 : ACode := .cond (.t 33) speculumlaw20_LinksOnce_c9 .skip
def speculumlaw20_LinksOnce_c11 : ACode := .seq (.reg speculumlaw20_LinksOnce_r7) speculumlaw20_LinksOnce_c10
@[go_sem] def speculumlaw20_LinksOnce_r12 : List AIns := [
  ⟨some 34, none, .no, .mv (.t 0)⟩,
  ⟨some 35, none, .no, .lenSl (.t 34)⟩,
  ⟨some 36, none, .no, .make 1 [(.int .i64 (0))] (.t 35) (.t 35)⟩,
  ⟨some 9, none, .no, .mv (.t 36)⟩]
@[go_sem] def speculumlaw20_LinksOnce_r13 : List AIns := [
  ⟨some 10, none, .no, .mv (.v (.int .i64 (0)))⟩]
@[go_sem] def speculumlaw20_LinksOnce_r14 : List AIns := [
  ⟨some 37, none, .no, .mv (.t 10)⟩,
  ⟨some 38, none, .no, .mv (.t 0)⟩,
  ⟨some 39, none, .no, .lenSl (.t 38)⟩,
  ⟨some 40, none, .no, .bin .lss .none (.t 37) (.t 39)⟩]
def speculumlaw20_LinksOnce_c15 : ACode := .cond (.t 40) .skip (.exit 0)
def speculumlaw20_LinksOnce_c16 : ACode := .seq (.reg speculumlaw20_LinksOnce_r14) speculumlaw20_LinksOnce_c15
@[go_sem] def speculumlaw20_LinksOnce_r17 : List AIns := [
  ⟨some 43, none, .no, .mv (.t 0)⟩,
  ⟨some 44, none, .no, .mv (.t 10)⟩,
  ⟨some 45, none, .no, .iaSl 1 (.t 43) (.t 44)⟩,
  ⟨some 46, none, .no, .load false 1 (.t 45)⟩,
  ⟨some 47, none, .no, .lenStr (.t 46)⟩,
  ⟨some 48, none, .no, .bin .gtr .none (.t 47) (.v (.int .i64 (100)))⟩,
  ⟨some 49, none, .no, .mv (.t 48)⟩,
  ⟨some 50, some (49, false), .no, .mv (.t 7)⟩,
  ⟨some 51, some (49, false), .no, .mv (.t 10)⟩,
  ⟨some 52, some (49, false), .no, .conv (.int .u8) (.t 51)⟩,
  ⟨some 53, some (49, false), .no, .lit 1 [(.t 52)]⟩,
  ⟨some 54, some (49, false), .ef, .conv .str (.t 53)⟩,
  ⟨some 55, some (49, false), .no, .mv (.t 0)⟩,
  ⟨some 56, some (49, false), .no, .mv (.t 10)⟩,
  ⟨some 57, some (49, false), .no, .iaSl 1 (.t 55) (.t 56)⟩,
  ⟨some 58, some (49, false), .rd, .load false 1 (.t 57)⟩,
  ⟨some 59, some (49, false), .no, .bin .add .none (.t 54) (.t 58)⟩,
  ⟨some 60, some (49, false), .no, .build [(.int .i64 (0)), (.int .i64 (0)), (.str [])] [(0, 1, (.v (.int .i64 (0)))), (1, 1, (.v (.int .i64 (1)))), (2, 1, (.t 59))]⟩,
  ⟨some 61, some (49, false), .no, .call (.v (.fn 12 [])) [(.t 50), (.t 60)]⟩,
  ⟨some 62, some (49, false), .no, .bin .neq .none (.t 61) (.v (.int .i64 (0)))⟩,
  ⟨some 63, none, .no, .pick (.t 49) (.v (.bool true)) (.t 62)⟩]
@[go_sem] def speculumlaw20_LinksOnce_r18 : List AIns := [
  ⟨some 64, none, .no, .mv (.t 0)⟩,
  ⟨some 65, none, .no, .mv (.t 10)⟩,
  ⟨some 66, none, .no, .iaSl 1 (.t 64) (.t 65)⟩,
  ⟨some 67, none, .no, .load false 1 (.t 66)⟩,
  ⟨some 68, none, .no, .lenStr (.t 67)⟩,
  ⟨some 69, none, .no, .bin .gtr .none (.t 68) (.v (.int .i64 (100)))⟩,
  ⟨some 70, none, .no, .mv (.t 69)⟩,
  ⟨some 71, some (70, true), .no, .call (.v (.fn 10 [])) []⟩,
  ⟨some 72, none, .no, .pick (.t 70) (.t 71) (.v (.bool false))⟩,
  ⟨some 6, none, .no, .mv (.t 72)⟩]
def speculumlaw20_LinksOnce_c19 : ACode := .seq (.reg speculumlaw20_LinksOnce_r18) .ret
def speculumlaw20_LinksOnce_c20 : ACode := .cond (.t 63) speculumlaw20_LinksOnce_c19 .skip
def speculumlaw20_LinksOnce_c21 : ACode := .seq (.reg speculumlaw20_LinksOnce_r17) speculumlaw20_LinksOnce_c20
@[go_sem] def speculumlaw20_LinksOnce_r22 : List AIns := [
  ⟨some 73, none, .no, .mv (.t 9)⟩,
  ⟨some 74, none, .no, .mv (.t 10)⟩,
  ⟨some 75, none, .no, .iaSl 1 (.t 73) (.t 74)⟩,
  ⟨none, none, .no, .store 1 (.t 75) (.v (.int .i64 (1)))⟩]
def speculumlaw20_LinksOnce_c23 : ACode := .seq speculumlaw20_LinksOnce_c21 (.reg speculumlaw20_LinksOnce_r22)
@[go_sem] def speculumlaw20_LinksOnce_r24 : List AIns := [
  ⟨some 41, none, .no, .mv (.t 10)⟩,
  ⟨some 42, none, .no, .bin .add .none (.t 41) (.v (.int .i64 (1)))⟩,
  ⟨some 10, none, .no, .mv (.t 42)⟩]
def speculumlaw20_LinksOnce_c25 : ACode := .seq (.block 1 speculumlaw20_LinksOnce_c23) (.reg speculumlaw20_LinksOnce_r24)
def speculumlaw20_LinksOnce_c26 : ACode := .seq speculumlaw20_LinksOnce_c16 speculumlaw20_LinksOnce_c25
def speculumlaw20_LinksOnce_c27 : ACode := .loop speculumlaw20_LinksOnce_c26
def speculumlaw20_LinksOnce_c28 : ACode := .block 0 speculumlaw20_LinksOnce_c27
def speculumlaw20_LinksOnce_c29 : ACode := .seq (.reg speculumlaw20_LinksOnce_r13) speculumlaw20_LinksOnce_c28
@[go_sem] def speculumlaw20_LinksOnce_r30 : List AIns := [
  ⟨some 11, none, .no, .mv (.v (.int .i64 (0)))⟩]
@[go_sem] def speculumlaw20_LinksOnce_r31 : List AIns := [
  ⟨some 76, none, .no, .mv (.t 11)⟩,
  ⟨some 77, none, .no, .mv (.t 1)⟩,
  ⟨some 78, none, .no, .lenSl (.t 77)⟩,
  ⟨some 79, none, .no, .bin .lss .none (.t 76) (.t 78)⟩]
def speculumlaw20_LinksOnce_c32 : ACode := .cond (.t 79) .skip (.exit 2)
def speculumlaw20_LinksOnce_c33 : ACode := .seq (.reg speculumlaw20_LinksOnce_r31) speculumlaw20_LinksOnce_c32
@[go_sem] def speculumlaw20_LinksOnce_r34 : List AIns := [
  ⟨some 82, none, .no, .mv (.t 7)⟩,
  ⟨some 83, none, .no, .call (.v (.fn 13 [])) [(.t 82)]⟩,
  ⟨some 12, none, .no, .mv (.t 83)⟩]
@[go_sem] def speculumlaw20_LinksOnce_r35 : List AIns := [
  ⟨some 84, none, .no, .mv (.t 12)⟩,
  ⟨some 85, none, .no, .lenSl (.t 84)⟩,
  ⟨some 86, none, .no, .bin .eql .none (.t 85) (.v (.int .i64 (0)))⟩]
def speculumlaw20_LinksOnce_c36 : ACode := .cond (.t 86) (.exit 2) .skip
def speculumlaw20_LinksOnce_c37 : ACode := .seq (.reg speculumlaw20_LinksOnce_r35) speculumlaw20_LinksOnce_c36
@[go_sem] def speculumlaw20_LinksOnce_r38 : List AIns := [
  ⟨some 87, none, .no, .mv (.t 1)⟩,
  ⟨some 88, none, .no, .mv (.t 11)⟩,
  ⟨some 89, none, .no, .iaSl 1 (.t 87) (.t 88)⟩,
  ⟨some 90, none, .no, .load false 1 (.t 89)⟩,
  ⟨some 91, none, .no, .bin .quo .none (.t 90) (.v (.int .u8 (8)))⟩,
  ⟨some 92, none, .no, .conv (.int .i64) (.t 91)⟩,
  ⟨some 93, none, .no, .mv (.t 12)⟩,
  ⟨some 94, none, .no, .lenSl (.t 93)⟩,
  ⟨some 95, none, .no, .bin .rem .none (.t 92) (.t 94)⟩,
  ⟨some 13, none, .no, .mv (.t 95)⟩]
@[go_sem] def speculumlaw20_LinksOnce_r39 : List AIns := [
  ⟨some 96, none, .no, .mv (.t 12)⟩,
  ⟨some 97, none, .no, .mv (.t 13)⟩,
  ⟨some 98, none, .no, .iaSl 3 (.t 96) (.t 97)⟩,
  ⟨some 99, none, .no, .fa 2 (.t 98)⟩,
  ⟨some 100, none, .no, .load false 1 (.t 99)⟩,
  ⟨some 101, none, .no, .lenStr (.t 100)⟩,
  ⟨some 102, none, .no, .bin .eql .none (.t 101) (.v (.int .i64 (0)))⟩]
@[go_sem] def speculumlaw20_LinksOnce_r40 : List AIns := [
  ⟨some 6, none, .no, .mv (.v (.bool false))⟩]
def speculumlaw20_LinksOnce_c41 : ACode := .seq (.reg speculumlaw20_LinksOnce_r40) .ret
def speculumlaw20_LinksOnce_c42 : ACode := .cond (.t 102) speculumlaw20_LinksOnce_c41 .skip
def speculumlaw20_LinksOnce_c43 : ACode := .seq (.reg speculumlaw20_LinksOnce_r39) speculumlaw20_LinksOnce_c42
@[go_sem] def speculumlaw20_LinksOnce_r44 : List AIns := [
  ⟨some 103, none, .no, .mv (.t 12)⟩,
  ⟨some 104, none, .no, .mv (.t 13)⟩,
  ⟨some 105, none, .no, .iaSl 3 (.t 103) (.t 104)⟩,
  ⟨some 106, none, .no, .fa 2 (.t 105)⟩,
  ⟨some 107, none, .no, .load false 1 (.t 106)⟩,
  ⟨some 108, none, .no, .ixStr (.t 107) (.v (.int .i64 (0)))⟩,
  ⟨some 109, none, .no, .conv (.int .i64) (.t 108)⟩,
  ⟨some 14, none, .no, .mv (.t 109)⟩]
@[go_sem] def speculumlaw20_LinksOnce_r45 : List AIns := [
  ⟨some 110, none, .no, .mv (.t 14)⟩,
  ⟨some 111, none, .no, .mv (.t 0)⟩,
  ⟨some 112, none, .no, .lenSl (.t 111)⟩,
  ⟨some 113, none, .no, .bin .geq .none (.t 110) (.t 112)⟩]
@[go_sem] def speculumlaw20_LinksOnce_r46 : List AIns := [
  ⟨some 6, none, .no, .mv (.v (.bool false))⟩]
def speculumlaw20_LinksOnce_c47 : ACode := .seq (.reg speculumlaw20_LinksOnce_r46) .ret
def speculumlaw20_LinksOnce_c48 : ACode := .cond (.t 113) speculumlaw20_LinksOnce_c47 .skip
def speculumlaw20_LinksOnce_c49 : ACode := .seq (.reg speculumlaw20_LinksOnce_r45) speculumlaw20_LinksOnce_c48
@[go_sem] def speculumlaw20_LinksOnce_r50 : List AIns := [
  ⟨some 114, none, .no, .mv (.t 1)⟩,
  ⟨some 115, none, .no, .mv (.t 11)⟩,
  ⟨some 116, none, .no, .iaSl 1 (.t 114) (.t 115)⟩,
  ⟨some 117, none, .no, .load false 1 (.t 116)⟩,
  ⟨some 118, none, .no, .bin .rem .none (.t 117) (.v (.int .u8 (8)))⟩]
@[go_sem] def speculumlaw20_LinksOnce_r51 : List AIns := [
  ⟨some 120, none, .no, .bin .eql .none (.t 118) (.v (.int .u8 (0)))⟩,
  ⟨some 119, none, .no, .mv (.t 120)⟩]
@[go_sem] def speculumlaw20_LinksOnce_r52 : List AIns := [
  ⟨some 121, none, .no, .mv (.t 9)⟩,
  ⟨some 122, none, .no, .mv (.t 14)⟩,
  ⟨some 123, none, .no, .iaSl 1 (.t 121) (.t 122)⟩,
  ⟨some 124, none, .no, .load false 1 (.t 123)⟩,
  ⟨some 125, none, .no, .bin .sub .none (.t 124) (.v (.int .i64 (1)))⟩,
  ⟨some 126, none, .no, .iaSl 1 (.t 121) (.t 122)⟩,
  ⟨none, none, .no, .store 1 (.t 126) (.t 125)⟩]
@[go_sem] def speculumlaw20_LinksOnce_r53 : List AIns := [
  ⟨some 127, none, .no, .mv (.t 7)⟩,
  ⟨some 128, none, .no, .mv (.t 13)⟩,
  ⟨some 129, none, .no, .call (.v (.fn 14 [])) [(.t 127), (.t 128)]⟩,
  ⟨some 8, none, .no, .mv (.t 129)⟩]
def speculumlaw20_LinksOnce_c54 : ACode := .seq (.reg speculumlaw20_LinksOnce_r52) (.reg speculumlaw20_LinksOnce_r53)
@[go_sem] def speculumlaw20_LinksOnce_r55 : List AIns := [
  ⟨some 131, none, .no, .bin .eql .none (.t 118) (.v (.int .u8 (1)))⟩,
  ⟨some 130, none, .no, .mv (.t 131)⟩]
@[go_sem] def speculumlaw20_LinksOnce_r56 : List AIns := [
  ⟨some 132, none, .no, .mv (.t 9)⟩,
  ⟨some 133, none, .no, .mv (.t 14)⟩,
  ⟨some 134, none, .no, .iaSl 1 (.t 132) (.t 133)⟩,
  ⟨some 135, none, .no, .load false 1 (.t 134)⟩,
  ⟨some 136, none, .no, .bin .add .none (.t 135) (.v (.int .i64 (1)))⟩,
  ⟨some 137, none, .no, .iaSl 1 (.t 132) (.t 133)⟩,
  ⟨none, none, .no, .store 1 (.t 137) (.t 136)⟩]
@[go_sem] def speculumlaw20_LinksOnce_r57 : List AIns := [
  ⟨some 138, none, .no, .mv (.t 7)⟩,
  ⟨some 139, none, .no, .mv (.t 13)⟩,
  ⟨some 140, none, .no, .call (.v (.fn 15 [])) [(.t 138), (.t 139)]⟩,
  ⟨some 8, none, .no, .mv (.t 140)⟩]
def speculumlaw20_LinksOnce_c58 : ACode := .seq (.reg speculumlaw20_LinksOnce_r56) (.reg speculumlaw20_LinksOnce_r57)
@[go_sem] def speculumlaw20_LinksOnce_r59 : List AIns := [
  ⟨some 142, none, .no, .bin .eql .none (.t 118) (.v (.int .u8 (2)))⟩,
  ⟨some 141, none, .no, .mv (.t 142)⟩]
@[go_sem] def speculumlaw20_LinksOnce_r60 : List AIns := [
  ⟨some 143, none, .no, .mv (.t 7)⟩,
  ⟨some 144, none, .no, .mv (.t 13)⟩,
  ⟨some 145, none, .no, .mv (.t 12)⟩,
  ⟨some 146, none, .no, .mv (.t 13)⟩,
  ⟨some 147, none, .no, .iaSl 3 (.t 145) (.t 146)⟩,
  ⟨some 148, none, .no, .fa 2 (.t 147)⟩,
  ⟨some 149, none, .no, .load false 1 (.t 148)⟩,
  ⟨some 150, none, .no, .lenStr (.t 149)⟩,
  ⟨some 151, none, .no, .bin .sub .none (.t 150) (.v (.int .i64 (1)))⟩,
  ⟨some 152, none, .no, .mv (.t 2)⟩,
  ⟨some 153, none, .no, .call (.v (.fn 16 [])) [(.t 143), (.t 144), (.t 151), (.t 152)]⟩,
  ⟨some 15, none, .no, .mv (.t 153)⟩]
@[go_sem] def speculumlaw20_LinksOnce_r61 : List AIns := [
  ⟨some 154, none, .no, .mv (.t 7)⟩,
  ⟨some 155, none, .no, .mv (.t 13)⟩,
  ⟨some 156, none, .no, .mv (.t 12)⟩,
  ⟨some 157, none, .no, .mv (.t 13)⟩,
  ⟨some 158, none, .no, .iaSl 3 (.t 156) (.t 157)⟩,
  ⟨some 159, none, .no, .fa 2 (.t 158)⟩,
  ⟨some 160, none, .no, .load false 1 (.t 159)⟩,
  ⟨some 161, none, .no, .lenStr (.t 160)⟩,
  ⟨some 162, none, .no, .bin .sub .none (.t 161) (.v (.int .i64 (1)))⟩,
  ⟨some 163, none, .no, .mv (.t 2)⟩,
  ⟨some 164, none, .no, .call (.v (.fn 16 [])) [(.t 154), (.t 155), (.t 162), (.t 163)]⟩,
  ⟨some 8, none, .no, .mv (.t 164)⟩]
@[go_sem] def speculumlaw20_LinksOnce_r62 : List AIns := [
  ⟨some 165, none, .no, .mv (.t 15)⟩,
  ⟨some 166, none, .no, .bin .neq .none (.t 165) (.v (.int .i64 (0)))⟩]
@[go_sem] def speculumlaw20_LinksOnce_r63 : List AIns := [
  ⟨some 6, none, .no, .mv (.v (.bool false))⟩]
def speculumlaw20_LinksOnce_c64 : ACode := .seq (.reg speculumlaw20_LinksOnce_r63) .ret
def speculumlaw20_LinksOnce_c65 : ACode := .cond (.t 166) speculumlaw20_LinksOnce_c64 .skip
def speculumlaw20_LinksOnce_c66 : ACode := .seq (.reg speculumlaw20_LinksOnce_r62) speculumlaw20_LinksOnce_c65
def speculumlaw20_LinksOnce_c67 : ACode := .seq (.reg speculumlaw20_LinksOnce_r61) speculumlaw20_LinksOnce_c66
def speculumlaw20_LinksOnce_c68 : ACode := .seq (.reg speculumlaw20_LinksOnce_r60) speculumlaw20_LinksOnce_c67
@[go_sem] def speculumlaw20_LinksOnce_r69 : List AIns := [
  ⟨some 168, none, .no, .bin .eql .none (.t 118) (.v (.int .u8 (3)))⟩,
  ⟨some 167, none, .no, .mv (.t 168)⟩]
@[go_sem] def speculumlaw20_LinksOnce_r70 : List AIns := [
  ⟨some 169, none, .no, .mv (.t 7)⟩,
  ⟨some 170, none, .no, .mv (.t 13)⟩,
  ⟨some 171, none, .no, .call (.v (.fn 17 [])) [(.t 169), (.v (.int .i64 (0))), (.t 170)]⟩,
  ⟨some 8, none, .no, .mv (.t 171)⟩]
def speculumlaw20_LinksOnce_c71 : ACode := .cond (.t 167) (.reg speculumlaw20_LinksOnce_r70) .skip
def speculumlaw20_LinksOnce_c72 : ACode := .seq (.reg speculumlaw20_LinksOnce_r69) speculumlaw20_LinksOnce_c71
def speculumlaw20_LinksOnce_c73 : ACode := .cond (.t 141) speculumlaw20_LinksOnce_c68 speculumlaw20_LinksOnce_c72
def speculumlaw20_LinksOnce_c74 : ACode := .seq (.reg speculumlaw20_LinksOnce_r59) speculumlaw20_LinksOnce_c73
def speculumlaw20_LinksOnce_c75 : ACode := .cond (.t 130) speculumlaw20_LinksOnce_c58 speculumlaw20_LinksOnce_c74
def speculumlaw20_LinksOnce_c76 : ACode := .seq (.reg speculumlaw20_LinksOnce_r55) speculumlaw20_LinksOnce_c75
def speculumlaw20_LinksOnce_c77 : ACode := .cond (.t 119) speculumlaw20_LinksOnce_c54 speculumlaw20_LinksOnce_c76
def speculumlaw20_LinksOnce_c78 : ACode := .seq (.reg speculumlaw20_LinksOnce_r51) speculumlaw20_LinksOnce_c77
def speculumlaw20_LinksOnce_c79 : ACode := .block 4 speculumlaw20_LinksOnce_c78
def speculumlaw20_LinksOnce_c80 : ACode := .seq (.reg speculumlaw20_LinksOnce_r50) speculumlaw20_LinksOnce_c79
@[go_sem] def speculumlaw20_LinksOnce_r81 : List AIns := [
  ⟨some 172, none, .no, .mv (.t 8)⟩,
  ⟨some 173, none, .no, .bin .neq .none (.t 172) (.v (.int .i64 (0)))⟩]
@[go_sem] def speculumlaw20_LinksOnce_r82 : List AIns := [
  ⟨some 6, none, .no, .mv (.v (.bool false))⟩]
def speculumlaw20_LinksOnce_c83 : ACode := .seq (.reg speculumlaw20_LinksOnce_r82) .ret
def speculumlaw20_LinksOnce_c84 : ACode := .cond (.t 173) speculumlaw20_LinksOnce_c83 .skip
def speculumlaw20_LinksOnce_c85 : ACode := .seq (.reg speculumlaw20_LinksOnce_r81) speculumlaw20_LinksOnce_c84
def speculumlaw20_LinksOnce_c86 : ACode := .seq speculumlaw20_LinksOnce_c80 speculumlaw20_LinksOnce_c85
def speculumlaw20_LinksOnce_c87 : ACode := .seq speculumlaw20_LinksOnce_c49 speculumlaw20_LinksOnce_c86
def speculumlaw20_LinksOnce_c88 : ACode := .seq (.reg speculumlaw20_LinksOnce_r44) speculumlaw20_LinksOnce_c87
def speculumlaw20_LinksOnce_c89 : ACode := .seq speculumlaw20_LinksOnce_c43 speculumlaw20_LinksOnce_c88
def speculumlaw20_LinksOnce_c90 : ACode := .seq (.reg speculumlaw20_LinksOnce_r38) speculumlaw20_LinksOnce_c89
def speculumlaw20_LinksOnce_c91 : ACode := .seq speculumlaw20_LinksOnce_c37 speculumlaw20_LinksOnce_c90
def speculumlaw20_LinksOnce_c92 : ACode := .seq (.reg speculumlaw20_LinksOnce_r34) speculumlaw20_LinksOnce_c91
@[go_sem] def speculumlaw20_LinksOnce_r93 : List AIns := [
  ⟨some 80, none, .no, .mv (.t 11)⟩,
  ⟨some 81, none, .no, .bin .add .none (.t 80) (.v (.int .i64 (1)))⟩,
  ⟨some 11, none, .no, .mv (.t 81)⟩]
def speculumlaw20_LinksOnce_c94 : ACode := .seq (.block 3 speculumlaw20_LinksOnce_c92) (.reg speculumlaw20_LinksOnce_r93)
def speculumlaw20_LinksOnce_c95 : ACode := .seq speculumlaw20_LinksOnce_c33 speculumlaw20_LinksOnce_c94
def speculumlaw20_LinksOnce_c96 : ACode := .loop speculumlaw20_LinksOnce_c95
def speculumlaw20_LinksOnce_c97 : ACode := .block 2 speculumlaw20_LinksOnce_c96
def speculumlaw20_LinksOnce_c98 : ACode := .seq (.reg speculumlaw20_LinksOnce_r30) speculumlaw20_LinksOnce_c97
@[go_sem] def speculumlaw20_LinksOnce_r99 : List AIns := [
  ⟨some 175, none, .no, .mv (.t 7)⟩,
  ⟨some 176, none, .no, .call (.v (.fn 18 [])) [(.t 175), (.v (.int .i64 (0)))]⟩,
  ⟨some 174, none, .no, .mv (.t 176)⟩,
  ⟨some 177, none, .no, .ext 0 (.t 174)⟩,
  ⟨some 178, none, .no, .ext 1 (.t 174)⟩,
  ⟨some 16, none, .no, .alloc [(.int .i64 (0)), (.int .i64 (0)), (.str [])]⟩,
  ⟨none, none, .no, .store 3 (.t 16) (.t 177)⟩,
  ⟨some 17, none, .no, .mv (.t 178)⟩]
@[go_sem] def speculumlaw20_LinksOnce_r100 : List AIns := [
  ⟨some 179, none, .no, .mv (.t 17)⟩,
  ⟨some 180, none, .no, .bin .neq .none (.t 179) (.v (.int .i64 (0)))⟩]
def speculumlaw20_LinksOnce_c101 : ACode := .cond (.t 180) (.exit 5) .skip
def speculumlaw20_LinksOnce_c102 : ACode := .seq (.reg speculumlaw20_LinksOnce_r100) speculumlaw20_LinksOnce_c101
@[go_sem] def speculumlaw20_LinksOnce_r103 : List AIns := [
  ⟨some 181, none, .no, .fa 2 (.t 16)⟩,
  ⟨some 182, none, .no, .load false 1 (.t 181)⟩,
  ⟨some 183, none, .no, .lenStr (.t 182)⟩,
  ⟨some 184, none, .no, .bin .eql .none (.t 183) (.v (.int .i64 (0)))⟩,
  ⟨some 185, none, .no, .mv (.t 184)⟩,
  ⟨some 186, some (185, false), .no, .fa 2 (.t 16)⟩,
  ⟨some 187, some (185, false), .no, .load false 1 (.t 186)⟩,
  ⟨some 188, some (185, false), .no, .ixStr (.t 187) (.v (.int .i64 (0)))⟩,
  ⟨some 189, some (185, false), .no, .conv (.int .i64) (.t 188)⟩,
  ⟨some 190, some (185, false), .no, .mv (.t 0)⟩,
  ⟨some 191, some (185, false), .no, .lenSl (.t 190)⟩,
  ⟨some 192, some (185, false), .no, .bin .geq .none (.t 189) (.t 191)⟩,
  ⟨some 193, none, .no, .pick (.t 185) (.v (.bool true)) (.t 192)⟩,
  ⟨some 194, none, .no, .mv (.t 193)⟩,
  ⟨some 195, some (194, false), .no, .fa 2 (.t 16)⟩,
  ⟨some 196, some (194, false), .rd, .load false 1 (.t 195)⟩,
  ⟨some 197, some (194, false), .rd, .slice .str (.t 196) (some (.v (.int .i64 (1)))) none none⟩,
  ⟨some 198, some (194, false), .no, .mv (.t 0)⟩,
  ⟨some 199, some (194, false), .no, .fa 2 (.t 16)⟩,
  ⟨some 200, some (194, false), .rd, .load false 1 (.t 199)⟩,
  ⟨some 201, some (194, false), .no, .ixStr (.t 200) (.v (.int .i64 (0)))⟩,
  ⟨some 202, some (194, false), .no, .conv (.int .i64) (.t 201)⟩,
  ⟨some 203, some (194, false), .no, .iaSl 1 (.t 198) (.t 202)⟩,
  ⟨some 204, some (194, false), .rd, .load false 1 (.t 203)⟩,
  ⟨some 205, some (194, false), .no, .bin .neq .none (.t 197) (.t 204)⟩,
  ⟨some 206, none, .no, .pick (.t 194) (.v (.bool true)) (.t 205)⟩,
  ⟨some 207, none, .no, .mv (.t 206)⟩,
  ⟨some 208, some (207, false), .no, .fa 0 (.t 16)⟩,
  ⟨some 209, some (207, false), .no, .load false 1 (.t 208)⟩,
  ⟨some 210, some (207, false), .no, .bin .neq .none (.t 209) (.v (.int .i64 (0)))⟩,
  ⟨some 211, none, .no, .pick (.t 207) (.v (.bool true)) (.t 210)⟩,
  ⟨some 212, none, .no, .mv (.t 211)⟩,
  ⟨some 213, some (212, false), .no, .fa 1 (.t 16)⟩,
  ⟨some 214, some (212, false), .no, .load false 1 (.t 213)⟩,
  ⟨some 215, some (212, false), .no, .bin .neq .none (.t 214) (.v (.int .i64 (1)))⟩,
  ⟨some 216, none, .no, .pick (.t 212) (.v (.bool true)) (.t 215)⟩]
@[go_sem] def speculumlaw20_LinksOnce_r104 : List AIns := [
  ⟨some 6, none, .no, .mv (.v (.bool false))⟩]
def speculumlaw20_LinksOnce_c105 : ACode := .seq (.reg speculumlaw20_LinksOnce_r104) .ret
def speculumlaw20_LinksOnce_c106 : ACode := .cond (.t 216) speculumlaw20_LinksOnce_c105 .skip
def speculumlaw20_LinksOnce_c107 : ACode := .seq (.reg speculumlaw20_LinksOnce_r103) speculumlaw20_LinksOnce_c106
@[go_sem] def speculumlaw20_LinksOnce_r108 : List AIns := [
  ⟨some 217, none, .no, .mv (.t 9)⟩,
  ⟨some 218, none, .no, .fa 2 (.t 16)⟩,
  ⟨some 219, none, .no, .load false 1 (.t 218)⟩,
  ⟨some 220, none, .no, .ixStr (.t 219) (.v (.int .i64 (0)))⟩,
  ⟨some 221, none, .no, .conv (.int .i64) (.t 220)⟩,
  ⟨some 222, none, .no, .iaSl 1 (.t 217) (.t 221)⟩,
  ⟨some 223, none, .no, .load false 1 (.t 222)⟩,
  ⟨some 224, none, .no, .bin .sub .none (.t 223) (.v (.int .i64 (1)))⟩,
  ⟨some 225, none, .no, .iaSl 1 (.t 217) (.t 221)⟩,
  ⟨none, none, .no, .store 1 (.t 225) (.t 224)⟩]
def speculumlaw20_LinksOnce_c109 : ACode := .seq speculumlaw20_LinksOnce_c107 (.reg speculumlaw20_LinksOnce_r108)
def speculumlaw20_LinksOnce_c110 : ACode := .seq speculumlaw20_LinksOnce_c102 speculumlaw20_LinksOnce_c109
def speculumlaw20_LinksOnce_c111 : ACode := .seq (.reg speculumlaw20_LinksOnce_r99) speculumlaw20_LinksOnce_c110
def speculumlaw20_LinksOnce_c112 : ACode := .block 6 speculumlaw20_LinksOnce_c111
def speculumlaw20_LinksOnce_c113 : ACode := .loop speculumlaw20_LinksOnce_c112
@[go_sem] def speculumlaw20_LinksOnce_r114 : List AIns := [
  ⟨some 18, none, .no, .mv (.v (.int .i64 (0)))⟩]
@[go_sem] def speculumlaw20_LinksOnce_r115 : List AIns := [
  ⟨some 226, none, .no, .mv (.t 18)⟩,
  ⟨some 227, none, .no, .mv (.t 9)⟩,
  ⟨some 228, none, .no, .lenSl (.t 227)⟩,
  ⟨some 229, none, .no, .bin .lss .none (.t 226) (.t 228)⟩]
def speculumlaw20_LinksOnce_c116 : ACode := .cond (.t 229) .skip (.exit 7)
def speculumlaw20_LinksOnce_c117 : ACode := .seq (.reg speculumlaw20_LinksOnce_r115) speculumlaw20_LinksOnce_c116
@[go_sem] def speculumlaw20_LinksOnce_r118 : List AIns := [
  ⟨some 232, none, .no, .mv (.t 9)⟩,
  ⟨some 233, none, .no, .mv (.t 18)⟩,
  ⟨some 234, none, .no, .iaSl 1 (.t 232) (.t 233)⟩,
  ⟨some 235, none, .no, .load false 1 (.t 234)⟩,
  ⟨some 236, none, .no, .bin .neq .none (.t 235) (.v (.int .i64 (0)))⟩]
@[go_sem] def speculumlaw20_LinksOnce_r119 : List AIns := [
  ⟨some 6, none, .no, .mv (.v (.bool false))⟩]
def speculumlaw20_LinksOnce_c120 : ACode := .seq (.reg speculumlaw20_LinksOnce_r119) .ret
def speculumlaw20_LinksOnce_c121 : ACode := .cond (.t 236) speculumlaw20_LinksOnce_c120 .skip
def speculumlaw20_LinksOnce_c122 : ACode := .seq (.reg speculumlaw20_LinksOnce_r118) speculumlaw20_LinksOnce_c121
@[go_sem] def speculumlaw20_LinksOnce_r123 : List AIns := [
  ⟨some 230, none, .no, .mv (.t 18)⟩,
  ⟨some 231, none, .no, .bin .add .none (.t 230) (.v (.int .i64 (1)))⟩,
  ⟨some 18, none, .no, .mv (.t 231)⟩]
def speculumlaw20_LinksOnce_c124 : ACode := .seq (.block 8 speculumlaw20_LinksOnce_c122) (.reg speculumlaw20_LinksOnce_r123)
def speculumlaw20_LinksOnce_c125 : ACode := .seq speculumlaw20_LinksOnce_c117 speculumlaw20_LinksOnce_c124
def speculumlaw20_LinksOnce_c126 : ACode := .loop speculumlaw20_LinksOnce_c125
def speculumlaw20_LinksOnce_c127 : ACode := .block 7 speculumlaw20_LinksOnce_c126
def speculumlaw20_LinksOnce_c128 : ACode := .seq (.reg speculumlaw20_LinksOnce_r114) speculumlaw20_LinksOnce_c127
@[go_sem] def speculumlaw20_LinksOnce_r129 : List AIns := [
  ⟨some 237, none, .no, .call (.v (.fn 10 [])) []⟩,
  ⟨some 6, none, .no, .mv (.t 237)⟩]
def speculumlaw20_LinksOnce_c130 : ACode := .seq (.reg speculumlaw20_LinksOnce_r129) .ret
def speculumlaw20_LinksOnce_c131 : ACode := .seq speculumlaw20_LinksOnce_c128 speculumlaw20_LinksOnce_c130
def speculumlaw20_LinksOnce_c132 : ACode := .seq (.block 5 speculumlaw20_LinksOnce_c113) speculumlaw20_LinksOnce_c131
def speculumlaw20_LinksOnce_c133 : ACode := .seq speculumlaw20_LinksOnce_c98 speculumlaw20_LinksOnce_c132
def speculumlaw20_LinksOnce_c134 : ACode := .seq speculumlaw20_LinksOnce_c29 speculumlaw20_LinksOnce_c133
def speculumlaw20_LinksOnce_c135 : ACode := .seq (.reg speculumlaw20_LinksOnce_r12) speculumlaw20_LinksOnce_c134
def speculumlaw20_LinksOnce_c136 : ACode := .seq speculumlaw20_LinksOnce_c11 speculumlaw20_LinksOnce_c135
def speculumlaw20_LinksOnce_c137 : ACode := .seq (.reg speculumlaw20_LinksOnce_r6) speculumlaw20_LinksOnce_c136
def speculumlaw20_LinksOnce_c138 : ACode := .seq speculumlaw20_LinksOnce_c5 speculumlaw20_LinksOnce_c137
def speculumlaw20_LinksOnce_c139 : ACode := .seq (.reg speculumlaw20_LinksOnce_r0) speculumlaw20_LinksOnce_c138
theorem speculumlaw20_LinksOnce_ok : cFn TC 3 = some (238, [.t 6], speculumlaw20_LinksOnce_c139) := by kernel_rfl

-- 4 speculum/speculumlaw20.LinksPlay
@[go_sem] def speculumlaw20_LinksPlay_r0 : List AIns := [
  ⟨some 4, none, .no, .mv (.v (.bool false))⟩]
@[go_sem] def speculumlaw20_LinksPlay_r1 : List AIns := [
  ⟨some 17, none, .no, .mv (.t 1)⟩,
  ⟨some 18, none, .no, .call (.v (.fn 19 [])) [(.t 17), (.v (.int .i64 (300)))]⟩]
@[go_sem] def speculumlaw20_LinksPlay_r2 : List AIns := [
  ⟨some 19, none, .no, .call (.v (.fn 10 [])) []⟩,
  ⟨some 4, none, .no, .mv (.t 19)⟩]
def speculumlaw20_LinksPlay_c3 : ACode := .seq (.reg speculumlaw20_LinksPlay_r2) .ret
def speculumlaw20_LinksPlay_c4 : ACode := .cond (.t 18) speculumlaw20_LinksPlay_c3 .skip
def speculumlaw20_LinksPlay_c5 : ACode := .seq (.reg speculumlaw20_LinksPlay_r1) speculumlaw20_LinksPlay_c4
@[go_sem] def speculumlaw20_LinksPlay_r6 : List AIns := [
  ⟨some 21, none, .no, .mv (.t 0)⟩,
  ⟨some 22, none, .no, .call (.v (.fn 11 [])) [(.t 21)]⟩,
  ⟨some 20, none, .no, .mv (.t 22)⟩,
  ⟨some 23, none, .no, .ext 0 (.t 20)⟩,
  ⟨some 24, none, .no, .ext 1 (.t 20)⟩,
  ⟨some 5, none, .no, .mv (.t 23)⟩,
  ⟨some 6, none, .no, .mv (.t 24)⟩]
@[go_sem] def speculumlaw20_LinksPlay_r7 : List AIns := [
  ⟨some 26, none, .no, .mv (.t 0)⟩,
  ⟨some 27, none, .no, .call (.v (.fn 20 [])) [(.t 26)]⟩,
  ⟨some 25, none, .no, .mv (.t 27)⟩,
  ⟨some 28, none, .no, .ext 0 (.t 25)⟩,
  ⟨some 29, none, .no, .ext 1 (.t 25)⟩,
  ⟨some 7, none, .no, .mv (.t 28)⟩,
  ⟨some 8, none, .no, .mv (.t 29)⟩]
@[go_sem] def speculumlaw20_LinksPlay_r8 : List AIns := [
  ⟨some 30, none, .no, .mv (.t 6)⟩,
  ⟨some 31, none, .no, .mv (.t 8)⟩,
  ⟨some 32, none, .no, .bin .neq .none (.t 30) (.t 31)⟩,
  ⟨some 33, none, .no, .mv (.t 32)⟩,
  ⟨some 34, some (33, false), .no, .mv (.t 8)⟩,
  ⟨some 35, some (33, false), .no, .bin .neq .none (.t 34) (.v (.int .i64 (0)))⟩,
  ⟨some 36, none, .no, .pick (.t 33) (.v (.bool true)) (.t 35)⟩]
@[go_sem] def speculumlaw20_LinksPlay_r9 : List AIns := [
  ⟨some 37, none, .no, .mv (.t 6)⟩,
  ⟨some 38, none, .no, .mv (.t 8)⟩,
  ⟨some 39, none, .no, .bin .eql .none (.t 37) (.t 38)⟩,
  ⟨some 40, none, .no, .mv (.t 39)⟩,
  ⟨some 41, some (40, true), .no, .mv (.t 5)⟩,
  ⟨some 42, some (40, true), .no, .bin .eql .ptr (.t 41) (.v .nilp)⟩,
  ⟨some 43, none, .no, .pick (.t 40) (.t 42) (.v (.bool false))⟩,
  ⟨some 44, none, .no, .mv (.t 43)⟩,
  ⟨some 45, some (44, true), .no, .call (.v (.fn 10 [])) []⟩,
  ⟨some 46, none, .no, .pick (.t 44) (.t 45) (.v (.bool false))⟩,
  ⟨some 4, none, .no, .mv (.t 46)⟩]
def speculumlaw20_LinksPlay_c10 : ACode := .seq (.reg speculumlaw20_LinksPlay_r9) .ret
def speculumlaw20_LinksPlay_c11 : ACode := .cond (.t 36) speculumlaw20_LinksPlay_c10 .skip
def speculumlaw20_LinksPlay_c12 : ACode := .seq (.reg speculumlaw20_LinksPlay_r8) speculumlaw20_LinksPlay_c11
@[go_sem] def speculumlaw20_LinksPlay_r13 : List AIns := [
  ⟨some 9, none, .no, .mv (.v (.int .i64 (0)))⟩]
@[go_sem] def speculumlaw20_LinksPlay_r14 : List AIns := [
  ⟨some 47, none, .no, .mv (.t 9)⟩,
  ⟨some 48, none, .no, .mv (.t 1)⟩,
  ⟨some 49, none, .no, .lenSl (.t 48)⟩,
  ⟨some 50, none, .no, .bin .lss .none (.t 47) (.t 49)⟩]
def speculumlaw20_LinksPlay_c15 : ACode := .cond (.t 50) .skip (.exit 0)
def speculumlaw20_LinksPlay_c16 : ACode := .seq (.reg speculumlaw20_LinksPlay_r14) speculumlaw20_LinksPlay_c15
@[go_sem] def speculumlaw20_LinksPlay_r17 : List AIns := [
  ⟨some 53, none, .no, .mv (.t 1)⟩,
  ⟨some 54, none, .no, .mv (.t 9)⟩,
  ⟨some 55, none, .no, .iaSl 7 (.t 53) (.t 54)⟩,
  ⟨some 56, none, .no, .load true 7 (.t 55)⟩,
  ⟨some 10, none, .no, .alloc [(.int .u8 (0)), (.int .i64 (0)), (.int .i64 (0)), (.str []), (.int .i64 (0)), (.int .i64 (0)), (.int .u8 (0))]⟩,
  ⟨none, none, .no, .store 7 (.t 10) (.t 56)⟩]
@[go_sem] def speculumlaw20_LinksPlay_r18 : List AIns := [
  ⟨some 11, none, .no, .mv (.v (.bool true))⟩]
@[go_sem] def speculumlaw20_LinksPlay_r19 : List AIns := [
  ⟨some 57, none, .no, .fa 0 (.t 10)⟩,
  ⟨some 58, none, .no, .load false 1 (.t 57)⟩,
  ⟨some 59, none, .no, .bin .rem .none (.t 58) (.v (.int .u8 (10)))⟩]
@[go_sem] def speculumlaw20_LinksPlay_r20 : List AIns := [
  ⟨some 70, none, .no, .bin .eql .none (.t 59) (.v (.int .u8 (4)))⟩,
  ⟨some 69, none, .no, .mv (.t 70)⟩]
@[go_sem] def speculumlaw20_LinksPlay_r21 : List AIns := [
  ⟨some 72, none, .no, .mv (.t 5)⟩,
  ⟨some 73, none, .no, .fa 4 (.t 10)⟩,
  ⟨some 74, none, .no, .load false 1 (.t 73)⟩,
  ⟨some 75, none, .no, .call (.v (.fn 18 [])) [(.t 72), (.t 74)]⟩,
  ⟨some 71, none, .no, .mv (.t 75)⟩,
  ⟨some 76, none, .no, .ext 0 (.t 71)⟩,
  ⟨some 77, none, .no, .ext 1 (.t 71)⟩,
  ⟨some 12, none, .no, .alloc [(.int .i64 (0)), (.int .i64 (0)), (.str [])]⟩,
  ⟨none, none, .no, .store 3 (.t 12) (.t 76)⟩,
  ⟨some 13, none, .no, .mv (.t 77)⟩]
@[go_sem] def speculumlaw20_LinksPlay_r22 : List AIns := [
  ⟨some 79, none, .no, .mv (.t 7)⟩,
  ⟨some 80, none, .no, .fa 4 (.t 10)⟩,
  ⟨some 81, none, .no, .load false 1 (.t 80)⟩,
  ⟨some 82, none, .no, .call (.v (.fn 21 [])) [(.t 79), (.t 81)]⟩,
  ⟨some 78, none, .no, .mv (.t 82)⟩,
  ⟨some 83, none, .no, .ext 0 (.t 78)⟩,
  ⟨some 84, none, .no, .ext 1 (.t 78)⟩,
  ⟨some 14, none, .no, .alloc [(.int .i64 (0)), (.int .i64 (0)), (.str [])]⟩,
  ⟨none, none, .no, .store 3 (.t 14) (.t 83)⟩,
  ⟨some 15, none, .no, .mv (.t 84)⟩]
@[go_sem] def speculumlaw20_LinksPlay_r23 : List AIns := [
  ⟨some 85, none, .no, .load true 3 (.t 12)⟩,
  ⟨some 86, none, .no, .load true 3 (.t 14)⟩,
  ⟨some 87, none, .no, .bin .eql (.agg ([(.i .i64), (.i .i64), .s] ++ [])) (.t 85) (.t 86)⟩,
  ⟨some 88, none, .no, .mv (.t 87)⟩,
  ⟨some 89, some (88, true), .no, .mv (.t 13)⟩,
  ⟨some 90, some (88, true), .no, .mv (.t 15)⟩,
  ⟨some 91, some (88, true), .no, .bin .eql .none (.t 89) (.t 90)⟩,
  ⟨some 92, none, .no, .pick (.t 88) (.t 91) (.v (.bool false))⟩,
  ⟨some 11, none, .no, .mv (.t 92)⟩]
def speculumlaw20_LinksPlay_c24 : ACode := .seq (.reg speculumlaw20_LinksPlay_r22) (.reg speculumlaw20_LinksPlay_r23)
def speculumlaw20_LinksPlay_c25 : ACode := .seq (.reg speculumlaw20_LinksPlay_r21) speculumlaw20_LinksPlay_c24
@[go_sem] def speculumlaw20_LinksPlay_r26 : List AIns := [
  ⟨some 94, none, .no, .bin .eql .none (.t 59) (.v (.int .u8 (5)))⟩,
  ⟨some 93, none, .no, .mv (.t 94)⟩]
@[go_sem] def speculumlaw20_LinksPlay_r27 : List AIns := [
  ⟨some 95, none, .no, .mv (.t 5)⟩,
  ⟨some 96, none, .no, .fa 4 (.t 10)⟩,
  ⟨some 97, none, .rd, .load false 1 (.t 96)⟩,
  ⟨some 98, none, .ef, .call (.v (.fn 14 [])) [(.t 95), (.t 97)]⟩,
  ⟨some 99, none, .no, .mv (.t 7)⟩,
  ⟨some 100, none, .no, .fa 4 (.t 10)⟩,
  ⟨some 101, none, .rd, .load false 1 (.t 100)⟩,
  ⟨some 102, none, .no, .call (.v (.fn 22 [])) [(.t 99), (.t 101)]⟩,
  ⟨some 103, none, .no, .bin .eql .none (.t 98) (.t 102)⟩,
  ⟨some 11, none, .no, .mv (.t 103)⟩]
@[go_sem] def speculumlaw20_LinksPlay_r28 : List AIns := [
  ⟨some 105, none, .no, .bin .eql .none (.t 59) (.v (.int .u8 (6)))⟩,
  ⟨some 104, none, .no, .mv (.t 105)⟩]
@[go_sem] def speculumlaw20_LinksPlay_r29 : List AIns := [
  ⟨some 106, none, .no, .mv (.t 5)⟩,
  ⟨some 107, none, .no, .fa 4 (.t 10)⟩,
  ⟨some 108, none, .rd, .load false 1 (.t 107)⟩,
  ⟨some 109, none, .ef, .call (.v (.fn 15 [])) [(.t 106), (.t 108)]⟩,
  ⟨some 110, none, .no, .mv (.t 7)⟩,
  ⟨some 111, none, .no, .fa 4 (.t 10)⟩,
  ⟨some 112, none, .rd, .load false 1 (.t 111)⟩,
  ⟨some 113, none, .no, .call (.v (.fn 23 [])) [(.t 110), (.t 112)]⟩,
  ⟨some 114, none, .no, .bin .eql .none (.t 109) (.t 113)⟩,
  ⟨some 11, none, .no, .mv (.t 114)⟩]
@[go_sem] def speculumlaw20_LinksPlay_r30 : List AIns := [
  ⟨some 116, none, .no, .bin .eql .none (.t 59) (.v (.int .u8 (7)))⟩,
  ⟨some 115, none, .no, .mv (.t 116)⟩]
@[go_sem] def speculumlaw20_LinksPlay_r31 : List AIns := [
  ⟨some 117, none, .no, .mv (.t 5)⟩,
  ⟨some 118, none, .no, .fa 4 (.t 10)⟩,
  ⟨some 119, none, .rd, .load false 1 (.t 118)⟩,
  ⟨some 120, none, .no, .fa 5 (.t 10)⟩,
  ⟨some 121, none, .rd, .load false 1 (.t 120)⟩,
  ⟨some 122, none, .ef, .call (.v (.fn 17 [])) [(.t 117), (.t 119), (.t 121)]⟩,
  ⟨some 123, none, .no, .mv (.t 7)⟩,
  ⟨some 124, none, .no, .fa 4 (.t 10)⟩,
  ⟨some 125, none, .rd, .load false 1 (.t 124)⟩,
  ⟨some 126, none, .no, .fa 5 (.t 10)⟩,
  ⟨some 127, none, .rd, .load false 1 (.t 126)⟩,
  ⟨some 128, none, .no, .call (.v (.fn 24 [])) [(.t 123), (.t 125), (.t 127)]⟩,
  ⟨some 129, none, .no, .bin .eql .none (.t 122) (.t 128)⟩,
  ⟨some 11, none, .no, .mv (.t 129)⟩]
@[go_sem] def speculumlaw20_LinksPlay_r32 : List AIns := [
  ⟨some 131, none, .no, .bin .eql .none (.t 59) (.v (.int .u8 (8)))⟩,
  ⟨some 130, none, .no, .mv (.t 131)⟩]
@[go_sem] def speculumlaw20_LinksPlay_r33 : List AIns := [
  ⟨some 132, none, .no, .mv (.t 5)⟩,
  ⟨some 133, none, .no, .fa 4 (.t 10)⟩,
  ⟨some 134, none, .rd, .load false 1 (.t 133)⟩,
  ⟨some 135, none, .no, .fa 5 (.t 10)⟩,
  ⟨some 136, none, .rd, .load false 1 (.t 135)⟩,
  ⟨some 137, none, .no, .fa 6 (.t 10)⟩,
  ⟨some 138, none, .rd, .load false 1 (.t 137)⟩,
  ⟨some 139, none, .ef, .call (.v (.fn 16 [])) [(.t 132), (.t 134), (.t 136), (.t 138)]⟩,
  ⟨some 140, none, .no, .mv (.t 7)⟩,
  ⟨some 141, none, .no, .fa 4 (.t 10)⟩,
  ⟨some 142, none, .rd, .load false 1 (.t 141)⟩,
  ⟨some 143, none, .no, .fa 5 (.t 10)⟩,
  ⟨some 144, none, .rd, .load false 1 (.t 143)⟩,
  ⟨some 145, none, .no, .fa 6 (.t 10)⟩,
  ⟨some 146, none, .rd, .load false 1 (.t 145)⟩,
  ⟨some 147, none, .no, .call (.v (.fn 25 [])) [(.t 140), (.t 142), (.t 144), (.t 146)]⟩,
  ⟨some 148, none, .no, .bin .eql .none (.t 139) (.t 147)⟩,
  ⟨some 11, none, .no, .mv (.t 148)⟩]
@[go_sem] def speculumlaw20_LinksPlay_r34 : List AIns := [
  ⟨some 150, none, .no, .bin .eql .none (.t 59) (.v (.int .u8 (9)))⟩,
  ⟨some 149, none, .no, .mv (.t 150)⟩]
@[go_sem] def speculumlaw20_LinksPlay_r35 : List AIns := [
  ⟨some 151, none, .no, .mv (.t 5)⟩,
  ⟨some 152, none, .no, .call (.v (.fn 26 [])) [(.t 151)]⟩,
  ⟨some 16, none, .no, .mv (.t 152)⟩]
@[go_sem] def speculumlaw20_LinksPlay_r36 : List AIns := [
  ⟨some 153, none, .no, .mv (.t 16)⟩,
  ⟨some 154, none, .no, .fa 1 (.t 10)⟩,
  ⟨some 155, none, .no, .load true 3 (.t 154)⟩,
  ⟨some 156, none, .no, .call (.v (.fn 12 [])) [(.t 153), (.t 155)]⟩]
@[go_sem] def speculumlaw20_LinksPlay_r37 : List AIns := [
  ⟨some 157, none, .no, .mv (.t 16)⟩,
  ⟨some 158, none, .no, .fa 4 (.t 10)⟩,
  ⟨some 159, none, .no, .load false 1 (.t 158)⟩,
  ⟨some 160, none, .no, .fa 5 (.t 10)⟩,
  ⟨some 161, none, .no, .load false 1 (.t 160)⟩,
  ⟨some 162, none, .no, .fa 6 (.t 10)⟩,
  ⟨some 163, none, .no, .load false 1 (.t 162)⟩,
  ⟨some 164, none, .no, .call (.v (.fn 16 [])) [(.t 157), (.t 159), (.t 161), (.t 163)]⟩]
@[go_sem] def speculumlaw20_LinksPlay_r38 : List AIns := [
  ⟨some 165, none, .no, .mv (.t 16)⟩,
  ⟨some 166, none, .no, .call (.v (.fn 18 [])) [(.t 165), (.v (.int .i64 (0)))]⟩]
def speculumlaw20_LinksPlay_c39 : ACode := .seq (.reg speculumlaw20_LinksPlay_r37) (.reg speculumlaw20_LinksPlay_r38)
def speculumlaw20_LinksPlay_c40 : ACode := .seq (.reg speculumlaw20_LinksPlay_r36) speculumlaw20_LinksPlay_c39
def speculumlaw20_LinksPlay_c41 : ACode := .seq (.reg speculumlaw20_LinksPlay_r35) speculumlaw20_LinksPlay_c40
@[go_sem] def speculumlaw20_LinksPlay_r42 : List AIns := [
  ⟨some 60, none, .no, .mv (.t 5)⟩,
  ⟨some 61, none, .no, .fa 1 (.t 10)⟩,
  ⟨some 62, none, .rd, .load true 3 (.t 61)⟩,
  ⟨some 63, none, .ef, .call (.v (.fn 12 [])) [(.t 60), (.t 62)]⟩,
  ⟨some 64, none, .no, .mv (.t 7)⟩,
  ⟨some 65, none, .no, .fa 1 (.t 10)⟩,
  ⟨some 66, none, .rd, .load true 3 (.t 65)⟩,
  ⟨some 67, none, .no, .call (.v (.fn 27 [])) [(.t 64), (.t 66)]⟩,
  ⟨some 68, none, .no, .bin .eql .none (.t 63) (.t 67)⟩,
  ⟨some 11, none, .no, .mv (.t 68)⟩]
def speculumlaw20_LinksPlay_c43 : ACode := .cond (.t 149) speculumlaw20_LinksPlay_c41 (.reg speculumlaw20_LinksPlay_r42)
def speculumlaw20_LinksPlay_c44 : ACode := .seq (.reg speculumlaw20_LinksPlay_r34) speculumlaw20_LinksPlay_c43
def speculumlaw20_LinksPlay_c45 : ACode := .cond (.t 130) (.reg speculumlaw20_LinksPlay_r33) speculumlaw20_LinksPlay_c44
def speculumlaw20_LinksPlay_c46 : ACode := .seq (.reg speculumlaw20_LinksPlay_r32) speculumlaw20_LinksPlay_c45
def speculumlaw20_LinksPlay_c47 : ACode := .cond (.t 115) (.reg speculumlaw20_LinksPlay_r31) speculumlaw20_LinksPlay_c46
def speculumlaw20_LinksPlay_c48 : ACode := .seq (.reg speculumlaw20_LinksPlay_r30) speculumlaw20_LinksPlay_c47
def speculumlaw20_LinksPlay_c49 : ACode := .cond (.t 104) (.reg speculumlaw20_LinksPlay_r29) speculumlaw20_LinksPlay_c48
def speculumlaw20_LinksPlay_c50 : ACode := .seq (.reg speculumlaw20_LinksPlay_r28) speculumlaw20_LinksPlay_c49
def speculumlaw20_LinksPlay_c51 : ACode := .cond (.t 93) (.reg speculumlaw20_LinksPlay_r27) speculumlaw20_LinksPlay_c50
def speculumlaw20_LinksPlay_c52 : ACode := .seq (.reg speculumlaw20_LinksPlay_r26) speculumlaw20_LinksPlay_c51
def speculumlaw20_LinksPlay_c53 : ACode := .cond (.t 69) speculumlaw20_LinksPlay_c25 speculumlaw20_LinksPlay_c52
def speculumlaw20_LinksPlay_c54 : ACode := .seq (.reg speculumlaw20_LinksPlay_r20) speculumlaw20_LinksPlay_c53
def speculumlaw20_LinksPlay_c55 : ACode := .block 2 speculumlaw20_LinksPlay_c54
def speculumlaw20_LinksPlay_c56 : ACode := .seq (.reg speculumlaw20_LinksPlay_r19) speculumlaw20_LinksPlay_c55
@[go_sem] def speculumlaw20_LinksPlay_r57 : List AIns := [
  ⟨some 167, none, .no, .mv (.t 11)⟩,
  ⟨some 168, none, .no, .un .not (.t 167)⟩,
  ⟨some 169, none, .no, .mv (.t 168)⟩,
  ⟨some 170, some (169, false), .no, .mv (.t 5)⟩,
  ⟨some 171, some (169, false), .ef, .call (.v (.fn 13 [])) [(.t 170)]⟩,
  ⟨some 172, some (169, false), .no, .mv (.t 7)⟩,
  ⟨some 173, some (169, false), .no, .nilc (.t 172)⟩,
  ⟨some 174, some (169, false), .no, .fa 1 (.t 173)⟩,
  ⟨some 175, some (169, false), .rd, .load false 1 (.t 174)⟩,
  ⟨some 176, some (169, false), .no, .call (.v (.fn 28 [])) [(.t 171), (.t 175)]⟩,
  ⟨some 177, some (169, false), .no, .un .not (.t 176)⟩,
  ⟨some 178, none, .no, .pick (.t 169) (.v (.bool true)) (.t 177)⟩]
@[go_sem] def speculumlaw20_LinksPlay_r58 : List AIns := [
  ⟨some 4, none, .no, .mv (.v (.bool false))⟩]
def speculumlaw20_LinksPlay_c59 : ACode := .seq (.reg speculumlaw20_LinksPlay_r58) .ret
def speculumlaw20_LinksPlay_c60 : ACode := .cond (.t 178) speculumlaw20_LinksPlay_c59 .skip
def speculumlaw20_LinksPlay_c61 : ACode := .seq (.reg speculumlaw20_LinksPlay_r57) speculumlaw20_LinksPlay_c60
def speculumlaw20_LinksPlay_c62 : ACode := .seq speculumlaw20_LinksPlay_c56 speculumlaw20_LinksPlay_c61
def speculumlaw20_LinksPlay_c63 : ACode := .seq (.reg speculumlaw20_LinksPlay_r18) speculumlaw20_LinksPlay_c62
def speculumlaw20_LinksPlay_c64 : ACode := .seq (.reg speculumlaw20_LinksPlay_r17) speculumlaw20_LinksPlay_c63
@[go_sem] def speculumlaw20_LinksPlay_r65 : List AIns := [
  ⟨some 51, none, .no, .mv (.t 9)⟩,
  ⟨some 52, none, .no, .bin .add .none (.t 51) (.v (.int .i64 (1)))⟩,
  ⟨some 9, none, .no, .mv (.t 52)⟩]
def speculumlaw20_LinksPlay_c66 : ACode := .seq (.block 1 speculumlaw20_LinksPlay_c64) (.reg speculumlaw20_LinksPlay_r65)
def speculumlaw20_LinksPlay_c67 : ACode := .seq speculumlaw20_LinksPlay_c16 speculumlaw20_LinksPlay_c66
def speculumlaw20_LinksPlay_c68 : ACode := .loop speculumlaw20_LinksPlay_c67
def speculumlaw20_LinksPlay_c69 : ACode := .block 0 speculumlaw20_LinksPlay_c68
def speculumlaw20_LinksPlay_c70 : ACode := .seq (.reg speculumlaw20_LinksPlay_r13) speculumlaw20_LinksPlay_c69
@[go_sem] def speculumlaw20_LinksPlay_r71 : List AIns := [
  ⟨some 179, none, .no, .call (.v (.fn 10 [])) []⟩,
  ⟨some 4, none, .no, .mv (.t 179)⟩]
def speculumlaw20_LinksPlay_c72 : ACode := .seq (.reg speculumlaw20_LinksPlay_r71) .ret
def speculumlaw20_LinksPlay_c73 : ACode := .seq speculumlaw20_LinksPlay_c70 speculumlaw20_LinksPlay_c72
def speculumlaw20_LinksPlay_c74 : ACode := .seq speculumlaw20_LinksPlay_c12 speculumlaw20_LinksPlay_c73
def speculumlaw20_LinksPlay_c75 : ACode := .seq (.reg speculumlaw20_LinksPlay_r7) speculumlaw20_LinksPlay_c74
def speculumlaw20_LinksPlay_c76 : ACode := .seq (.reg speculumlaw20_LinksPlay_r6) speculumlaw20_LinksPlay_c75
def speculumlaw20_LinksPlay_c77 : ACode := .seq speculumlaw20_LinksPlay_c5 speculumlaw20_LinksPlay_c76
def speculumlaw20_LinksPlay_c78 : ACode := .seq (.reg speculumlaw20_LinksPlay_r0) speculumlaw20_LinksPlay_c77
theorem speculumlaw20_LinksPlay_ok : cFn TC 4 = some (180, [.t 4], speculumlaw20_LinksPlay_c78) := by kernel_rfl

-- 5 speculum/speculumlaw20.LinksNone
@[go_sem] def speculumlaw20_LinksNone_r0 : List AIns := [
  ⟨some 1, none, .no, .box (.t 0)⟩,
  ⟨some 2, none, .no, .mv (.v (.bool false))⟩]
@[go_sem] def speculumlaw20_LinksNone_r1 : List AIns := [
  ⟨some 7, none, .no, .load true 7 (.t 1)⟩,
  ⟨some 8, none, .no, .lit 7 [(.t 7)]⟩,
  ⟨some 9, none, .no, .call (.v (.fn 19 [])) [(.t 8), (.v (.int .i64 (1)))]⟩]
@[go_sem] def speculumlaw20_LinksNone_r2 : List AIns := [
  ⟨some 10, none, .no, .call (.v (.fn 10 [])) []⟩,
  ⟨some 2, none, .no, .mv (.t 10)⟩]
def speculumlaw20_LinksNone_c3 : ACode := .seq (.reg speculumlaw20_LinksNone_r2) .ret
def speculumlaw20_LinksNone_c4 : ACode := .cond (.t 9) speculumlaw20_LinksNone_c3 .skip
def speculumlaw20_LinksNone_c5 : ACode := .seq (.reg speculumlaw20_LinksNone_r1) speculumlaw20_LinksNone_c4
@[go_sem] def speculumlaw20_LinksNone_r6 : List AIns := [
  ⟨some 3, none, .no, .mv (.v .nilp)⟩]
@[go_sem] def speculumlaw20_LinksNone_r7 : List AIns := [
  ⟨some 4, none, .no, .mv (.v (.int .i64 (0)))⟩]
@[go_sem] def speculumlaw20_LinksNone_r8 : List AIns := [
  ⟨some 11, none, .no, .mv (.t 4)⟩,
  ⟨some 12, none, .no, .bin .lss .none (.t 11) (.v (.int .i64 (2)))⟩]
def speculumlaw20_LinksNone_c9 : ACode := .cond (.t 12) .skip (.exit 0)
def speculumlaw20_LinksNone_c10 : ACode := .seq (.reg speculumlaw20_LinksNone_r8) speculumlaw20_LinksNone_c9
@[go_sem] def speculumlaw20_LinksNone_r11 : List AIns := [
  ⟨some 16, none, .no, .mv (.t 3)⟩,
  ⟨some 17, none, .no, .fa 4 (.t 1)⟩,
  ⟨some 18, none, .no, .load false 1 (.t 17)⟩,
  ⟨some 19, none, .no, .call (.v (.fn 18 [])) [(.t 16), (.t 18)]⟩,
  ⟨some 15, none, .no, .mv (.t 19)⟩,
  ⟨some 20, none, .no, .ext 0 (.t 15)⟩,
  ⟨some 21, none, .no, .ext 1 (.t 15)⟩,
  ⟨some 5, none, .no, .alloc [(.int .i64 (0)), (.int .i64 (0)), (.str [])]⟩,
  ⟨none, none, .no, .store 3 (.t 5) (.t 20)⟩,
  ⟨some 6, none, .no, .mv (.t 21)⟩]
@[go_sem] def speculumlaw20_LinksNone_r12 : List AIns := [
  ⟨some 22, none, .no, .mv (.t 3)⟩,
  ⟨some 23, none, .no, .fa 1 (.t 1)⟩,
  ⟨some 24, none, .no, .load true 3 (.t 23)⟩,
  ⟨some 25, none, .no, .call (.v (.fn 12 [])) [(.t 22), (.t 24)]⟩,
  ⟨some 26, none, .no, .bin .neq .none (.t 25) (.v (.int .i64 (1)))⟩,
  ⟨some 27, none, .no, .mv (.t 26)⟩,
  ⟨some 28, some (27, false), .no, .mv (.t 6)⟩,
  ⟨some 29, some (27, false), .no, .bin .neq .none (.t 28) (.v (.int .i64 (1)))⟩,
  ⟨some 30, none, .no, .pick (.t 27) (.v (.bool true)) (.t 29)⟩,
  ⟨some 31, none, .no, .mv (.t 30)⟩,
  ⟨some 32, some (31, false), .no, .mv (.t 3)⟩,
  ⟨some 33, some (31, false), .no, .fa 4 (.t 1)⟩,
  ⟨some 34, some (31, false), .no, .load false 1 (.t 33)⟩,
  ⟨some 35, some (31, false), .no, .call (.v (.fn 14 [])) [(.t 32), (.t 34)]⟩,
  ⟨some 36, some (31, false), .no, .bin .neq .none (.t 35) (.v (.int .i64 (1)))⟩,
  ⟨some 37, none, .no, .pick (.t 31) (.v (.bool true)) (.t 36)⟩,
  ⟨some 38, none, .no, .mv (.t 37)⟩,
  ⟨some 39, some (38, false), .no, .mv (.t 3)⟩,
  ⟨some 40, some (38, false), .no, .fa 4 (.t 1)⟩,
  ⟨some 41, some (38, false), .no, .load false 1 (.t 40)⟩,
  ⟨some 42, some (38, false), .no, .call (.v (.fn 15 [])) [(.t 39), (.t 41)]⟩,
  ⟨some 43, some (38, false), .no, .bin .neq .none (.t 42) (.v (.int .i64 (1)))⟩,
  ⟨some 44, none, .no, .pick (.t 38) (.v (.bool true)) (.t 43)⟩,
  ⟨some 45, none, .no, .mv (.t 44)⟩,
  ⟨some 46, some (45, false), .no, .mv (.t 3)⟩,
  ⟨some 47, some (45, false), .no, .fa 4 (.t 1)⟩,
  ⟨some 48, some (45, false), .no, .load false 1 (.t 47)⟩,
  ⟨some 49, some (45, false), .no, .fa 5 (.t 1)⟩,
  ⟨some 50, some (45, false), .no, .load false 1 (.t 49)⟩,
  ⟨some 51, some (45, false), .no, .call (.v (.fn 17 [])) [(.t 46), (.t 48), (.t 50)]⟩,
  ⟨some 52, some (45, false), .no, .bin .neq .none (.t 51) (.v (.int .i64 (1)))⟩,
  ⟨some 53, none, .no, .pick (.t 45) (.v (.bool true)) (.t 52)⟩,
  ⟨some 54, none, .no, .mv (.t 53)⟩,
  ⟨some 55, some (54, false), .no, .mv (.t 3)⟩,
  ⟨some 56, some (54, false), .no, .fa 4 (.t 1)⟩,
  ⟨some 57, some (54, false), .no, .load false 1 (.t 56)⟩,
  ⟨some 58, some (54, false), .no, .fa 5 (.t 1)⟩,
  ⟨some 59, some (54, false), .no, .load false 1 (.t 58)⟩,
  ⟨some 60, some (54, false), .no, .fa 6 (.t 1)⟩,
  ⟨some 61, some (54, false), .no, .load false 1 (.t 60)⟩,
  ⟨some 62, some (54, false), .no, .call (.v (.fn 16 [])) [(.t 55), (.t 57), (.t 59), (.t 61)]⟩,
  ⟨some 63, some (54, false), .no, .bin .neq .none (.t 62) (.v (.int .i64 (1)))⟩,
  ⟨some 64, none, .no, .pick (.t 54) (.v (.bool true)) (.t 63)⟩,
  ⟨some 65, none, .no, .mv (.t 64)⟩,
  ⟨some 66, some (65, false), .no, .mv (.t 3)⟩,
  ⟨some 67, some (65, false), .no, .call (.v (.fn 13 [])) [(.t 66)]⟩,
  ⟨some 68, some (65, false), .no, .lenSl (.t 67)⟩,
  ⟨some 69, some (65, false), .no, .bin .neq .none (.t 68) (.v (.int .i64 (0)))⟩,
  ⟨some 70, none, .no, .pick (.t 65) (.v (.bool true)) (.t 69)⟩,
  ⟨some 71, none, .no, .mv (.t 70)⟩,
  ⟨some 72, some (71, false), .no, .mv (.t 3)⟩,
  ⟨some 73, some (71, false), .no, .call (.v (.fn 26 [])) [(.t 72)]⟩,
  ⟨some 74, some (71, false), .no, .bin .neq .ptr (.t 73) (.v .nilp)⟩,
  ⟨some 75, none, .no, .pick (.t 71) (.v (.bool true)) (.t 74)⟩]
@[go_sem] def speculumlaw20_LinksNone_r13 : List AIns := [
  ⟨some 2, none, .no, .mv (.v (.bool false))⟩]
def speculumlaw20_LinksNone_c14 : ACode := .seq (.reg speculumlaw20_LinksNone_r13) .ret
def speculumlaw20_LinksNone_c15 : ACode := .cond (.t 75) speculumlaw20_LinksNone_c14 .skip
def speculumlaw20_LinksNone_c16 : ACode := .seq (.reg speculumlaw20_LinksNone_r12) speculumlaw20_LinksNone_c15
@[go_sem] def speculumlaw20_LinksNone_r17 : List AIns := [
  ⟨some 76, none, .no, .build [(.int .i64 (0)), .nilsl] []⟩,
  ⟨some 77, none, .no, .box (.t 76)⟩,
  ⟨some 3, none, .no, .mv (.t 77)⟩]
def speculumlaw20_LinksNone_c18 : ACode := .seq speculumlaw20_LinksNone_c16 (.reg speculumlaw20_LinksNone_r17)
def speculumlaw20_LinksNone_c19 : ACode := .seq (.reg speculumlaw20_LinksNone_r11) speculumlaw20_LinksNone_c18
@[go_sem] def speculumlaw20_LinksNone_r20 : List AIns := [
  ⟨some 13, none, .no, .mv (.t 4)⟩,
  ⟨some 14, none, .no, .bin .add .none (.t 13) (.v (.int .i64 (1)))⟩,
  ⟨some 4, none, .no, .mv (.t 14)⟩]
def speculumlaw20_LinksNone_c21 : ACode := .seq (.block 1 speculumlaw20_LinksNone_c19) (.reg speculumlaw20_LinksNone_r20)
def speculumlaw20_LinksNone_c22 : ACode := .seq speculumlaw20_LinksNone_c10 speculumlaw20_LinksNone_c21
def speculumlaw20_LinksNone_c23 : ACode := .loop speculumlaw20_LinksNone_c22
def speculumlaw20_LinksNone_c24 : ACode := .block 0 speculumlaw20_LinksNone_c23
def speculumlaw20_LinksNone_c25 : ACode := .seq (.reg speculumlaw20_LinksNone_r7) speculumlaw20_LinksNone_c24
@[go_sem] def speculumlaw20_LinksNone_r26 : List AIns := [
  ⟨some 78, none, .no, .call (.v (.fn 10 [])) []⟩,
  ⟨some 2, none, .no, .mv (.t 78)⟩]
def speculumlaw20_LinksNone_c27 : ACode := .seq (.reg speculumlaw20_LinksNone_r26) .ret
def speculumlaw20_LinksNone_c28 : ACode := .seq speculumlaw20_LinksNone_c25 speculumlaw20_LinksNone_c27
def speculumlaw20_LinksNone_c29 : ACode := .seq (.reg speculumlaw20_LinksNone_r6) speculumlaw20_LinksNone_c28
def speculumlaw20_LinksNone_c30 : ACode := .seq speculumlaw20_LinksNone_c5 speculumlaw20_LinksNone_c29
def speculumlaw20_LinksNone_c31 : ACode := .seq (.reg speculumlaw20_LinksNone_r0) speculumlaw20_LinksNone_c30
theorem speculumlaw20_LinksNone_ok : cFn TC 5 = some (79, [.t 2], speculumlaw20_LinksNone_c31) := by kernel_rfl

-- 10 speculum/speculumlaw20.linked
@[go_sem] def speculumlaw20_linked_r0 : List AIns := [
  ⟨some 0, none, .no, .mv (.v (.bool false))⟩]
@[go_sem] def speculumlaw20_linked_r1 : List AIns := [
  ⟨some 12, none, .no, .call (.v (.fn 11 [])) [(.v (.int .i64 (3)))]⟩,
  ⟨some 11, none, .no, .mv (.t 12)⟩,
  ⟨some 13, none, .no, .ext 0 (.t 11)⟩,
  ⟨some 14, none, .no, .ext 1 (.t 11)⟩,
  ⟨some 1, none, .no, .mv (.t 13)⟩,
  ⟨some 2, none, .no, .mv (.t 14)⟩]
@[go_sem] def speculumlaw20_linked_r2 : List AIns := [
  ⟨some 15, none, .no, .mv (.t 1)⟩,
  ⟨some 16, none, .no, .build [(.int .i64 (0)), (.int .i64 (0)), (.str [])] [(0, 1, (.v (.int .i64 (0)))), (1, 1, (.v (.int .i64 (1)))), (2, 1, (.v (.str [97])))]⟩,
  ⟨some 17, none, .no, .call (.v (.fn 12 [])) [(.t 15), (.t 16)]⟩,
  ⟨some 3, none, .no, .mv (.t 17)⟩]
@[go_sem] def speculumlaw20_linked_r3 : List AIns := [
  ⟨some 18, none, .no, .mv (.t 1)⟩,
  ⟨some 19, none, .no, .build [(.int .i64 (0)), (.int .i64 (0)), (.str [])] [(0, 1, (.v (.int .i64 (1)))), (1, 1, (.v (.int .i64 (1)))), (2, 1, (.v (.str [97])))]⟩,
  ⟨some 20, none, .no, .call (.v (.fn 12 [])) [(.t 18), (.t 19)]⟩,
  ⟨some 4, none, .no, .mv (.t 20)⟩]
@[go_sem] def speculumlaw20_linked_r4 : List AIns := [
  ⟨some 21, none, .no, .mv (.t 1)⟩,
  ⟨some 22, none, .no, .build [(.int .i64 (0)), (.int .i64 (0)), (.str [])] [(0, 1, (.v (.int .i64 (0)))), (1, 1, (.v (.int .i64 (3)))), (2, 1, (.v (.str [97])))]⟩,
  ⟨some 23, none, .no, .call (.v (.fn 12 [])) [(.t 21), (.t 22)]⟩,
  ⟨some 5, none, .no, .mv (.t 23)⟩]
@[go_sem] def speculumlaw20_linked_r5 : List AIns := [
  ⟨some 24, none, .no, .mv (.t 1)⟩,
  ⟨some 25, none, .no, .call (.v (.fn 16 [])) [(.t 24), (.v (.int .i64 (0))), (.v (.int .i64 (0))), (.v (.int .u8 (3)))]⟩,
  ⟨some 6, none, .no, .mv (.t 25)⟩]
@[go_sem] def speculumlaw20_linked_r6 : List AIns := [
  ⟨some 26, none, .no, .mv (.t 1)⟩,
  ⟨some 27, none, .no, .call (.v (.fn 13 [])) [(.t 26)]⟩,
  ⟨some 7, none, .no, .mv (.t 27)⟩]
@[go_sem] def speculumlaw20_linked_r7 : List AIns := [
  ⟨some 28, none, .no, .mv (.t 1)⟩,
  ⟨some 29, none, .no, .call (.v (.fn 16 [])) [(.t 28), (.v (.int .i64 (0))), (.v (.int .i64 (1))), (.v (.int .u8 (3)))]⟩,
  ⟨some 8, none, .no, .mv (.t 29)⟩]
@[go_sem] def speculumlaw20_linked_r8 : List AIns := [
  ⟨some 31, none, .no, .mv (.t 1)⟩,
  ⟨some 32, none, .no, .call (.v (.fn 18 [])) [(.t 31), (.v (.int .i64 (1)))]⟩,
  ⟨some 30, none, .no, .mv (.t 32)⟩,
  ⟨some 33, none, .no, .ext 0 (.t 30)⟩,
  ⟨some 34, none, .no, .ext 1 (.t 30)⟩,
  ⟨some 9, none, .no, .alloc [(.int .i64 (0)), (.int .i64 (0)), (.str [])]⟩,
  ⟨none, none, .no, .store 3 (.t 9) (.t 33)⟩,
  ⟨some 10, none, .no, .mv (.t 34)⟩]
@[go_sem] def speculumlaw20_linked_r9 : List AIns := [
  ⟨some 35, none, .no, .mv (.t 2)⟩,
  ⟨some 36, none, .no, .bin .eql .none (.t 35) (.v (.int .i64 (0)))⟩,
  ⟨some 37, none, .no, .mv (.t 36)⟩,
  ⟨some 38, some (37, true), .no, .mv (.t 3)⟩,
  ⟨some 39, some (37, true), .no, .bin .eql .none (.t 38) (.v (.int .i64 (0)))⟩,
  ⟨some 40, none, .no, .pick (.t 37) (.t 39) (.v (.bool false))⟩,
  ⟨some 41, none, .no, .mv (.t 40)⟩,
  ⟨some 42, some (41, true), .no, .mv (.t 4)⟩,
  ⟨some 43, some (41, true), .no, .bin .eql .none (.t 42) (.v (.int .i64 (2)))⟩,
  ⟨some 44, none, .no, .pick (.t 41) (.t 43) (.v (.bool false))⟩,
  ⟨some 45, none, .no, .mv (.t 44)⟩,
  ⟨some 46, some (45, true), .no, .mv (.t 5)⟩,
  ⟨some 47, some (45, true), .no, .bin .eql .none (.t 46) (.v (.int .i64 (2)))⟩,
  ⟨some 48, none, .no, .pick (.t 45) (.t 47) (.v (.bool false))⟩,
  ⟨some 49, none, .no, .mv (.t 48)⟩,
  ⟨some 50, some (49, true), .no, .mv (.t 6)⟩,
  ⟨some 51, some (49, true), .no, .bin .eql .none (.t 50) (.v (.int .i64 (0)))⟩,
  ⟨some 52, none, .no, .pick (.t 49) (.t 51) (.v (.bool false))⟩,
  ⟨some 53, none, .no, .mv (.t 52)⟩,
  ⟨some 54, some (53, true), .no, .mv (.t 7)⟩,
  ⟨some 55, some (53, true), .no, .lenSl (.t 54)⟩,
  ⟨some 56, some (53, true), .no, .bin .eql .none (.t 55) (.v (.int .i64 (1)))⟩,
  ⟨some 57, none, .no, .pick (.t 53) (.t 56) (.v (.bool false))⟩,
  ⟨some 58, none, .no, .mv (.t 57)⟩,
  ⟨some 59, some (58, true), .no, .mv (.t 7)⟩,
  ⟨some 60, some (58, true), .no, .iaSl 3 (.t 59) (.v (.int .i64 (0)))⟩,
  ⟨some 61, some (58, true), .no, .load true 3 (.t 60)⟩,
  ⟨some 62, some (58, true), .no, .build [(.int .i64 (0)), (.int .i64 (0)), (.str [])] [(0, 1, (.v (.int .i64 (0)))), (1, 1, (.v (.int .i64 (1)))), (2, 1, (.v (.str [98])))]⟩,
  ⟨some 63, some (58, true), .no, .bin .eql (.agg ([(.i .i64), (.i .i64), .s] ++ [])) (.t 61) (.t 62)⟩,
  ⟨some 64, none, .no, .pick (.t 58) (.t 63) (.v (.bool false))⟩,
  ⟨some 65, none, .no, .mv (.t 64)⟩,
  ⟨some 66, some (65, true), .no, .mv (.t 8)⟩,
  ⟨some 67, some (65, true), .no, .bin .eql .none (.t 66) (.v (.int .i64 (2)))⟩,
  ⟨some 68, none, .no, .pick (.t 65) (.t 67) (.v (.bool false))⟩,
  ⟨some 69, none, .no, .mv (.t 68)⟩,
  ⟨some 70, some (69, true), .no, .mv (.t 10)⟩,
  ⟨some 71, some (69, true), .no, .bin .eql .none (.t 70) (.v (.int .i64 (4)))⟩,
  ⟨some 72, none, .no, .pick (.t 69) (.t 71) (.v (.bool false))⟩,
  ⟨some 0, none, .no, .mv (.t 72)⟩]
def speculumlaw20_linked_c10 : ACode := .seq (.reg speculumlaw20_linked_r9) .ret
def speculumlaw20_linked_c11 : ACode := .seq (.reg speculumlaw20_linked_r8) speculumlaw20_linked_c10
def speculumlaw20_linked_c12 : ACode := .seq (.reg speculumlaw20_linked_r7) speculumlaw20_linked_c11
def speculumlaw20_linked_c13 : ACode := .seq (.reg speculumlaw20_linked_r6) speculumlaw20_linked_c12
def speculumlaw20_linked_c14 : ACode := .seq (.reg speculumlaw20_linked_r5) speculumlaw20_linked_c13
def speculumlaw20_linked_c15 : ACode := .seq (.reg speculumlaw20_linked_r4) speculumlaw20_linked_c14
def speculumlaw20_linked_c16 : ACode := .seq (.reg speculumlaw20_linked_r3) speculumlaw20_linked_c15
def speculumlaw20_linked_c17 : ACode := .seq (.reg speculumlaw20_linked_r2) speculumlaw20_linked_c16
def speculumlaw20_linked_c18 : ACode := .seq (.reg speculumlaw20_linked_r1) speculumlaw20_linked_c17
def speculumlaw20_linked_c19 : ACode := .seq (.reg speculumlaw20_linked_r0) speculumlaw20_linked_c18
theorem speculumlaw20_linked_ok : cFn TC 10 = some (73, [.t 0], speculumlaw20_linked_c19) := by kernel_rfl

-- 11 speculum/links.New
@[go_sem] def links_New_r0 : List AIns := [
  ⟨some 2, none, .no, .mv (.v .nilp)⟩,
  ⟨some 3, none, .no, .mv (.v (.int .i64 (0)))⟩]
@[go_sem] def links_New_r1 : List AIns := [
  ⟨some 4, none, .no, .mv (.t 0)⟩,
  ⟨some 5, none, .no, .bin .lss .none (.t 4) (.v (.int .i64 (1)))⟩,
  ⟨some 6, none, .no, .mv (.t 5)⟩,
  ⟨some 7, some (6, false), .no, .mv (.t 0)⟩,
  ⟨some 8, some (6, false), .no, .bin .gtr .none (.t 7) (.v (.int .i64 (32)))⟩,
  ⟨some 9, none, .no, .pick (.t 6) (.v (.bool true)) (.t 8)⟩]
@[go_sem] def links_New_r2 : List AIns := [
  ⟨some 2, none, .no, .mv (.v .nilp)⟩,
  ⟨some 3, none, .no, .mv (.v (.int .i64 (2)))⟩]
def links_New_c3 : ACode := .seq (.reg links_New_r2) .ret
def links_New_c4 : ACode := .cond (.t 9) links_New_c3 .skip
def links_New_c5 : ACode := .seq (.reg links_New_r1) links_New_c4
@[go_sem] def links_New_r6 : List AIns := [
  ⟨some 10, none, .no, .mv (.t 0)⟩,
  ⟨some 11, none, .no, .build [(.int .i64 (0)), .nilsl] [(0, 1, (.t 10))]⟩,
  ⟨some 12, none, .no, .box (.t 11)⟩,
  ⟨some 2, none, .no, .mv (.t 12)⟩,
  ⟨some 3, none, .no, .mv (.v (.int .i64 (0)))⟩]
def links_New_c7 : ACode := .seq (.reg links_New_r6) .ret
def links_New_c8 : ACode := .seq links_New_c5 links_New_c7
def links_New_c9 : ACode := .seq (.reg links_New_r0) links_New_c8
theorem links_New_ok : cFn TC 11 = some (13, [.t 2, .t 3], links_New_c9) := by kernel_rfl

-- 12 (*speculum/links.Links).Send
@[go_sem] def links_Links__Send_r0 : List AIns := [
  ⟨some 3, none, .no, .box (.t 1)⟩,
  ⟨some 4, none, .no, .mv (.v (.int .i64 (0)))⟩]
@[go_sem] def links_Links__Send_r1 : List AIns := [
  ⟨some 6, none, .no, .mv (.t 0)⟩,
  ⟨some 7, none, .no, .call (.v (.fn 44 [])) [(.t 6)]⟩,
  ⟨some 5, none, .no, .mv (.t 7)⟩]
@[go_sem] def links_Links__Send_r2 : List AIns := [
  ⟨some 4, none, .no, .mv (.v (.int .i64 (1)))⟩]
def links_Links__Send_c3 : ACode := .seq (.reg links_Links__Send_r2) .ret
@[go_sem] def links_Links__Send_r4 : List AIns := [
  ⟨some 9, none, .no, .fa 0 (.t 3)⟩,
  ⟨some 10, none, .no, .load false 1 (.t 9)⟩,
  ⟨some 11, none, .no, .bin .lss .none (.t 10) (.v (.int .i64 (0)))⟩,
  ⟨some 12, none, .no, .mv (.t 11)⟩,
  ⟨some 13, some (12, false), .no, .fa 0 (.t 3)⟩,
  ⟨some 14, some (12, false), .rd, .load false 1 (.t 13)⟩,
  ⟨some 15, some (12, false), .no, .mv (.t 0)⟩,
  ⟨some 16, some (12, false), .no, .nilc (.t 15)⟩,
  ⟨some 17, some (12, false), .no, .fa 0 (.t 16)⟩,
  ⟨some 18, some (12, false), .rd, .load false 1 (.t 17)⟩,
  ⟨some 19, some (12, false), .no, .bin .geq .none (.t 14) (.t 18)⟩,
  ⟨some 20, none, .no, .pick (.t 12) (.v (.bool true)) (.t 19)⟩,
  ⟨some 21, none, .no, .mv (.t 20)⟩,
  ⟨some 22, some (21, false), .no, .fa 1 (.t 3)⟩,
  ⟨some 23, some (21, false), .no, .load false 1 (.t 22)⟩,
  ⟨some 24, some (21, false), .no, .bin .lss .none (.t 23) (.v (.int .i64 (0)))⟩,
  ⟨some 25, none, .no, .pick (.t 21) (.v (.bool true)) (.t 24)⟩,
  ⟨some 26, none, .no, .mv (.t 25)⟩,
  ⟨some 27, some (26, false), .no, .fa 1 (.t 3)⟩,
  ⟨some 28, some (26, false), .rd, .load false 1 (.t 27)⟩,
  ⟨some 29, some (26, false), .no, .mv (.t 0)⟩,
  ⟨some 30, some (26, false), .no, .nilc (.t 29)⟩,
  ⟨some 31, some (26, false), .no, .fa 0 (.t 30)⟩,
  ⟨some 32, some (26, false), .rd, .load false 1 (.t 31)⟩,
  ⟨some 33, some (26, false), .no, .bin .geq .none (.t 28) (.t 32)⟩,
  ⟨some 34, none, .no, .pick (.t 26) (.v (.bool true)) (.t 33)⟩,
  ⟨some 35, none, .no, .mv (.t 34)⟩,
  ⟨some 36, some (35, false), .no, .fa 0 (.t 3)⟩,
  ⟨some 37, some (35, false), .rd, .load false 1 (.t 36)⟩,
  ⟨some 38, some (35, false), .no, .fa 1 (.t 3)⟩,
  ⟨some 39, some (35, false), .rd, .load false 1 (.t 38)⟩,
  ⟨some 40, some (35, false), .no, .bin .eql .none (.t 37) (.t 39)⟩,
  ⟨some 41, none, .no, .pick (.t 35) (.v (.bool true)) (.t 40)⟩,
  ⟨some 8, none, .no, .mv (.t 41)⟩]
@[go_sem] def links_Links__Send_r5 : List AIns := [
  ⟨some 4, none, .no, .mv (.v (.int .i64 (2)))⟩]
def links_Links__Send_c6 : ACode := .seq (.reg links_Links__Send_r5) .ret
@[go_sem] def links_Links__Send_r7 : List AIns := [
  ⟨some 43, none, .no, .fa 2 (.t 3)⟩,
  ⟨some 44, none, .no, .load false 1 (.t 43)⟩,
  ⟨some 45, none, .no, .lenStr (.t 44)⟩,
  ⟨some 46, none, .no, .bin .gtr .none (.t 45) (.v (.int .i64 (65536)))⟩,
  ⟨some 42, none, .no, .mv (.t 46)⟩]
@[go_sem] def links_Links__Send_r8 : List AIns := [
  ⟨some 4, none, .no, .mv (.v (.int .i64 (3)))⟩]
def links_Links__Send_c9 : ACode := .seq (.reg links_Links__Send_r8) .ret
@[go_sem] def links_Links__Send_r10 : List AIns := [
  ⟨some 48, none, .no, .mv (.t 0)⟩,
  ⟨some 49, none, .no, .nilc (.t 48)⟩,
  ⟨some 50, none, .no, .fa 1 (.t 49)⟩,
  ⟨some 51, none, .no, .load false 1 (.t 50)⟩,
  ⟨some 52, none, .no, .lenSl (.t 51)⟩,
  ⟨some 53, none, .no, .bin .geq .none (.t 52) (.v (.int .i64 (200)))⟩,
  ⟨some 47, none, .no, .mv (.t 53)⟩]
@[go_sem] def links_Links__Send_r11 : List AIns := [
  ⟨some 4, none, .no, .mv (.v (.int .i64 (60)))⟩]
def links_Links__Send_c12 : ACode := .seq (.reg links_Links__Send_r11) .ret
def links_Links__Send_c13 : ACode := .cond (.t 47) links_Links__Send_c12 .skip
def links_Links__Send_c14 : ACode := .seq (.reg links_Links__Send_r10) links_Links__Send_c13
def links_Links__Send_c15 : ACode := .cond (.t 42) links_Links__Send_c9 links_Links__Send_c14
def links_Links__Send_c16 : ACode := .seq (.reg links_Links__Send_r7) links_Links__Send_c15
def links_Links__Send_c17 : ACode := .cond (.t 8) links_Links__Send_c6 links_Links__Send_c16
def links_Links__Send_c18 : ACode := .seq (.reg links_Links__Send_r4) links_Links__Send_c17
def links_Links__Send_c19 : ACode := .cond (.t 5) links_Links__Send_c3 links_Links__Send_c18
def links_Links__Send_c20 : ACode := .seq (.reg links_Links__Send_r1) links_Links__Send_c19
@[go_sem] def links_Links__Send_r21 : List AIns := [
  ⟨some 54, none, .no, .mv (.t 0)⟩,
  ⟨some 55, none, .no, .mv (.t 0)⟩,
  ⟨some 56, none, .no, .nilc (.t 55)⟩,
  ⟨some 57, none, .no, .fa 1 (.t 56)⟩,
  ⟨some 58, none, .rd, .load false 1 (.t 57)⟩,
  ⟨some 59, none, .rd, .load true 3 (.t 3)⟩,
  ⟨some 60, none, .no, .lit 3 [(.t 59)]⟩,
  ⟨some 61, none, .no, .app 3 (.t 58) (.t 60)⟩,
  ⟨some 62, none, .no, .nilc (.t 54)⟩,
  ⟨some 63, none, .no, .fa 1 (.t 62)⟩,
  ⟨none, none, .no, .store 1 (.t 63) (.t 61)⟩]
@[go_sem] def links_Links__Send_r22 : List AIns := [
  ⟨some 4, none, .no, .mv (.v (.int .i64 (0)))⟩]
def links_Links__Send_c23 : ACode := .seq (.reg links_Links__Send_r22) .ret
def links_Links__Send_c24 : ACode := .seq (.reg links_Links__Send_r21) links_Links__Send_c23
def links_Links__Send_c25 : ACode := .seq (.block 0 links_Links__Send_c20) links_Links__Send_c24
def links_Links__Send_c26 : ACode := .seq (.reg links_Links__Send_r0) links_Links__Send_c25
theorem links_Links__Send_ok : cFn TC 12 = some (64, [.t 4], links_Links__Send_c26) := by kernel_rfl

-- 13 (*speculum/links.Links).Mail
@[go_sem] def links_Links__Mail_r0 : List AIns := [
  ⟨some 2, none, .no, .mv (.v .nilsl)⟩]
@[go_sem] def links_Links__Mail_r1 : List AIns := [
  ⟨some 3, none, .no, .mv (.t 0)⟩,
  ⟨some 4, none, .no, .call (.v (.fn 44 [])) [(.t 3)]⟩]
@[go_sem] def links_Links__Mail_r2 : List AIns := [
  ⟨some 2, none, .no, .mv (.v .nilsl)⟩]
def links_Links__Mail_c3 : ACode := .seq (.reg links_Links__Mail_r2) .ret
def links_Links__Mail_c4 : ACode := .cond (.t 4) links_Links__Mail_c3 .skip
def links_Links__Mail_c5 : ACode := .seq (.reg links_Links__Mail_r1) links_Links__Mail_c4
@[go_sem] def links_Links__Mail_r6 : List AIns := [
  ⟨some 5, none, .no, .mv (.t 0)⟩,
  ⟨some 6, none, .no, .nilc (.t 5)⟩,
  ⟨some 7, none, .no, .fa 1 (.t 6)⟩,
  ⟨some 8, none, .no, .load false 1 (.t 7)⟩,
  ⟨some 9, none, .no, .app 3 (.v .nilsl) (.t 8)⟩,
  ⟨some 2, none, .no, .mv (.t 9)⟩]
def links_Links__Mail_c7 : ACode := .seq (.reg links_Links__Mail_r6) .ret
def links_Links__Mail_c8 : ACode := .seq links_Links__Mail_c5 links_Links__Mail_c7
def links_Links__Mail_c9 : ACode := .seq (.reg links_Links__Mail_r0) links_Links__Mail_c8
theorem links_Links__Mail_ok : cFn TC 13 = some (10, [.t 2], links_Links__Mail_c9) := by kernel_rfl

-- 14 (*speculum/links.Links).Drop
@[go_sem] def links_Links__Drop_r0 : List AIns := [
  ⟨some 4, none, .no, .mv (.v (.int .i64 (0)))⟩]
@[go_sem] def links_Links__Drop_r1 : List AIns := [
  ⟨some 8, none, .no, .mv (.t 0)⟩,
  ⟨some 9, none, .no, .mv (.t 1)⟩,
  ⟨some 10, none, .no, .call (.v (.fn 18 [])) [(.t 8), (.t 9)]⟩,
  ⟨some 7, none, .no, .mv (.t 10)⟩,
  ⟨some 11, none, .no, .ext 0 (.t 7)⟩,
  ⟨some 12, none, .no, .ext 1 (.t 7)⟩,
  ⟨some 5, none, .no, .alloc [(.int .i64 (0)), (.int .i64 (0)), (.str [])]⟩,
  ⟨none, none, .no, .store 3 (.t 5) (.t 11)⟩,
  ⟨some 6, none, .no, .mv (.t 12)⟩]
@[go_sem] def links_Links__Drop_r2 : List AIns := [
  ⟨some 13, none, .no, .mv (.t 6)⟩,
  ⟨some 4, none, .no, .mv (.t 13)⟩]
def links_Links__Drop_c3 : ACode := .seq (.reg links_Links__Drop_r2) .ret
def links_Links__Drop_c4 : ACode := .seq (.reg links_Links__Drop_r1) links_Links__Drop_c3
def links_Links__Drop_c5 : ACode := .seq (.reg links_Links__Drop_r0) links_Links__Drop_c4
theorem links_Links__Drop_ok : cFn TC 14 = some (14, [.t 4], links_Links__Drop_c5) := by kernel_rfl

-- 15 (*speculum/links.Links).Double
@[go_sem] def links_Links__Double_r0 : List AIns := [
  ⟨some 4, none, .no, .mv (.v (.int .i64 (0)))⟩]
@[go_sem] def links_Links__Double_r1 : List AIns := [
  ⟨some 6, none, .no, .mv (.t 0)⟩,
  ⟨some 7, none, .no, .mv (.t 1)⟩,
  ⟨some 8, none, .no, .call (.v (.fn 45 [])) [(.t 6), (.t 7)]⟩,
  ⟨some 5, none, .no, .mv (.t 8)⟩]
@[go_sem] def links_Links__Double_r2 : List AIns := [
  ⟨some 9, none, .no, .mv (.t 5)⟩,
  ⟨some 10, none, .no, .bin .neq .none (.t 9) (.v (.int .i64 (0)))⟩]
@[go_sem] def links_Links__Double_r3 : List AIns := [
  ⟨some 11, none, .no, .mv (.t 5)⟩,
  ⟨some 4, none, .no, .mv (.t 11)⟩]
def links_Links__Double_c4 : ACode := .seq (.reg links_Links__Double_r3) .ret
def links_Links__Double_c5 : ACode := .cond (.t 10) links_Links__Double_c4 .skip
def links_Links__Double_c6 : ACode := .seq (.reg links_Links__Double_r2) links_Links__Double_c5
def links_Links__Double_c7 : ACode := .seq (.reg links_Links__Double_r1) links_Links__Double_c6
@[go_sem] def links_Links__Double_r8 : List AIns := [
  ⟨some 12, none, .no, .mv (.t 0)⟩,
  ⟨some 13, none, .no, .mv (.t 0)⟩,
  ⟨some 14, none, .no, .nilc (.t 13)⟩,
  ⟨some 15, none, .no, .fa 1 (.t 14)⟩,
  ⟨some 16, none, .no, .load false 1 (.t 15)⟩,
  ⟨some 17, none, .no, .mv (.t 1)⟩,
  ⟨some 18, none, .no, .iaSl 3 (.t 16) (.t 17)⟩,
  ⟨some 19, none, .no, .load true 3 (.t 18)⟩,
  ⟨some 20, none, .no, .call (.v (.fn 12 [])) [(.t 12), (.t 19)]⟩,
  ⟨some 4, none, .no, .mv (.t 20)⟩]
def links_Links__Double_c9 : ACode := .seq (.reg links_Links__Double_r8) .ret
def links_Links__Double_c10 : ACode := .seq links_Links__Double_c7 links_Links__Double_c9
def links_Links__Double_c11 : ACode := .seq (.reg links_Links__Double_r0) links_Links__Double_c10
theorem links_Links__Double_ok : cFn TC 15 = some (21, [.t 4], links_Links__Double_c11) := by kernel_rfl

-- 16 (*speculum/links.Links).Flip
@[go_sem] def links_Links__Flip_r0 : List AIns := [
  ⟨some 8, none, .no, .mv (.v (.int .i64 (0)))⟩]
@[go_sem] def links_Links__Flip_r1 : List AIns := [
  ⟨some 11, none, .no, .mv (.t 0)⟩,
  ⟨some 12, none, .no, .mv (.t 1)⟩,
  ⟨some 13, none, .no, .call (.v (.fn 45 [])) [(.t 11), (.t 12)]⟩,
  ⟨some 9, none, .no, .mv (.t 13)⟩]
@[go_sem] def links_Links__Flip_r2 : List AIns := [
  ⟨some 14, none, .no, .mv (.t 9)⟩,
  ⟨some 15, none, .no, .bin .neq .none (.t 14) (.v (.int .i64 (0)))⟩]
@[go_sem] def links_Links__Flip_r3 : List AIns := [
  ⟨some 16, none, .no, .mv (.t 9)⟩,
  ⟨some 8, none, .no, .mv (.t 16)⟩]
def links_Links__Flip_c4 : ACode := .seq (.reg links_Links__Flip_r3) .ret
def links_Links__Flip_c5 : ACode := .cond (.t 15) links_Links__Flip_c4 .skip
def links_Links__Flip_c6 : ACode := .seq (.reg links_Links__Flip_r2) links_Links__Flip_c5
def links_Links__Flip_c7 : ACode := .seq (.reg links_Links__Flip_r1) links_Links__Flip_c6
@[go_sem] def links_Links__Flip_r8 : List AIns := [
  ⟨some 17, none, .no, .mv (.t 0)⟩,
  ⟨some 18, none, .no, .nilc (.t 17)⟩,
  ⟨some 19, none, .no, .fa 1 (.t 18)⟩,
  ⟨some 20, none, .no, .load false 1 (.t 19)⟩,
  ⟨some 21, none, .no, .mv (.t 1)⟩,
  ⟨some 22, none, .no, .iaSl 3 (.t 20) (.t 21)⟩,
  ⟨some 23, none, .no, .fa 2 (.t 22)⟩,
  ⟨some 24, none, .no, .load false 1 (.t 23)⟩,
  ⟨some 25, none, .no, .conv .bytes (.t 24)⟩,
  ⟨some 10, none, .no, .mv (.t 25)⟩]
@[go_sem] def links_Links__Flip_r9 : List AIns := [
  ⟨some 26, none, .no, .mv (.t 2)⟩,
  ⟨some 27, none, .no, .bin .lss .none (.t 26) (.v (.int .i64 (0)))⟩,
  ⟨some 28, none, .no, .mv (.t 27)⟩,
  ⟨some 29, some (28, false), .no, .mv (.t 2)⟩,
  ⟨some 30, some (28, false), .no, .mv (.t 10)⟩,
  ⟨some 31, some (28, false), .no, .lenSl (.t 30)⟩,
  ⟨some 32, some (28, false), .no, .bin .geq .none (.t 29) (.t 31)⟩,
  ⟨some 33, none, .no, .pick (.t 28) (.v (.bool true)) (.t 32)⟩]
@[go_sem] def links_Links__Flip_r10 : List AIns := [
  ⟨some 8, none, .no, .mv (.v (.int .i64 (2)))⟩]
def links_Links__Flip_c11 : ACode := .seq (.reg links_Links__Flip_r10) .ret
def links_Links__Flip_c12 : ACode := .cond (.t 33) links_Links__Flip_c11 .skip
def links_Links__Flip_c13 : ACode := .seq (.reg links_Links__Flip_r9) links_Links__Flip_c12
@[go_sem] def links_Links__Flip_r14 : List AIns := [
  ⟨some 34, none, .no, .mv (.t 10)⟩,
  ⟨some 35, none, .no, .mv (.t 2)⟩,
  ⟨some 36, none, .no, .iaSl 1 (.t 34) (.t 35)⟩,
  ⟨some 37, none, .no, .load false 1 (.t 36)⟩,
  ⟨some 38, none, .no, .mv (.t 3)⟩,
  ⟨some 39, none, .no, .bin .xor .none (.t 37) (.t 38)⟩,
  ⟨some 40, none, .no, .iaSl 1 (.t 34) (.t 35)⟩,
  ⟨none, none, .no, .store 1 (.t 40) (.t 39)⟩]
@[go_sem] def links_Links__Flip_r15 : List AIns := [
  ⟨some 41, none, .no, .mv (.t 0)⟩,
  ⟨some 42, none, .no, .nilc (.t 41)⟩,
  ⟨some 43, none, .no, .fa 1 (.t 42)⟩,
  ⟨some 44, none, .rd, .load false 1 (.t 43)⟩,
  ⟨some 45, none, .no, .mv (.t 1)⟩,
  ⟨some 46, none, .no, .mv (.t 10)⟩,
  ⟨some 47, none, .ef, .conv .str (.t 46)⟩,
  ⟨some 48, none, .no, .iaSl 3 (.t 44) (.t 45)⟩,
  ⟨some 49, none, .no, .fa 2 (.t 48)⟩,
  ⟨none, none, .no, .store 1 (.t 49) (.t 47)⟩]
@[go_sem] def links_Links__Flip_r16 : List AIns := [
  ⟨some 8, none, .no, .mv (.v (.int .i64 (0)))⟩]
def links_Links__Flip_c17 : ACode := .seq (.reg links_Links__Flip_r16) .ret
def links_Links__Flip_c18 : ACode := .seq (.reg links_Links__Flip_r15) links_Links__Flip_c17
def links_Links__Flip_c19 : ACode := .seq (.reg links_Links__Flip_r14) links_Links__Flip_c18
def links_Links__Flip_c20 : ACode := .seq links_Links__Flip_c13 links_Links__Flip_c19
def links_Links__Flip_c21 : ACode := .seq (.reg links_Links__Flip_r8) links_Links__Flip_c20
def links_Links__Flip_c22 : ACode := .seq links_Links__Flip_c7 links_Links__Flip_c21
def links_Links__Flip_c23 : ACode := .seq (.reg links_Links__Flip_r0) links_Links__Flip_c22
theorem links_Links__Flip_ok : cFn TC 16 = some (50, [.t 8], links_Links__Flip_c23) := by kernel_rfl

-- 17 (*speculum/links.Links).Turn
@[go_sem] def links_Links__Turn_r0 : List AIns := [
  ⟨some 6, none, .no, .mv (.v (.int .i64 (0)))⟩]
@[go_sem] def links_Links__Turn_r1 : List AIns := [
  ⟨some 9, none, .no, .mv (.t 0)⟩,
  ⟨some 10, none, .no, .mv (.t 1)⟩,
  ⟨some 11, none, .no, .call (.v (.fn 45 [])) [(.t 9), (.t 10)]⟩,
  ⟨some 7, none, .no, .mv (.t 11)⟩]
@[go_sem] def links_Links__Turn_r2 : List AIns := [
  ⟨some 12, none, .no, .mv (.t 7)⟩,
  ⟨some 13, none, .no, .bin .neq .none (.t 12) (.v (.int .i64 (0)))⟩]
@[go_sem] def links_Links__Turn_r3 : List AIns := [
  ⟨some 14, none, .no, .mv (.t 7)⟩,
  ⟨some 6, none, .no, .mv (.t 14)⟩]
def links_Links__Turn_c4 : ACode := .seq (.reg links_Links__Turn_r3) .ret
def links_Links__Turn_c5 : ACode := .cond (.t 13) links_Links__Turn_c4 .skip
def links_Links__Turn_c6 : ACode := .seq (.reg links_Links__Turn_r2) links_Links__Turn_c5
def links_Links__Turn_c7 : ACode := .seq (.reg links_Links__Turn_r1) links_Links__Turn_c6
@[go_sem] def links_Links__Turn_r8 : List AIns := [
  ⟨some 15, none, .no, .mv (.t 0)⟩,
  ⟨some 16, none, .no, .mv (.t 2)⟩,
  ⟨some 17, none, .no, .call (.v (.fn 45 [])) [(.t 15), (.t 16)]⟩,
  ⟨some 8, none, .no, .mv (.t 17)⟩]
@[go_sem] def links_Links__Turn_r9 : List AIns := [
  ⟨some 18, none, .no, .mv (.t 8)⟩,
  ⟨some 19, none, .no, .bin .neq .none (.t 18) (.v (.int .i64 (0)))⟩]
@[go_sem] def links_Links__Turn_r10 : List AIns := [
  ⟨some 20, none, .no, .mv (.t 8)⟩,
  ⟨some 6, none, .no, .mv (.t 20)⟩]
def links_Links__Turn_c11 : ACode := .seq (.reg links_Links__Turn_r10) .ret
def links_Links__Turn_c12 : ACode := .cond (.t 19) links_Links__Turn_c11 .skip
def links_Links__Turn_c13 : ACode := .seq (.reg links_Links__Turn_r9) links_Links__Turn_c12
def links_Links__Turn_c14 : ACode := .seq (.reg links_Links__Turn_r8) links_Links__Turn_c13
@[go_sem] def links_Links__Turn_r15 : List AIns := [
  ⟨some 21, none, .no, .mv (.t 0)⟩,
  ⟨some 22, none, .no, .nilc (.t 21)⟩,
  ⟨some 23, none, .no, .fa 1 (.t 22)⟩,
  ⟨some 24, none, .rd, .load false 1 (.t 23)⟩,
  ⟨some 25, none, .no, .mv (.t 1)⟩,
  ⟨some 26, none, .no, .mv (.t 0)⟩,
  ⟨some 27, none, .no, .nilc (.t 26)⟩,
  ⟨some 28, none, .no, .fa 1 (.t 27)⟩,
  ⟨some 29, none, .rd, .load false 1 (.t 28)⟩,
  ⟨some 30, none, .no, .mv (.t 2)⟩,
  ⟨some 31, none, .no, .mv (.t 0)⟩,
  ⟨some 32, none, .no, .nilc (.t 31)⟩,
  ⟨some 33, none, .no, .fa 1 (.t 32)⟩,
  ⟨some 34, none, .rd, .load false 1 (.t 33)⟩,
  ⟨some 35, none, .no, .mv (.t 2)⟩,
  ⟨some 36, none, .no, .iaSl 3 (.t 34) (.t 35)⟩,
  ⟨some 37, none, .rd, .load true 3 (.t 36)⟩,
  ⟨some 38, none, .no, .mv (.t 0)⟩,
  ⟨some 39, none, .no, .nilc (.t 38)⟩,
  ⟨some 40, none, .no, .fa 1 (.t 39)⟩,
  ⟨some 41, none, .rd, .load false 1 (.t 40)⟩,
  ⟨some 42, none, .no, .mv (.t 1)⟩,
  ⟨some 43, none, .no, .iaSl 3 (.t 41) (.t 42)⟩,
  ⟨some 44, none, .rd, .load true 3 (.t 43)⟩,
  ⟨some 45, none, .no, .iaSl 3 (.t 24) (.t 25)⟩,
  ⟨none, none, .no, .store 3 (.t 45) (.t 37)⟩,
  ⟨some 46, none, .no, .iaSl 3 (.t 29) (.t 30)⟩,
  ⟨none, none, .no, .store 3 (.t 46) (.t 44)⟩]
@[go_sem] def links_Links__Turn_r16 : List AIns := [
  ⟨some 6, none, .no, .mv (.v (.int .i64 (0)))⟩]
def links_Links__Turn_c17 : ACode := .seq (.reg links_Links__Turn_r16) .ret
def links_Links__Turn_c18 : ACode := .seq (.reg links_Links__Turn_r15) links_Links__Turn_c17
def links_Links__Turn_c19 : ACode := .seq links_Links__Turn_c14 links_Links__Turn_c18
def links_Links__Turn_c20 : ACode := .seq links_Links__Turn_c7 links_Links__Turn_c19
def links_Links__Turn_c21 : ACode := .seq (.reg links_Links__Turn_r0) links_Links__Turn_c20
theorem links_Links__Turn_ok : cFn TC 17 = some (47, [.t 6], links_Links__Turn_c21) := by kernel_rfl

-- 18 (*speculum/links.Links).Deliver
@[go_sem] def links_Links__Deliver_r0 : List AIns := [
  ⟨some 4, none, .no, .alloc [(.int .i64 (0)), (.int .i64 (0)), (.str [])]⟩,
  ⟨some 5, none, .no, .mv (.v (.int .i64 (0)))⟩]
@[go_sem] def links_Links__Deliver_r1 : List AIns := [
  ⟨some 8, none, .no, .mv (.t 0)⟩,
  ⟨some 9, none, .no, .mv (.t 1)⟩,
  ⟨some 10, none, .no, .call (.v (.fn 45 [])) [(.t 8), (.t 9)]⟩,
  ⟨some 6, none, .no, .mv (.t 10)⟩]
@[go_sem] def links_Links__Deliver_r2 : List AIns := [
  ⟨some 11, none, .no, .mv (.t 6)⟩,
  ⟨some 12, none, .no, .bin .neq .none (.t 11) (.v (.int .i64 (0)))⟩]
@[go_sem] def links_Links__Deliver_r3 : List AIns := [
  ⟨some 13, none, .no, .build [(.int .i64 (0)), (.int .i64 (0)), (.str [])] []⟩,
  ⟨some 14, none, .no, .mv (.t 6)⟩,
  ⟨none, none, .no, .store 3 (.t 4) (.t 13)⟩,
  ⟨some 5, none, .no, .mv (.t 14)⟩]
def links_Links__Deliver_c4 : ACode := .seq (.reg links_Links__Deliver_r3) .ret
def links_Links__Deliver_c5 : ACode := .cond (.t 12) links_Links__Deliver_c4 .skip
def links_Links__Deliver_c6 : ACode := .seq (.reg links_Links__Deliver_r2) links_Links__Deliver_c5
def links_Links__Deliver_c7 : ACode := .seq (.reg links_Links__Deliver_r1) links_Links__Deliver_c6
@[go_sem] def links_Links__Deliver_r8 : List AIns := [
  ⟨some 15, none, .no, .mv (.t 0)⟩,
  ⟨some 16, none, .no, .nilc (.t 15)⟩,
  ⟨some 17, none, .no, .fa 1 (.t 16)⟩,
  ⟨some 18, none, .no, .load false 1 (.t 17)⟩,
  ⟨some 19, none, .no, .mv (.t 1)⟩,
  ⟨some 20, none, .no, .iaSl 3 (.t 18) (.t 19)⟩,
  ⟨some 21, none, .no, .load true 3 (.t 20)⟩,
  ⟨some 7, none, .no, .alloc [(.int .i64 (0)), (.int .i64 (0)), (.str [])]⟩,
  ⟨none, none, .no, .store 3 (.t 7) (.t 21)⟩]
@[go_sem] def links_Links__Deliver_r9 : List AIns := [
  ⟨some 22, none, .no, .mv (.t 0)⟩,
  ⟨some 23, none, .no, .mv (.t 0)⟩,
  ⟨some 24, none, .no, .nilc (.t 23)⟩,
  ⟨some 25, none, .no, .fa 1 (.t 24)⟩,
  ⟨some 26, none, .no, .load false 1 (.t 25)⟩,
  ⟨some 27, none, .no, .mv (.t 1)⟩,
  ⟨some 28, none, .no, .mv (.t 1)⟩,
  ⟨some 29, none, .no, .bin .add .none (.t 28) (.v (.int .i64 (1)))⟩,
  ⟨some 30, none, .no, .call (.v (.fn 46 [])) [(.t 26), (.t 27), (.t 29)]⟩,
  ⟨some 31, none, .no, .nilc (.t 22)⟩,
  ⟨some 32, none, .no, .fa 1 (.t 31)⟩,
  ⟨none, none, .no, .store 1 (.t 32) (.t 30)⟩]
@[go_sem] def links_Links__Deliver_r10 : List AIns := [
  ⟨some 33, none, .no, .load true 3 (.t 7)⟩,
  ⟨none, none, .no, .store 3 (.t 4) (.t 33)⟩,
  ⟨some 5, none, .no, .mv (.v (.int .i64 (0)))⟩]
def links_Links__Deliver_c11 : ACode := .seq (.reg links_Links__Deliver_r10) .ret
def links_Links__Deliver_c12 : ACode := .seq (.reg links_Links__Deliver_r9) links_Links__Deliver_c11
def links_Links__Deliver_c13 : ACode := .seq (.reg links_Links__Deliver_r8) links_Links__Deliver_c12
def links_Links__Deliver_c14 : ACode := .seq links_Links__Deliver_c7 links_Links__Deliver_c13
def links_Links__Deliver_c15 : ACode := .seq (.reg links_Links__Deliver_r0) links_Links__Deliver_c14
theorem links_Links__Deliver_ok : cFn TC 18 = some (34, [.c 4 true 3, .t 5], links_Links__Deliver_c15) := by kernel_rfl

-- 19 speculum/speculumlaw20.Great
@[go_sem] def speculumlaw20_Great_r0 : List AIns := [
  ⟨some 4, none, .no, .mv (.v (.bool false))⟩]
@[go_sem] def speculumlaw20_Great_r1 : List AIns := [
  ⟨some 5, none, .no, .mv (.v (.int .i64 (0)))⟩]
@[go_sem] def speculumlaw20_Great_r2 : List AIns := [
  ⟨some 6, none, .no, .mv (.t 5)⟩,
  ⟨some 7, none, .no, .mv (.t 0)⟩,
  ⟨some 8, none, .no, .lenSl (.t 7)⟩,
  ⟨some 9, none, .no, .bin .lss .none (.t 6) (.t 8)⟩]
def speculumlaw20_Great_c3 : ACode := .cond (.t 9) .skip (.exit 0)
def speculumlaw20_Great_c4 : ACode := .seq (.reg speculumlaw20_Great_r2) speculumlaw20_Great_c3
@[go_sem] def speculumlaw20_Great_r5 : List AIns := [
  ⟨some 12, none, .no, .mv (.t 0)⟩,
  ⟨some 13, none, .no, .mv (.t 5)⟩,
  ⟨some 14, none, .no, .iaSl 7 (.t 12) (.t 13)⟩,
  ⟨some 15, none, .no, .fa 1 (.t 14)⟩,
  ⟨some 16, none, .no, .fa 2 (.t 15)⟩,
  ⟨some 17, none, .no, .load false 1 (.t 16)⟩,
  ⟨some 18, none, .no, .lenStr (.t 17)⟩,
  ⟨some 19, none, .no, .bin .gtr .none (.t 18) (.v (.int .i64 (2000)))⟩]
@[go_sem] def speculumlaw20_Great_r6 : List AIns := [
  ⟨some 4, none, .no, .mv (.v (.bool true))⟩]
def speculumlaw20_Great_c7 : ACode := .seq (.reg speculumlaw20_Great_r6) .ret
def speculumlaw20_Great_c8 : ACode := .cond (.t 19) speculumlaw20_Great_c7 .skip
def speculumlaw20_Great_c9 : ACode := .seq (.reg speculumlaw20_Great_r5) speculumlaw20_Great_c8
@[go_sem] def speculumlaw20_Great_r10 : List AIns := [
  ⟨some 10, none, .no, .mv (.t 5)⟩,
  ⟨some 11, none, .no, .bin .add .none (.t 10) (.v (.int .i64 (1)))⟩,
  ⟨some 5, none, .no, .mv (.t 11)⟩]
def speculumlaw20_Great_c11 : ACode := .seq (.block 1 speculumlaw20_Great_c9) (.reg speculumlaw20_Great_r10)
def speculumlaw20_Great_c12 : ACode := .seq speculumlaw20_Great_c4 speculumlaw20_Great_c11
def speculumlaw20_Great_c13 : ACode := .loop speculumlaw20_Great_c12
def speculumlaw20_Great_c14 : ACode := .block 0 speculumlaw20_Great_c13
def speculumlaw20_Great_c15 : ACode := .seq (.reg speculumlaw20_Great_r1) speculumlaw20_Great_c14
@[go_sem] def speculumlaw20_Great_r16 : List AIns := [
  ⟨some 20, none, .no, .mv (.t 0)⟩,
  ⟨some 21, none, .no, .lenSl (.t 20)⟩,
  ⟨some 22, none, .no, .mv (.t 1)⟩,
  ⟨some 23, none, .no, .bin .gtr .none (.t 21) (.t 22)⟩,
  ⟨some 4, none, .no, .mv (.t 23)⟩]
def speculumlaw20_Great_c17 : ACode := .seq (.reg speculumlaw20_Great_r16) .ret
def speculumlaw20_Great_c18 : ACode := .seq speculumlaw20_Great_c15 speculumlaw20_Great_c17
def speculumlaw20_Great_c19 : ACode := .seq (.reg speculumlaw20_Great_r0) speculumlaw20_Great_c18
theorem speculumlaw20_Great_ok : cFn TC 19 = some (24, [.t 4], speculumlaw20_Great_c19) := by kernel_rfl

-- 20 speculum/speculumref20.New
@[go_sem] def speculumref20_New_r0 : List AIns := [
  ⟨some 2, none, .no, .mv (.v .nilp)⟩,
  ⟨some 3, none, .no, .mv (.v (.int .i64 (0)))⟩]
@[go_sem] def speculumref20_New_r1 : List AIns := [
  ⟨some 4, none, .no, .mv (.t 0)⟩,
  ⟨some 5, none, .no, .bin .lss .none (.t 4) (.v (.int .i64 (1)))⟩,
  ⟨some 6, none, .no, .mv (.t 5)⟩,
  ⟨some 7, some (6, false), .no, .mv (.t 0)⟩,
  ⟨some 8, some (6, false), .no, .bin .gtr .none (.t 7) (.v (.int .i64 (32)))⟩,
  ⟨some 9, none, .no, .pick (.t 6) (.v (.bool true)) (.t 8)⟩]
@[go_sem] def speculumref20_New_r2 : List AIns := [
  ⟨some 2, none, .no, .mv (.v .nilp)⟩,
  ⟨some 3, none, .no, .mv (.v (.int .i64 (2)))⟩]
def speculumref20_New_c3 : ACode := .seq (.reg speculumref20_New_r2) .ret
def speculumref20_New_c4 : ACode := .cond (.t 9) speculumref20_New_c3 .skip
def speculumref20_New_c5 : ACode := .seq (.reg speculumref20_New_r1) speculumref20_New_c4
@[go_sem] def speculumref20_New_r6 : List AIns := [
  ⟨some 10, none, .no, .mv (.t 0)⟩,
  ⟨some 11, none, .no, .build [(.int .i64 (0)), .nilsl] [(0, 1, (.t 10))]⟩,
  ⟨some 12, none, .no, .box (.t 11)⟩,
  ⟨some 2, none, .no, .mv (.t 12)⟩,
  ⟨some 3, none, .no, .mv (.v (.int .i64 (0)))⟩]
def speculumref20_New_c7 : ACode := .seq (.reg speculumref20_New_r6) .ret
def speculumref20_New_c8 : ACode := .seq speculumref20_New_c5 speculumref20_New_c7
def speculumref20_New_c9 : ACode := .seq (.reg speculumref20_New_r0) speculumref20_New_c8
theorem speculumref20_New_ok : cFn TC 20 = some (13, [.t 2, .t 3], speculumref20_New_c9) := by kernel_rfl

-- 21 (*speculum/speculumref20.Links).Deliver
@[go_sem] def speculumref20_Links__Deliver_r0 : List AIns := [
  ⟨some 4, none, .no, .alloc [(.int .i64 (0)), (.int .i64 (0)), (.str [])]⟩,
  ⟨some 5, none, .no, .mv (.v (.int .i64 (0)))⟩]
@[go_sem] def speculumref20_Links__Deliver_r1 : List AIns := [
  ⟨some 7, none, .no, .mv (.t 1)⟩,
  ⟨some 8, none, .no, .bin .lss .none (.t 7) (.v (.int .i64 (0)))⟩,
  ⟨some 9, none, .no, .mv (.t 8)⟩,
  ⟨some 10, some (9, false), .no, .mv (.t 1)⟩,
  ⟨some 11, some (9, false), .no, .mv (.t 0)⟩,
  ⟨some 12, some (9, false), .no, .nilc (.t 11)⟩,
  ⟨some 13, some (9, false), .no, .fa 1 (.t 12)⟩,
  ⟨some 14, some (9, false), .no, .load false 1 (.t 13)⟩,
  ⟨some 15, some (9, false), .no, .lenSl (.t 14)⟩,
  ⟨some 16, some (9, false), .no, .bin .geq .none (.t 10) (.t 15)⟩,
  ⟨some 17, none, .no, .pick (.t 9) (.v (.bool true)) (.t 16)⟩]
@[go_sem] def speculumref20_Links__Deliver_r2 : List AIns := [
  ⟨some 18, none, .no, .build [(.int .i64 (0)), (.int .i64 (0)), (.str [])] []⟩,
  ⟨none, none, .no, .store 3 (.t 4) (.t 18)⟩,
  ⟨some 5, none, .no, .mv (.v (.int .i64 (4)))⟩]
def speculumref20_Links__Deliver_c3 : ACode := .seq (.reg speculumref20_Links__Deliver_r2) .ret
def speculumref20_Links__Deliver_c4 : ACode := .cond (.t 17) speculumref20_Links__Deliver_c3 .skip
def speculumref20_Links__Deliver_c5 : ACode := .seq (.reg speculumref20_Links__Deliver_r1) speculumref20_Links__Deliver_c4
@[go_sem] def speculumref20_Links__Deliver_r6 : List AIns := [
  ⟨some 19, none, .no, .mv (.t 0)⟩,
  ⟨some 20, none, .no, .nilc (.t 19)⟩,
  ⟨some 21, none, .no, .fa 1 (.t 20)⟩,
  ⟨some 22, none, .no, .load false 1 (.t 21)⟩,
  ⟨some 23, none, .no, .mv (.t 1)⟩,
  ⟨some 24, none, .no, .iaSl 3 (.t 22) (.t 23)⟩,
  ⟨some 25, none, .no, .load true 3 (.t 24)⟩,
  ⟨some 6, none, .no, .alloc [(.int .i64 (0)), (.int .i64 (0)), (.str [])]⟩,
  ⟨none, none, .no, .store 3 (.t 6) (.t 25)⟩]
@[go_sem] def speculumref20_Links__Deliver_r7 : List AIns := [
  ⟨some 26, none, .no, .mv (.t 0)⟩,
  ⟨some 27, none, .no, .mv (.t 0)⟩,
  ⟨some 28, none, .no, .nilc (.t 27)⟩,
  ⟨some 29, none, .no, .fa 1 (.t 28)⟩,
  ⟨some 30, none, .rd, .load false 1 (.t 29)⟩,
  ⟨some 31, none, .no, .mv (.t 1)⟩,
  ⟨some 32, none, .rd, .slice (.sl 3) (.t 30) none (some (.t 31)) none⟩,
  ⟨some 33, none, .ef, .app 3 (.v .nilsl) (.t 32)⟩,
  ⟨some 34, none, .no, .mv (.t 0)⟩,
  ⟨some 35, none, .no, .nilc (.t 34)⟩,
  ⟨some 36, none, .no, .fa 1 (.t 35)⟩,
  ⟨some 37, none, .rd, .load false 1 (.t 36)⟩,
  ⟨some 38, none, .no, .mv (.t 1)⟩,
  ⟨some 39, none, .no, .bin .add .none (.t 38) (.v (.int .i64 (1)))⟩,
  ⟨some 40, none, .rd, .slice (.sl 3) (.t 37) (some (.t 39)) none none⟩,
  ⟨some 41, none, .no, .app 3 (.t 33) (.t 40)⟩,
  ⟨some 42, none, .no, .nilc (.t 26)⟩,
  ⟨some 43, none, .no, .fa 1 (.t 42)⟩,
  ⟨none, none, .no, .store 1 (.t 43) (.t 41)⟩]
@[go_sem] def speculumref20_Links__Deliver_r8 : List AIns := [
  ⟨some 44, none, .no, .load true 3 (.t 6)⟩,
  ⟨none, none, .no, .store 3 (.t 4) (.t 44)⟩,
  ⟨some 5, none, .no, .mv (.v (.int .i64 (0)))⟩]
def speculumref20_Links__Deliver_c9 : ACode := .seq (.reg speculumref20_Links__Deliver_r8) .ret
def speculumref20_Links__Deliver_c10 : ACode := .seq (.reg speculumref20_Links__Deliver_r7) speculumref20_Links__Deliver_c9
def speculumref20_Links__Deliver_c11 : ACode := .seq (.reg speculumref20_Links__Deliver_r6) speculumref20_Links__Deliver_c10
def speculumref20_Links__Deliver_c12 : ACode := .seq speculumref20_Links__Deliver_c5 speculumref20_Links__Deliver_c11
def speculumref20_Links__Deliver_c13 : ACode := .seq (.reg speculumref20_Links__Deliver_r0) speculumref20_Links__Deliver_c12
theorem speculumref20_Links__Deliver_ok : cFn TC 21 = some (45, [.c 4 true 3, .t 5], speculumref20_Links__Deliver_c13) := by kernel_rfl

-- 22 (*speculum/speculumref20.Links).Drop
@[go_sem] def speculumref20_Links__Drop_r0 : List AIns := [
  ⟨some 4, none, .no, .mv (.v (.int .i64 (0)))⟩]
@[go_sem] def speculumref20_Links__Drop_r1 : List AIns := [
  ⟨some 8, none, .no, .mv (.t 0)⟩,
  ⟨some 9, none, .no, .mv (.t 1)⟩,
  ⟨some 10, none, .no, .call (.v (.fn 21 [])) [(.t 8), (.t 9)]⟩,
  ⟨some 7, none, .no, .mv (.t 10)⟩,
  ⟨some 11, none, .no, .ext 0 (.t 7)⟩,
  ⟨some 12, none, .no, .ext 1 (.t 7)⟩,
  ⟨some 5, none, .no, .alloc [(.int .i64 (0)), (.int .i64 (0)), (.str [])]⟩,
  ⟨none, none, .no, .store 3 (.t 5) (.t 11)⟩,
  ⟨some 6, none, .no, .mv (.t 12)⟩]
@[go_sem] def speculumref20_Links__Drop_r2 : List AIns := [
  ⟨some 13, none, .no, .mv (.t 6)⟩,
  ⟨some 4, none, .no, .mv (.t 13)⟩]
def speculumref20_Links__Drop_c3 : ACode := .seq (.reg speculumref20_Links__Drop_r2) .ret
def speculumref20_Links__Drop_c4 : ACode := .seq (.reg speculumref20_Links__Drop_r1) speculumref20_Links__Drop_c3
def speculumref20_Links__Drop_c5 : ACode := .seq (.reg speculumref20_Links__Drop_r0) speculumref20_Links__Drop_c4
theorem speculumref20_Links__Drop_ok : cFn TC 22 = some (14, [.t 4], speculumref20_Links__Drop_c5) := by kernel_rfl

-- 23 (*speculum/speculumref20.Links).Double
@[go_sem] def speculumref20_Links__Double_r0 : List AIns := [
  ⟨some 4, none, .no, .mv (.v (.int .i64 (0)))⟩]
@[go_sem] def speculumref20_Links__Double_r1 : List AIns := [
  ⟨some 5, none, .no, .mv (.t 1)⟩,
  ⟨some 6, none, .no, .bin .lss .none (.t 5) (.v (.int .i64 (0)))⟩,
  ⟨some 7, none, .no, .mv (.t 6)⟩,
  ⟨some 8, some (7, false), .no, .mv (.t 1)⟩,
  ⟨some 9, some (7, false), .no, .mv (.t 0)⟩,
  ⟨some 10, some (7, false), .no, .nilc (.t 9)⟩,
  ⟨some 11, some (7, false), .no, .fa 1 (.t 10)⟩,
  ⟨some 12, some (7, false), .no, .load false 1 (.t 11)⟩,
  ⟨some 13, some (7, false), .no, .lenSl (.t 12)⟩,
  ⟨some 14, some (7, false), .no, .bin .geq .none (.t 8) (.t 13)⟩,
  ⟨some 15, none, .no, .pick (.t 7) (.v (.bool true)) (.t 14)⟩]
@[go_sem] def speculumref20_Links__Double_r2 : List AIns := [
  ⟨some 4, none, .no, .mv (.v (.int .i64 (4)))⟩]
def speculumref20_Links__Double_c3 : ACode := .seq (.reg speculumref20_Links__Double_r2) .ret
def speculumref20_Links__Double_c4 : ACode := .cond (.t 15) speculumref20_Links__Double_c3 .skip
def speculumref20_Links__Double_c5 : ACode := .seq (.reg speculumref20_Links__Double_r1) speculumref20_Links__Double_c4
@[go_sem] def speculumref20_Links__Double_r6 : List AIns := [
  ⟨some 16, none, .no, .mv (.t 0)⟩,
  ⟨some 17, none, .no, .mv (.t 0)⟩,
  ⟨some 18, none, .no, .nilc (.t 17)⟩,
  ⟨some 19, none, .no, .fa 1 (.t 18)⟩,
  ⟨some 20, none, .no, .load false 1 (.t 19)⟩,
  ⟨some 21, none, .no, .mv (.t 1)⟩,
  ⟨some 22, none, .no, .iaSl 3 (.t 20) (.t 21)⟩,
  ⟨some 23, none, .no, .load true 3 (.t 22)⟩,
  ⟨some 24, none, .no, .call (.v (.fn 27 [])) [(.t 16), (.t 23)]⟩,
  ⟨some 4, none, .no, .mv (.t 24)⟩]
def speculumref20_Links__Double_c7 : ACode := .seq (.reg speculumref20_Links__Double_r6) .ret
def speculumref20_Links__Double_c8 : ACode := .seq speculumref20_Links__Double_c5 speculumref20_Links__Double_c7
def speculumref20_Links__Double_c9 : ACode := .seq (.reg speculumref20_Links__Double_r0) speculumref20_Links__Double_c8
theorem speculumref20_Links__Double_ok : cFn TC 23 = some (25, [.t 4], speculumref20_Links__Double_c9) := by kernel_rfl

-- 24 (*speculum/speculumref20.Links).Turn
@[go_sem] def speculumref20_Links__Turn_r0 : List AIns := [
  ⟨some 6, none, .no, .mv (.v (.int .i64 (0)))⟩]
@[go_sem] def speculumref20_Links__Turn_r1 : List AIns := [
  ⟨some 8, none, .no, .mv (.t 1)⟩,
  ⟨some 9, none, .no, .bin .lss .none (.t 8) (.v (.int .i64 (0)))⟩,
  ⟨some 10, none, .no, .mv (.t 9)⟩,
  ⟨some 11, some (10, false), .no, .mv (.t 1)⟩,
  ⟨some 12, some (10, false), .no, .mv (.t 0)⟩,
  ⟨some 13, some (10, false), .no, .nilc (.t 12)⟩,
  ⟨some 14, some (10, false), .no, .fa 1 (.t 13)⟩,
  ⟨some 15, some (10, false), .no, .load false 1 (.t 14)⟩,
  ⟨some 16, some (10, false), .no, .lenSl (.t 15)⟩,
  ⟨some 17, some (10, false), .no, .bin .geq .none (.t 11) (.t 16)⟩,
  ⟨some 18, none, .no, .pick (.t 10) (.v (.bool true)) (.t 17)⟩,
  ⟨some 19, none, .no, .mv (.t 18)⟩,
  ⟨some 20, some (19, false), .no, .mv (.t 2)⟩,
  ⟨some 21, some (19, false), .no, .bin .lss .none (.t 20) (.v (.int .i64 (0)))⟩,
  ⟨some 22, none, .no, .pick (.t 19) (.v (.bool true)) (.t 21)⟩,
  ⟨some 23, none, .no, .mv (.t 22)⟩,
  ⟨some 24, some (23, false), .no, .mv (.t 2)⟩,
  ⟨some 25, some (23, false), .no, .mv (.t 0)⟩,
  ⟨some 26, some (23, false), .no, .nilc (.t 25)⟩,
  ⟨some 27, some (23, false), .no, .fa 1 (.t 26)⟩,
  ⟨some 28, some (23, false), .no, .load false 1 (.t 27)⟩,
  ⟨some 29, some (23, false), .no, .lenSl (.t 28)⟩,
  ⟨some 30, some (23, false), .no, .bin .geq .none (.t 24) (.t 29)⟩,
  ⟨some 31, none, .no, .pick (.t 23) (.v (.bool true)) (.t 30)⟩]
@[go_sem] def speculumref20_Links__Turn_r2 : List AIns := [
  ⟨some 6, none, .no, .mv (.v (.int .i64 (4)))⟩]
def speculumref20_Links__Turn_c3 : ACode := .seq (.reg speculumref20_Links__Turn_r2) .ret
def speculumref20_Links__Turn_c4 : ACode := .cond (.t 31) speculumref20_Links__Turn_c3 .skip
def speculumref20_Links__Turn_c5 : ACode := .seq (.reg speculumref20_Links__Turn_r1) speculumref20_Links__Turn_c4
@[go_sem] def speculumref20_Links__Turn_r6 : List AIns := [
  ⟨some 32, none, .no, .mv (.t 0)⟩,
  ⟨some 33, none, .no, .nilc (.t 32)⟩,
  ⟨some 34, none, .no, .fa 1 (.t 33)⟩,
  ⟨some 35, none, .no, .load false 1 (.t 34)⟩,
  ⟨some 36, none, .no, .app 3 (.v .nilsl) (.t 35)⟩,
  ⟨some 7, none, .no, .mv (.t 36)⟩]
@[go_sem] def speculumref20_Links__Turn_r7 : List AIns := [
  ⟨some 37, none, .no, .mv (.t 7)⟩,
  ⟨some 38, none, .no, .mv (.t 1)⟩,
  ⟨some 39, none, .no, .mv (.t 7)⟩,
  ⟨some 40, none, .no, .mv (.t 2)⟩,
  ⟨some 41, none, .no, .mv (.t 0)⟩,
  ⟨some 42, none, .no, .nilc (.t 41)⟩,
  ⟨some 43, none, .no, .fa 1 (.t 42)⟩,
  ⟨some 44, none, .rd, .load false 1 (.t 43)⟩,
  ⟨some 45, none, .no, .mv (.t 2)⟩,
  ⟨some 46, none, .no, .iaSl 3 (.t 44) (.t 45)⟩,
  ⟨some 47, none, .rd, .load true 3 (.t 46)⟩,
  ⟨some 48, none, .no, .mv (.t 0)⟩,
  ⟨some 49, none, .no, .nilc (.t 48)⟩,
  ⟨some 50, none, .no, .fa 1 (.t 49)⟩,
  ⟨some 51, none, .rd, .load false 1 (.t 50)⟩,
  ⟨some 52, none, .no, .mv (.t 1)⟩,
  ⟨some 53, none, .no, .iaSl 3 (.t 51) (.t 52)⟩,
  ⟨some 54, none, .rd, .load true 3 (.t 53)⟩,
  ⟨some 55, none, .no, .iaSl 3 (.t 37) (.t 38)⟩,
  ⟨none, none, .no, .store 3 (.t 55) (.t 47)⟩,
  ⟨some 56, none, .no, .iaSl 3 (.t 39) (.t 40)⟩,
  ⟨none, none, .no, .store 3 (.t 56) (.t 54)⟩]
@[go_sem] def speculumref20_Links__Turn_r8 : List AIns := [
  ⟨some 57, none, .no, .mv (.t 0)⟩,
  ⟨some 58, none, .no, .mv (.t 7)⟩,
  ⟨some 59, none, .no, .nilc (.t 57)⟩,
  ⟨some 60, none, .no, .fa 1 (.t 59)⟩,
  ⟨none, none, .no, .store 1 (.t 60) (.t 58)⟩]
@[go_sem] def speculumref20_Links__Turn_r9 : List AIns := [
  ⟨some 6, none, .no, .mv (.v (.int .i64 (0)))⟩]
def speculumref20_Links__Turn_c10 : ACode := .seq (.reg speculumref20_Links__Turn_r9) .ret
def speculumref20_Links__Turn_c11 : ACode := .seq (.reg speculumref20_Links__Turn_r8) speculumref20_Links__Turn_c10
def speculumref20_Links__Turn_c12 : ACode := .seq (.reg speculumref20_Links__Turn_r7) speculumref20_Links__Turn_c11
def speculumref20_Links__Turn_c13 : ACode := .seq (.reg speculumref20_Links__Turn_r6) speculumref20_Links__Turn_c12
def speculumref20_Links__Turn_c14 : ACode := .seq speculumref20_Links__Turn_c5 speculumref20_Links__Turn_c13
def speculumref20_Links__Turn_c15 : ACode := .seq (.reg speculumref20_Links__Turn_r0) speculumref20_Links__Turn_c14
theorem speculumref20_Links__Turn_ok : cFn TC 24 = some (61, [.t 6], speculumref20_Links__Turn_c15) := by kernel_rfl

-- 25 (*speculum/speculumref20.Links).Flip
@[go_sem] def speculumref20_Links__Flip_r0 : List AIns := [
  ⟨some 8, none, .no, .mv (.v (.int .i64 (0)))⟩]
@[go_sem] def speculumref20_Links__Flip_r1 : List AIns := [
  ⟨some 11, none, .no, .mv (.t 1)⟩,
  ⟨some 12, none, .no, .bin .lss .none (.t 11) (.v (.int .i64 (0)))⟩,
  ⟨some 13, none, .no, .mv (.t 12)⟩,
  ⟨some 14, some (13, false), .no, .mv (.t 1)⟩,
  ⟨some 15, some (13, false), .no, .mv (.t 0)⟩,
  ⟨some 16, some (13, false), .no, .nilc (.t 15)⟩,
  ⟨some 17, some (13, false), .no, .fa 1 (.t 16)⟩,
  ⟨some 18, some (13, false), .no, .load false 1 (.t 17)⟩,
  ⟨some 19, some (13, false), .no, .lenSl (.t 18)⟩,
  ⟨some 20, some (13, false), .no, .bin .geq .none (.t 14) (.t 19)⟩,
  ⟨some 21, none, .no, .pick (.t 13) (.v (.bool true)) (.t 20)⟩]
@[go_sem] def speculumref20_Links__Flip_r2 : List AIns := [
  ⟨some 8, none, .no, .mv (.v (.int .i64 (4)))⟩]
def speculumref20_Links__Flip_c3 : ACode := .seq (.reg speculumref20_Links__Flip_r2) .ret
def speculumref20_Links__Flip_c4 : ACode := .cond (.t 21) speculumref20_Links__Flip_c3 .skip
def speculumref20_Links__Flip_c5 : ACode := .seq (.reg speculumref20_Links__Flip_r1) speculumref20_Links__Flip_c4
@[go_sem] def speculumref20_Links__Flip_r6 : List AIns := [
  ⟨some 22, none, .no, .mv (.t 0)⟩,
  ⟨some 23, none, .no, .nilc (.t 22)⟩,
  ⟨some 24, none, .no, .fa 1 (.t 23)⟩,
  ⟨some 25, none, .no, .load false 1 (.t 24)⟩,
  ⟨some 26, none, .no, .mv (.t 1)⟩,
  ⟨some 27, none, .no, .iaSl 3 (.t 25) (.t 26)⟩,
  ⟨some 28, none, .no, .fa 2 (.t 27)⟩,
  ⟨some 29, none, .no, .load false 1 (.t 28)⟩,
  ⟨some 9, none, .no, .mv (.t 29)⟩]
@[go_sem] def speculumref20_Links__Flip_r7 : List AIns := [
  ⟨some 30, none, .no, .mv (.t 2)⟩,
  ⟨some 31, none, .no, .bin .lss .none (.t 30) (.v (.int .i64 (0)))⟩,
  ⟨some 32, none, .no, .mv (.t 31)⟩,
  ⟨some 33, some (32, false), .no, .mv (.t 2)⟩,
  ⟨some 34, some (32, false), .no, .mv (.t 9)⟩,
  ⟨some 35, some (32, false), .no, .lenStr (.t 34)⟩,
  ⟨some 36, some (32, false), .no, .bin .geq .none (.t 33) (.t 35)⟩,
  ⟨some 37, none, .no, .pick (.t 32) (.v (.bool true)) (.t 36)⟩]
@[go_sem] def speculumref20_Links__Flip_r8 : List AIns := [
  ⟨some 8, none, .no, .mv (.v (.int .i64 (2)))⟩]
def speculumref20_Links__Flip_c9 : ACode := .seq (.reg speculumref20_Links__Flip_r8) .ret
def speculumref20_Links__Flip_c10 : ACode := .cond (.t 37) speculumref20_Links__Flip_c9 .skip
def speculumref20_Links__Flip_c11 : ACode := .seq (.reg speculumref20_Links__Flip_r7) speculumref20_Links__Flip_c10
@[go_sem] def speculumref20_Links__Flip_r12 : List AIns := [
  ⟨some 38, none, .no, .mv (.t 0)⟩,
  ⟨some 39, none, .no, .nilc (.t 38)⟩,
  ⟨some 40, none, .no, .fa 1 (.t 39)⟩,
  ⟨some 41, none, .no, .load false 1 (.t 40)⟩,
  ⟨some 42, none, .no, .app 3 (.v .nilsl) (.t 41)⟩,
  ⟨some 10, none, .no, .mv (.t 42)⟩]
@[go_sem] def speculumref20_Links__Flip_r13 : List AIns := [
  ⟨some 43, none, .no, .mv (.t 10)⟩,
  ⟨some 44, none, .no, .mv (.t 1)⟩,
  ⟨some 45, none, .no, .mv (.t 9)⟩,
  ⟨some 46, none, .no, .mv (.t 2)⟩,
  ⟨some 47, none, .rd, .slice .str (.t 45) none (some (.t 46)) none⟩,
  ⟨some 48, none, .no, .mv (.t 9)⟩,
  ⟨some 49, none, .no, .mv (.t 2)⟩,
  ⟨some 50, none, .no, .ixStr (.t 48) (.t 49)⟩,
  ⟨some 51, none, .no, .mv (.t 3)⟩,
  ⟨some 52, none, .no, .bin .xor .none (.t 50) (.t 51)⟩,
  ⟨some 53, none, .no, .lit 1 [(.t 52)]⟩,
  ⟨some 54, none, .ef, .conv .str (.t 53)⟩,
  ⟨some 55, none, .no, .bin .add .none (.t 47) (.t 54)⟩,
  ⟨some 56, none, .no, .mv (.t 9)⟩,
  ⟨some 57, none, .no, .mv (.t 2)⟩,
  ⟨some 58, none, .no, .bin .add .none (.t 57) (.v (.int .i64 (1)))⟩,
  ⟨some 59, none, .rd, .slice .str (.t 56) (some (.t 58)) none none⟩,
  ⟨some 60, none, .no, .bin .add .none (.t 55) (.t 59)⟩,
  ⟨some 61, none, .no, .iaSl 3 (.t 43) (.t 44)⟩,
  ⟨some 62, none, .no, .fa 2 (.t 61)⟩,
  ⟨none, none, .no, .store 1 (.t 62) (.t 60)⟩]
@[go_sem] def speculumref20_Links__Flip_r14 : List AIns := [
  ⟨some 63, none, .no, .mv (.t 0)⟩,
  ⟨some 64, none, .no, .mv (.t 10)⟩,
  ⟨some 65, none, .no, .nilc (.t 63)⟩,
  ⟨some 66, none, .no, .fa 1 (.t 65)⟩,
  ⟨none, none, .no, .store 1 (.t 66) (.t 64)⟩]
@[go_sem] def speculumref20_Links__Flip_r15 : List AIns := [
  ⟨some 8, none, .no, .mv (.v (.int .i64 (0)))⟩]
def speculumref20_Links__Flip_c16 : ACode := .seq (.reg speculumref20_Links__Flip_r15) .ret
def speculumref20_Links__Flip_c17 : ACode := .seq (.reg speculumref20_Links__Flip_r14) speculumref20_Links__Flip_c16
def speculumref20_Links__Flip_c18 : ACode := .seq (.reg speculumref20_Links__Flip_r13) speculumref20_Links__Flip_c17
def speculumref20_Links__Flip_c19 : ACode := .seq (.reg speculumref20_Links__Flip_r12) speculumref20_Links__Flip_c18
def speculumref20_Links__Flip_c20 : ACode := .seq speculumref20_Links__Flip_c11 speculumref20_Links__Flip_c19
def speculumref20_Links__Flip_c21 : ACode := .seq (.reg speculumref20_Links__Flip_r6) speculumref20_Links__Flip_c20
def speculumref20_Links__Flip_c22 : ACode := .seq speculumref20_Links__Flip_c5 speculumref20_Links__Flip_c21
def speculumref20_Links__Flip_c23 : ACode := .seq (.reg speculumref20_Links__Flip_r0) speculumref20_Links__Flip_c22
theorem speculumref20_Links__Flip_ok : cFn TC 25 = some (67, [.t 8], speculumref20_Links__Flip_c23) := by kernel_rfl

-- 26 (*speculum/links.Links).Copy
@[go_sem] def links_Links__Copy_r0 : List AIns := [
  ⟨some 2, none, .no, .mv (.v .nilp)⟩]
@[go_sem] def links_Links__Copy_r1 : List AIns := [
  ⟨some 3, none, .no, .mv (.t 0)⟩,
  ⟨some 4, none, .no, .call (.v (.fn 44 [])) [(.t 3)]⟩]
@[go_sem] def links_Links__Copy_r2 : List AIns := [
  ⟨some 2, none, .no, .mv (.v .nilp)⟩]
def links_Links__Copy_c3 : ACode := .seq (.reg links_Links__Copy_r2) .ret
def links_Links__Copy_c4 : ACode := .cond (.t 4) links_Links__Copy_c3 .skip
def links_Links__Copy_c5 : ACode := .seq (.reg links_Links__Copy_r1) links_Links__Copy_c4
@[go_sem] def links_Links__Copy_r6 : List AIns := [
  ⟨some 5, none, .no, .mv (.t 0)⟩,
  ⟨some 6, none, .no, .nilc (.t 5)⟩,
  ⟨some 7, none, .no, .fa 0 (.t 6)⟩,
  ⟨some 8, none, .rd, .load false 1 (.t 7)⟩,
  ⟨some 9, none, .no, .mv (.t 0)⟩,
  ⟨some 10, none, .ef, .call (.v (.fn 13 [])) [(.t 9)]⟩,
  ⟨some 11, none, .no, .build [(.int .i64 (0)), .nilsl] [(0, 1, (.t 8)), (1, 1, (.t 10))]⟩,
  ⟨some 12, none, .no, .box (.t 11)⟩,
  ⟨some 2, none, .no, .mv (.t 12)⟩]
def links_Links__Copy_c7 : ACode := .seq (.reg links_Links__Copy_r6) .ret
def links_Links__Copy_c8 : ACode := .seq links_Links__Copy_c5 links_Links__Copy_c7
def links_Links__Copy_c9 : ACode := .seq (.reg links_Links__Copy_r0) links_Links__Copy_c8
theorem links_Links__Copy_ok : cFn TC 26 = some (13, [.t 2], links_Links__Copy_c9) := by kernel_rfl

-- 27 (*speculum/speculumref20.Links).Send
@[go_sem] def speculumref20_Links__Send_r0 : List AIns := [
  ⟨some 3, none, .no, .box (.t 1)⟩,
  ⟨some 4, none, .no, .mv (.v (.int .i64 (0)))⟩]
@[go_sem] def speculumref20_Links__Send_r1 : List AIns := [
  ⟨some 5, none, .no, .mv (.t 0)⟩,
  ⟨some 6, none, .no, .fa 0 (.t 3)⟩,
  ⟨some 7, none, .no, .load false 1 (.t 6)⟩,
  ⟨some 8, none, .no, .call (.v (.fn 47 [])) [(.t 5), (.t 7)]⟩,
  ⟨some 9, none, .no, .un .not (.t 8)⟩,
  ⟨some 10, none, .no, .mv (.t 9)⟩,
  ⟨some 11, some (10, false), .no, .mv (.t 0)⟩,
  ⟨some 12, some (10, false), .no, .fa 1 (.t 3)⟩,
  ⟨some 13, some (10, false), .no, .load false 1 (.t 12)⟩,
  ⟨some 14, some (10, false), .no, .call (.v (.fn 47 [])) [(.t 11), (.t 13)]⟩,
  ⟨some 15, some (10, false), .no, .un .not (.t 14)⟩,
  ⟨some 16, none, .no, .pick (.t 10) (.v (.bool true)) (.t 15)⟩,
  ⟨some 17, none, .no, .mv (.t 16)⟩,
  ⟨some 18, some (17, false), .no, .fa 0 (.t 3)⟩,
  ⟨some 19, some (17, false), .no, .load false 1 (.t 18)⟩,
  ⟨some 20, some (17, false), .no, .fa 1 (.t 3)⟩,
  ⟨some 21, some (17, false), .no, .load false 1 (.t 20)⟩,
  ⟨some 22, some (17, false), .no, .bin .eql .none (.t 19) (.t 21)⟩,
  ⟨some 23, none, .no, .pick (.t 17) (.v (.bool true)) (.t 22)⟩]
@[go_sem] def speculumref20_Links__Send_r2 : List AIns := [
  ⟨some 4, none, .no, .mv (.v (.int .i64 (2)))⟩]
def speculumref20_Links__Send_c3 : ACode := .seq (.reg speculumref20_Links__Send_r2) .ret
def speculumref20_Links__Send_c4 : ACode := .cond (.t 23) speculumref20_Links__Send_c3 .skip
def speculumref20_Links__Send_c5 : ACode := .seq (.reg speculumref20_Links__Send_r1) speculumref20_Links__Send_c4
@[go_sem] def speculumref20_Links__Send_r6 : List AIns := [
  ⟨some 24, none, .no, .fa 2 (.t 3)⟩,
  ⟨some 25, none, .no, .load false 1 (.t 24)⟩,
  ⟨some 26, none, .no, .lenStr (.t 25)⟩,
  ⟨some 27, none, .no, .bin .gtr .none (.t 26) (.v (.int .i64 (65536)))⟩]
@[go_sem] def speculumref20_Links__Send_r7 : List AIns := [
  ⟨some 4, none, .no, .mv (.v (.int .i64 (3)))⟩]
def speculumref20_Links__Send_c8 : ACode := .seq (.reg speculumref20_Links__Send_r7) .ret
def speculumref20_Links__Send_c9 : ACode := .cond (.t 27) speculumref20_Links__Send_c8 .skip
def speculumref20_Links__Send_c10 : ACode := .seq (.reg speculumref20_Links__Send_r6) speculumref20_Links__Send_c9
@[go_sem] def speculumref20_Links__Send_r11 : List AIns := [
  ⟨some 28, none, .no, .mv (.t 0)⟩,
  ⟨some 29, none, .no, .nilc (.t 28)⟩,
  ⟨some 30, none, .no, .fa 1 (.t 29)⟩,
  ⟨some 31, none, .no, .load false 1 (.t 30)⟩,
  ⟨some 32, none, .no, .lenSl (.t 31)⟩,
  ⟨some 33, none, .no, .bin .geq .none (.t 32) (.v (.int .i64 (200)))⟩]
@[go_sem] def speculumref20_Links__Send_r12 : List AIns := [
  ⟨some 4, none, .no, .mv (.v (.int .i64 (60)))⟩]
def speculumref20_Links__Send_c13 : ACode := .seq (.reg speculumref20_Links__Send_r12) .ret
def speculumref20_Links__Send_c14 : ACode := .cond (.t 33) speculumref20_Links__Send_c13 .skip
def speculumref20_Links__Send_c15 : ACode := .seq (.reg speculumref20_Links__Send_r11) speculumref20_Links__Send_c14
@[go_sem] def speculumref20_Links__Send_r16 : List AIns := [
  ⟨some 34, none, .no, .mv (.t 0)⟩,
  ⟨some 35, none, .no, .mv (.t 0)⟩,
  ⟨some 36, none, .no, .nilc (.t 35)⟩,
  ⟨some 37, none, .no, .fa 1 (.t 36)⟩,
  ⟨some 38, none, .rd, .load false 1 (.t 37)⟩,
  ⟨some 39, none, .ef, .app 3 (.v .nilsl) (.t 38)⟩,
  ⟨some 40, none, .rd, .load true 3 (.t 3)⟩,
  ⟨some 41, none, .no, .lit 3 [(.t 40)]⟩,
  ⟨some 42, none, .no, .app 3 (.t 39) (.t 41)⟩,
  ⟨some 43, none, .no, .nilc (.t 34)⟩,
  ⟨some 44, none, .no, .fa 1 (.t 43)⟩,
  ⟨none, none, .no, .store 1 (.t 44) (.t 42)⟩]
@[go_sem] def speculumref20_Links__Send_r17 : List AIns := [
  ⟨some 4, none, .no, .mv (.v (.int .i64 (0)))⟩]
def speculumref20_Links__Send_c18 : ACode := .seq (.reg speculumref20_Links__Send_r17) .ret
def speculumref20_Links__Send_c19 : ACode := .seq (.reg speculumref20_Links__Send_r16) speculumref20_Links__Send_c18
def speculumref20_Links__Send_c20 : ACode := .seq speculumref20_Links__Send_c15 speculumref20_Links__Send_c19
def speculumref20_Links__Send_c21 : ACode := .seq speculumref20_Links__Send_c10 speculumref20_Links__Send_c20
def speculumref20_Links__Send_c22 : ACode := .seq speculumref20_Links__Send_c5 speculumref20_Links__Send_c21
def speculumref20_Links__Send_c23 : ACode := .seq (.reg speculumref20_Links__Send_r0) speculumref20_Links__Send_c22
theorem speculumref20_Links__Send_ok : cFn TC 27 = some (45, [.t 4], speculumref20_Links__Send_c23) := by kernel_rfl

-- 28 speculum/speculumlaw20.Same
@[go_sem] def speculumlaw20_Same_r0 : List AIns := [
  ⟨some 4, none, .no, .mv (.v (.bool false))⟩]
@[go_sem] def speculumlaw20_Same_r1 : List AIns := [
  ⟨some 6, none, .no, .mv (.t 0)⟩,
  ⟨some 7, none, .no, .lenSl (.t 6)⟩,
  ⟨some 8, none, .no, .mv (.t 1)⟩,
  ⟨some 9, none, .no, .lenSl (.t 8)⟩,
  ⟨some 10, none, .no, .bin .neq .none (.t 7) (.t 9)⟩]
@[go_sem] def speculumlaw20_Same_r2 : List AIns := [
  ⟨some 4, none, .no, .mv (.v (.bool false))⟩]
def speculumlaw20_Same_c3 : ACode := .seq (.reg speculumlaw20_Same_r2) .ret
def speculumlaw20_Same_c4 : ACode := .cond (.t 10) speculumlaw20_Same_c3 .skip
def speculumlaw20_Same_c5 : ACode := .seq (.reg speculumlaw20_Same_r1) speculumlaw20_Same_c4
@[go_sem] def speculumlaw20_Same_r6 : List AIns := [
  ⟨some 5, none, .no, .mv (.v (.int .i64 (0)))⟩]
@[go_sem] def speculumlaw20_Same_r7 : List AIns := [
  ⟨some 11, none, .no, .mv (.t 5)⟩,
  ⟨some 12, none, .no, .mv (.t 0)⟩,
  ⟨some 13, none, .no, .lenSl (.t 12)⟩,
  ⟨some 14, none, .no, .bin .lss .none (.t 11) (.t 13)⟩]
def speculumlaw20_Same_c8 : ACode := .cond (.t 14) .skip (.exit 0)
def speculumlaw20_Same_c9 : ACode := .seq (.reg speculumlaw20_Same_r7) speculumlaw20_Same_c8
@[go_sem] def speculumlaw20_Same_r10 : List AIns := [
  ⟨some 17, none, .no, .mv (.t 0)⟩,
  ⟨some 18, none, .no, .mv (.t 5)⟩,
  ⟨some 19, none, .no, .iaSl 3 (.t 17) (.t 18)⟩,
  ⟨some 20, none, .rd, .load true 3 (.t 19)⟩,
  ⟨some 21, none, .no, .mv (.t 1)⟩,
  ⟨some 22, none, .no, .mv (.t 5)⟩,
  ⟨some 23, none, .no, .iaSl 3 (.t 21) (.t 22)⟩,
  ⟨some 24, none, .rd, .load true 3 (.t 23)⟩,
  ⟨some 25, none, .no, .bin .neq (.agg ([(.i .i64), (.i .i64), .s] ++ [])) (.t 20) (.t 24)⟩]
@[go_sem] def speculumlaw20_Same_r11 : List AIns := [
  ⟨some 4, none, .no, .mv (.v (.bool false))⟩]
def speculumlaw20_Same_c12 : ACode := .seq (.reg speculumlaw20_Same_r11) .ret
def speculumlaw20_Same_c13 : ACode := .cond (.t 25) speculumlaw20_Same_c12 .skip
def speculumlaw20_Same_c14 : ACode := .seq (.reg speculumlaw20_Same_r10) speculumlaw20_Same_c13
@[go_sem] def speculumlaw20_Same_r15 : List AIns := [
  ⟨some 15, none, .no, .mv (.t 5)⟩,
  ⟨some 16, none, .no, .bin .add .none (.t 15) (.v (.int .i64 (1)))⟩,
  ⟨some 5, none, .no, .mv (.t 16)⟩]
def speculumlaw20_Same_c16 : ACode := .seq (.block 1 speculumlaw20_Same_c14) (.reg speculumlaw20_Same_r15)
def speculumlaw20_Same_c17 : ACode := .seq speculumlaw20_Same_c9 speculumlaw20_Same_c16
def speculumlaw20_Same_c18 : ACode := .loop speculumlaw20_Same_c17
def speculumlaw20_Same_c19 : ACode := .block 0 speculumlaw20_Same_c18
def speculumlaw20_Same_c20 : ACode := .seq (.reg speculumlaw20_Same_r6) speculumlaw20_Same_c19
@[go_sem] def speculumlaw20_Same_r21 : List AIns := [
  ⟨some 4, none, .no, .mv (.v (.bool true))⟩]
def speculumlaw20_Same_c22 : ACode := .seq (.reg speculumlaw20_Same_r21) .ret
def speculumlaw20_Same_c23 : ACode := .seq speculumlaw20_Same_c20 speculumlaw20_Same_c22
def speculumlaw20_Same_c24 : ACode := .seq speculumlaw20_Same_c5 speculumlaw20_Same_c23
def speculumlaw20_Same_c25 : ACode := .seq (.reg speculumlaw20_Same_r0) speculumlaw20_Same_c24
theorem speculumlaw20_Same_ok : cFn TC 28 = some (26, [.t 4], speculumlaw20_Same_c25) := by kernel_rfl

-- 44 (*speculum/links.Links).none
@[go_sem] def links_Links__none_r0 : List AIns := [
  ⟨some 2, none, .no, .mv (.v (.bool false))⟩]
@[go_sem] def links_Links__none_r1 : List AIns := [
  ⟨some 3, none, .no, .mv (.t 0)⟩,
  ⟨some 4, none, .no, .bin .eql .ptr (.t 3) (.v .nilp)⟩,
  ⟨some 5, none, .no, .mv (.t 4)⟩,
  ⟨some 6, some (5, false), .no, .mv (.t 0)⟩,
  ⟨some 7, some (5, false), .no, .nilc (.t 6)⟩,
  ⟨some 8, some (5, false), .no, .fa 0 (.t 7)⟩,
  ⟨some 9, some (5, false), .no, .load false 1 (.t 8)⟩,
  ⟨some 10, some (5, false), .no, .bin .eql .none (.t 9) (.v (.int .i64 (0)))⟩,
  ⟨some 11, none, .no, .pick (.t 5) (.v (.bool true)) (.t 10)⟩,
  ⟨some 2, none, .no, .mv (.t 11)⟩]
def links_Links__none_c2 : ACode := .seq (.reg links_Links__none_r1) .ret
def links_Links__none_c3 : ACode := .seq (.reg links_Links__none_r0) links_Links__none_c2
theorem links_Links__none_ok : cFn TC 44 = some (12, [.t 2], links_Links__none_c3) := by kernel_rfl

-- 45 (*speculum/links.Links).at
@[go_sem] def links_Links__at_r0 : List AIns := [
  ⟨some 4, none, .no, .mv (.v (.int .i64 (0)))⟩]
@[go_sem] def links_Links__at_r1 : List AIns := [
  ⟨some 6, none, .no, .mv (.t 0)⟩,
  ⟨some 7, none, .no, .call (.v (.fn 44 [])) [(.t 6)]⟩,
  ⟨some 5, none, .no, .mv (.t 7)⟩]
@[go_sem] def links_Links__at_r2 : List AIns := [
  ⟨some 4, none, .no, .mv (.v (.int .i64 (1)))⟩]
def links_Links__at_c3 : ACode := .seq (.reg links_Links__at_r2) .ret
@[go_sem] def links_Links__at_r4 : List AIns := [
  ⟨some 9, none, .no, .mv (.t 1)⟩,
  ⟨some 10, none, .no, .bin .lss .none (.t 9) (.v (.int .i64 (0)))⟩,
  ⟨some 11, none, .no, .mv (.t 10)⟩,
  ⟨some 12, some (11, false), .no, .mv (.t 1)⟩,
  ⟨some 13, some (11, false), .no, .mv (.t 0)⟩,
  ⟨some 14, some (11, false), .no, .nilc (.t 13)⟩,
  ⟨some 15, some (11, false), .no, .fa 1 (.t 14)⟩,
  ⟨some 16, some (11, false), .no, .load false 1 (.t 15)⟩,
  ⟨some 17, some (11, false), .no, .lenSl (.t 16)⟩,
  ⟨some 18, some (11, false), .no, .bin .geq .none (.t 12) (.t 17)⟩,
  ⟨some 19, none, .no, .pick (.t 11) (.v (.bool true)) (.t 18)⟩,
  ⟨some 8, none, .no, .mv (.t 19)⟩]
@[go_sem] def links_Links__at_r5 : List AIns := [
  ⟨some 4, none, .no, .mv (.v (.int .i64 (4)))⟩]
def links_Links__at_c6 : ACode := .seq (.reg links_Links__at_r5) .ret
def links_Links__at_c7 : ACode := .cond (.t 8) links_Links__at_c6 .skip
def links_Links__at_c8 : ACode := .seq (.reg links_Links__at_r4) links_Links__at_c7
def links_Links__at_c9 : ACode := .cond (.t 5) links_Links__at_c3 links_Links__at_c8
def links_Links__at_c10 : ACode := .seq (.reg links_Links__at_r1) links_Links__at_c9
@[go_sem] def links_Links__at_r11 : List AIns := [
  ⟨some 4, none, .no, .mv (.v (.int .i64 (0)))⟩]
def links_Links__at_c12 : ACode := .seq (.reg links_Links__at_r11) .ret
def links_Links__at_c13 : ACode := .seq (.block 0 links_Links__at_c10) links_Links__at_c12
def links_Links__at_c14 : ACode := .seq (.reg links_Links__at_r0) links_Links__at_c13
theorem links_Links__at_ok : cFn TC 45 = some (20, [.t 4], links_Links__at_c14) := by kernel_rfl

-- 46 slices.Delete[[]speculum/api.Mail,speculum/api.Mail]
@[go_sem] def slices_Delete_api_Mail__r0 : List AIns := [
  ⟨some 6, none, .no, .mv (.v .nilsl)⟩]
@[go_sem] def slices_Delete_api_Mail__r1 : List AIns := [
  ⟨some 8, none, .no, .mv (.t 0)⟩,
  ⟨some 9, none, .no, .mv (.t 1)⟩,
  ⟨some 10, none, .no, .mv (.t 2)⟩,
  ⟨some 11, none, .no, .mv (.t 0)⟩,
  ⟨some 12, none, .no, .lenSl (.t 11)⟩,
  ⟨some 13, none, .no, .slice (.sl 3) (.t 8) (some (.t 9)) (some (.t 10)) (some (.t 12))⟩]
@[go_sem] def slices_Delete_api_Mail__r2 : List AIns := [
  ⟨some 14, none, .no, .mv (.t 1)⟩,
  ⟨some 15, none, .no, .mv (.t 2)⟩,
  ⟨some 16, none, .no, .bin .eql .none (.t 14) (.t 15)⟩]
@[go_sem] def slices_Delete_api_Mail__r3 : List AIns := [
  ⟨some 17, none, .no, .mv (.t 0)⟩,
  ⟨some 6, none, .no, .mv (.t 17)⟩]
def slices_Delete_api_Mail__c4 : ACode := .seq (.reg slices_Delete_api_Mail__r3) .ret
def slices_Delete_api_Mail__c5 : ACode := .cond (.t 16) slices_Delete_api_Mail__c4 .skip
def slices_Delete_api_Mail__c6 : ACode := .seq (.reg slices_Delete_api_Mail__r2) slices_Delete_api_Mail__c5
@[go_sem] def slices_Delete_api_Mail__r7 : List AIns := [
  ⟨some 18, none, .no, .mv (.t 0)⟩,
  ⟨some 19, none, .no, .lenSl (.t 18)⟩,
  ⟨some 7, none, .no, .mv (.t 19)⟩]
@[go_sem] def slices_Delete_api_Mail__r8 : List AIns := [
  ⟨some 20, none, .no, .mv (.t 0)⟩,
  ⟨some 21, none, .no, .mv (.t 1)⟩,
  ⟨some 22, none, .rd, .slice (.sl 3) (.t 20) none (some (.t 21)) none⟩,
  ⟨some 23, none, .no, .mv (.t 0)⟩,
  ⟨some 24, none, .no, .mv (.t 2)⟩,
  ⟨some 25, none, .rd, .slice (.sl 3) (.t 23) (some (.t 24)) none none⟩,
  ⟨some 26, none, .no, .app 3 (.t 22) (.t 25)⟩,
  ⟨some 0, none, .no, .mv (.t 26)⟩]
@[go_sem] def slices_Delete_api_Mail__r9 : List AIns := [
  ⟨some 27, none, .no, .mv (.t 0)⟩,
  ⟨some 28, none, .no, .mv (.t 0)⟩,
  ⟨some 29, none, .no, .lenSl (.t 28)⟩,
  ⟨some 30, none, .no, .mv (.t 7)⟩,
  ⟨some 31, none, .no, .slice (.sl 3) (.t 27) (some (.t 29)) (some (.t 30)) none⟩,
  ⟨none, none, .no, .clear [(.int .i64 (0)), (.int .i64 (0)), (.str [])] (.t 31)⟩]
@[go_sem] def slices_Delete_api_Mail__r10 : List AIns := [
  ⟨some 32, none, .no, .mv (.t 0)⟩,
  ⟨some 6, none, .no, .mv (.t 32)⟩]
def slices_Delete_api_Mail__c11 : ACode := .seq (.reg slices_Delete_api_Mail__r10) .ret
def slices_Delete_api_Mail__c12 : ACode := .seq (.reg slices_Delete_api_Mail__r9) slices_Delete_api_Mail__c11
def slices_Delete_api_Mail__c13 : ACode := .seq (.reg slices_Delete_api_Mail__r8) slices_Delete_api_Mail__c12
def slices_Delete_api_Mail__c14 : ACode := .seq (.reg slices_Delete_api_Mail__r7) slices_Delete_api_Mail__c13
def slices_Delete_api_Mail__c15 : ACode := .seq slices_Delete_api_Mail__c6 slices_Delete_api_Mail__c14
def slices_Delete_api_Mail__c16 : ACode := .seq (.reg slices_Delete_api_Mail__r1) slices_Delete_api_Mail__c15
def slices_Delete_api_Mail__c17 : ACode := .seq (.reg slices_Delete_api_Mail__r0) slices_Delete_api_Mail__c16
theorem slices_Delete_api_Mail__ok : cFn TC 46 = some (33, [.t 6], slices_Delete_api_Mail__c17) := by kernel_rfl

-- 47 (*speculum/speculumref20.Links).is
@[go_sem] def speculumref20_Links__is_r0 : List AIns := [
  ⟨some 4, none, .no, .mv (.v (.bool false))⟩]
@[go_sem] def speculumref20_Links__is_r1 : List AIns := [
  ⟨some 5, none, .no, .mv (.t 1)⟩,
  ⟨some 6, none, .no, .bin .geq .none (.t 5) (.v (.int .i64 (0)))⟩,
  ⟨some 7, none, .no, .mv (.t 6)⟩,
  ⟨some 8, some (7, true), .no, .mv (.t 1)⟩,
  ⟨some 9, some (7, true), .no, .mv (.t 0)⟩,
  ⟨some 10, some (7, true), .no, .nilc (.t 9)⟩,
  ⟨some 11, some (7, true), .no, .fa 0 (.t 10)⟩,
  ⟨some 12, some (7, true), .no, .load false 1 (.t 11)⟩,
  ⟨some 13, some (7, true), .no, .bin .lss .none (.t 8) (.t 12)⟩,
  ⟨some 14, none, .no, .pick (.t 7) (.t 13) (.v (.bool false))⟩,
  ⟨some 4, none, .no, .mv (.t 14)⟩]
def speculumref20_Links__is_c2 : ACode := .seq (.reg speculumref20_Links__is_r1) .ret
def speculumref20_Links__is_c3 : ACode := .seq (.reg speculumref20_Links__is_r0) speculumref20_Links__is_c2
theorem speculumref20_Links__is_ok : cFn TC 47 = some (15, [.t 4], speculumref20_Links__is_c3) := by kernel_rfl
end Am
end Go.Proofs.Ytkffgmpbhahioaa
