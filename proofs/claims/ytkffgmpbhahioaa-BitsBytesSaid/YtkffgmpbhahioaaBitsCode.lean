/- The abstract code of the functions on bits. (Printed by wip/gen.) -/
import Derived.Test.YtkffgmpbhahioaaAmRun
import Derived.Test.YtkffgmpbhahioaaRows
import Derived.KernelRfl
namespace Go.Proofs.Ytkffgmpbhahioaa
namespace Am
def bitsTab0 : List UInt8 := [0, 1, 1, 2, 1, 2, 2, 3, 1, 2, 2, 3, 2, 3, 3, 4, 1, 2, 2, 3, 2, 3, 3, 4, 2, 3, 3, 4, 3, 4, 4, 5, 1, 2, 2, 3, 2, 3, 3, 4, 2, 3, 3, 4, 3, 4, 4, 5, 2, 3, 3, 4, 3, 4, 4, 5, 3, 4, 4, 5, 4, 5, 5, 6, 1, 2, 2, 3, 2, 3, 3, 4, 2, 3, 3, 4, 3, 4, 4, 5, 2, 3, 3, 4, 3, 4, 4, 5, 3, 4, 4, 5, 4, 5, 5, 6, 2, 3, 3, 4, 3, 4, 4, 5, 3, 4, 4, 5, 4, 5, 5, 6, 3, 4, 4, 5, 4, 5, 5, 6, 4, 5, 5, 6, 5, 6, 6, 7, 1, 2, 2, 3, 2, 3, 3, 4, 2, 3, 3, 4, 3, 4, 4, 5, 2, 3, 3, 4, 3, 4, 4, 5, 3, 4, 4, 5, 4, 5, 5, 6, 2, 3, 3, 4, 3, 4, 4, 5, 3, 4, 4, 5, 4, 5, 5, 6, 3, 4, 4, 5, 4, 5, 5, 6, 4, 5, 5, 6, 5, 6, 6, 7, 2, 3, 3, 4, 3, 4, 4, 5, 3, 4, 4, 5, 4, 5, 5, 6, 3, 4, 4, 5, 4, 5, 5, 6, 4, 5, 5, 6, 5, 6, 6, 7, 3, 4, 4, 5, 4, 5, 5, 6, 4, 5, 5, 6, 5, 6, 6, 7, 4, 5, 5, 6, 5, 6, 6, 7, 5, 6, 6, 7, 6, 7, 7, 8]
def bitsTab1 : List UInt8 := [0, 1, 2, 2, 3, 3, 3, 3, 4, 4, 4, 4, 4, 4, 4, 4, 5, 5, 5, 5, 5, 5, 5, 5, 5, 5, 5, 5, 5, 5, 5, 5, 6, 6, 6, 6, 6, 6, 6, 6, 6, 6, 6, 6, 6, 6, 6, 6, 6, 6, 6, 6, 6, 6, 6, 6, 6, 6, 6, 6, 6, 6, 6, 6, 7, 7, 7, 7, 7, 7, 7, 7, 7, 7, 7, 7, 7, 7, 7, 7, 7, 7, 7, 7, 7, 7, 7, 7, 7, 7, 7, 7, 7, 7, 7, 7, 7, 7, 7, 7, 7, 7, 7, 7, 7, 7, 7, 7, 7, 7, 7, 7, 7, 7, 7, 7, 7, 7, 7, 7, 7, 7, 7, 7, 7, 7, 7, 7, 8, 8, 8, 8, 8, 8, 8, 8, 8, 8, 8, 8, 8, 8, 8, 8, 8, 8, 8, 8, 8, 8, 8, 8, 8, 8, 8, 8, 8, 8, 8, 8, 8, 8, 8, 8, 8, 8, 8, 8, 8, 8, 8, 8, 8, 8, 8, 8, 8, 8, 8, 8, 8, 8, 8, 8, 8, 8, 8, 8, 8, 8, 8, 8, 8, 8, 8, 8, 8, 8, 8, 8, 8, 8, 8, 8, 8, 8, 8, 8, 8, 8, 8, 8, 8, 8, 8, 8, 8, 8, 8, 8, 8, 8, 8, 8, 8, 8, 8, 8, 8, 8, 8, 8, 8, 8, 8, 8, 8, 8, 8, 8, 8, 8, 8, 8, 8, 8, 8, 8, 8, 8, 8, 8, 8, 8, 8, 8]
noncomputable def TC : Ctx := ⟨Try.prog, fun _ => none⟩

-- 6 speculum/speculumlaw01.BitsTell
@[go_sem] def speculumlaw01_BitsTell_r0 : List AIns := [
  ⟨some 6, none, false, .mv (.v (.bool false))⟩]
@[go_sem] def speculumlaw01_BitsTell_r1 : List AIns := [
  ⟨some 7, none, false, .mv (.v (.int .i64 (-1)))⟩]
@[go_sem] def speculumlaw01_BitsTell_r2 : List AIns := [
  ⟨some 9, none, false, .mv (.t 7)⟩,
  ⟨some 10, none, false, .bin .lss .none (.t 9) (.v (.int .i64 (34)))⟩]
def speculumlaw01_BitsTell_c3 : ACode := .cond (.t 10) .skip (.exit 0)
def speculumlaw01_BitsTell_c4 : ACode := .seq (.reg speculumlaw01_BitsTell_r2) speculumlaw01_BitsTell_c3
@[go_sem] def speculumlaw01_BitsTell_r5 : List AIns := [
  ⟨some 13, none, false, .mv (.t 0)⟩,
  ⟨some 14, none, false, .mv (.t 7)⟩,
  ⟨some 15, none, false, .call (.v (.fn 29 [])) [(.t 13), (.t 14)]⟩,
  ⟨some 16, none, false, .mv (.t 0)⟩,
  ⟨some 17, none, false, .mv (.t 7)⟩,
  ⟨some 18, none, false, .call (.v (.fn 30 [])) [(.t 16), (.t 17)]⟩,
  ⟨some 19, none, false, .bin .neq .none (.t 15) (.t 18)⟩,
  ⟨some 20, none, false, .mv (.t 19)⟩,
  ⟨some 21, some (20, false), false, .mv (.t 1)⟩,
  ⟨some 22, some (20, false), false, .mv (.t 7)⟩,
  ⟨some 23, some (20, false), false, .call (.v (.fn 31 [])) [(.t 21), (.t 22)]⟩,
  ⟨some 24, some (20, false), false, .mv (.t 1)⟩,
  ⟨some 25, some (20, false), false, .mv (.t 7)⟩,
  ⟨some 26, some (20, false), false, .call (.v (.fn 32 [])) [(.t 24), (.t 25)]⟩,
  ⟨some 27, some (20, false), false, .bin .neq .none (.t 23) (.t 26)⟩,
  ⟨some 28, none, false, .pick (.t 20) (.v (.bool true)) (.t 27)⟩,
  ⟨some 29, none, false, .mv (.t 28)⟩,
  ⟨some 30, some (29, false), false, .mv (.t 1)⟩,
  ⟨some 31, some (29, false), false, .mv (.t 7)⟩,
  ⟨some 32, some (29, false), false, .call (.v (.fn 33 [])) [(.t 30), (.t 31)]⟩,
  ⟨some 33, some (29, false), false, .mv (.t 1)⟩,
  ⟨some 34, some (29, false), false, .mv (.t 7)⟩,
  ⟨some 35, some (29, false), false, .call (.v (.fn 34 [])) [(.t 33), (.t 34)]⟩,
  ⟨some 36, some (29, false), false, .bin .neq .none (.t 32) (.t 35)⟩,
  ⟨some 37, none, false, .pick (.t 29) (.v (.bool true)) (.t 36)⟩]
@[go_sem] def speculumlaw01_BitsTell_r6 : List AIns := [
  ⟨some 6, none, false, .mv (.v (.bool false))⟩]
def speculumlaw01_BitsTell_c7 : ACode := .seq (.reg speculumlaw01_BitsTell_r6) .ret
def speculumlaw01_BitsTell_c8 : ACode := .cond (.t 37) speculumlaw01_BitsTell_c7 .skip
def speculumlaw01_BitsTell_c9 : ACode := .seq (.reg speculumlaw01_BitsTell_r5) speculumlaw01_BitsTell_c8
@[go_sem] def speculumlaw01_BitsTell_r10 : List AIns := [
  ⟨some 11, none, false, .mv (.t 7)⟩,
  ⟨some 12, none, false, .bin .add .none (.t 11) (.v (.int .i64 (1)))⟩,
  ⟨some 7, none, false, .mv (.t 12)⟩]
def speculumlaw01_BitsTell_c11 : ACode := .seq (.block 1 speculumlaw01_BitsTell_c9) (.reg speculumlaw01_BitsTell_r10)
def speculumlaw01_BitsTell_c12 : ACode := .seq speculumlaw01_BitsTell_c4 speculumlaw01_BitsTell_c11
def speculumlaw01_BitsTell_c13 : ACode := .loop speculumlaw01_BitsTell_c12
def speculumlaw01_BitsTell_c14 : ACode := .block 0 speculumlaw01_BitsTell_c13
def speculumlaw01_BitsTell_c15 : ACode := .seq (.reg speculumlaw01_BitsTell_r1) speculumlaw01_BitsTell_c14
@[go_sem] def speculumlaw01_BitsTell_r16 : List AIns := [
  ⟨some 38, none, false, .mv (.t 0)⟩,
  ⟨some 39, none, false, .conv (.int .i64) (.t 38)⟩,
  ⟨some 8, none, false, .mv (.t 39)⟩]
@[go_sem] def speculumlaw01_BitsTell_r17 : List AIns := [
  ⟨some 40, none, false, .mv (.t 0)⟩,
  ⟨some 41, none, false, .mv (.t 2)⟩,
  ⟨some 42, none, false, .call (.v (.fn 29 [])) [(.t 40), (.t 41)]⟩,
  ⟨some 43, none, false, .mv (.t 0)⟩,
  ⟨some 44, none, false, .mv (.t 2)⟩,
  ⟨some 45, none, false, .call (.v (.fn 30 [])) [(.t 43), (.t 44)]⟩,
  ⟨some 46, none, false, .bin .eql .none (.t 42) (.t 45)⟩,
  ⟨some 47, none, false, .mv (.t 46)⟩,
  ⟨some 48, some (47, true), false, .mv (.t 1)⟩,
  ⟨some 49, some (47, true), false, .mv (.t 2)⟩,
  ⟨some 50, some (47, true), false, .call (.v (.fn 31 [])) [(.t 48), (.t 49)]⟩,
  ⟨some 51, some (47, true), false, .mv (.t 1)⟩,
  ⟨some 52, some (47, true), false, .mv (.t 2)⟩,
  ⟨some 53, some (47, true), false, .call (.v (.fn 32 [])) [(.t 51), (.t 52)]⟩,
  ⟨some 54, some (47, true), false, .bin .eql .none (.t 50) (.t 53)⟩,
  ⟨some 55, none, false, .pick (.t 47) (.t 54) (.v (.bool false))⟩,
  ⟨some 56, none, false, .mv (.t 55)⟩,
  ⟨some 57, some (56, true), false, .mv (.t 1)⟩,
  ⟨some 58, some (56, true), false, .mv (.t 2)⟩,
  ⟨some 59, some (56, true), false, .call (.v (.fn 33 [])) [(.t 57), (.t 58)]⟩,
  ⟨some 60, some (56, true), false, .mv (.t 1)⟩,
  ⟨some 61, some (56, true), false, .mv (.t 2)⟩,
  ⟨some 62, some (56, true), false, .call (.v (.fn 34 [])) [(.t 60), (.t 61)]⟩,
  ⟨some 63, some (56, true), false, .bin .eql .none (.t 59) (.t 62)⟩,
  ⟨some 64, none, false, .pick (.t 56) (.t 63) (.v (.bool false))⟩,
  ⟨some 65, none, false, .mv (.t 64)⟩,
  ⟨some 66, some (65, true), false, .mv (.t 8)⟩,
  ⟨some 67, some (65, true), false, .call (.v (.fn 35 [])) [(.t 66)]⟩,
  ⟨some 68, some (65, true), false, .mv (.t 8)⟩,
  ⟨some 69, some (65, true), false, .call (.v (.fn 36 [])) [(.t 68)]⟩,
  ⟨some 70, some (65, true), false, .bin .eql .none (.t 67) (.t 69)⟩,
  ⟨some 71, none, false, .pick (.t 65) (.t 70) (.v (.bool false))⟩,
  ⟨some 72, none, false, .mv (.t 71)⟩,
  ⟨some 73, some (72, true), false, .mv (.t 8)⟩,
  ⟨some 74, some (72, true), false, .call (.v (.fn 37 [])) [(.t 73)]⟩,
  ⟨some 75, some (72, true), false, .mv (.t 8)⟩,
  ⟨some 76, some (72, true), false, .call (.v (.fn 38 [])) [(.t 75)]⟩,
  ⟨some 77, some (72, true), false, .bin .eql .none (.t 74) (.t 76)⟩,
  ⟨some 78, none, false, .pick (.t 72) (.t 77) (.v (.bool false))⟩,
  ⟨some 79, none, false, .mv (.t 78)⟩,
  ⟨some 80, some (79, true), false, .mv (.t 2)⟩,
  ⟨some 81, some (79, true), false, .call (.v (.fn 35 [])) [(.t 80)]⟩,
  ⟨some 82, some (79, true), false, .mv (.t 2)⟩,
  ⟨some 83, some (79, true), false, .call (.v (.fn 36 [])) [(.t 82)]⟩,
  ⟨some 84, some (79, true), false, .bin .eql .none (.t 81) (.t 83)⟩,
  ⟨some 85, none, false, .pick (.t 79) (.t 84) (.v (.bool false))⟩,
  ⟨some 86, none, false, .mv (.t 85)⟩,
  ⟨some 87, some (86, true), false, .mv (.t 2)⟩,
  ⟨some 88, some (86, true), false, .call (.v (.fn 37 [])) [(.t 87)]⟩,
  ⟨some 89, some (86, true), false, .mv (.t 2)⟩,
  ⟨some 90, some (86, true), false, .call (.v (.fn 38 [])) [(.t 89)]⟩,
  ⟨some 91, some (86, true), false, .bin .eql .none (.t 88) (.t 90)⟩,
  ⟨some 92, none, false, .pick (.t 86) (.t 91) (.v (.bool false))⟩,
  ⟨some 93, none, false, .mv (.t 92)⟩,
  ⟨some 94, some (93, true), false, .call (.v (.fn 39 [])) []⟩,
  ⟨some 95, none, false, .pick (.t 93) (.t 94) (.v (.bool false))⟩,
  ⟨some 6, none, false, .mv (.t 95)⟩]
def speculumlaw01_BitsTell_c18 : ACode := .seq (.reg speculumlaw01_BitsTell_r17) .ret
def speculumlaw01_BitsTell_c19 : ACode := .seq (.reg speculumlaw01_BitsTell_r16) speculumlaw01_BitsTell_c18
def speculumlaw01_BitsTell_c20 : ACode := .seq speculumlaw01_BitsTell_c15 speculumlaw01_BitsTell_c19
def speculumlaw01_BitsTell_c21 : ACode := .seq (.reg speculumlaw01_BitsTell_r0) speculumlaw01_BitsTell_c20
theorem speculumlaw01_BitsTell_ok : cFn TC 6 = some (96, [6], speculumlaw01_BitsTell_c21) := by kernel_rfl

-- 7 speculum/speculumlaw01.BitsBytes
@[go_sem] def speculumlaw01_BitsBytes_r0 : List AIns := [
  ⟨some 4, none, false, .mv (.v (.bool false))⟩]
@[go_sem] def speculumlaw01_BitsBytes_r1 : List AIns := [
  ⟨some 6, none, false, .mv (.t 0)⟩,
  ⟨some 7, none, false, .lenStr (.t 6)⟩,
  ⟨some 8, none, false, .bin .gtr .none (.t 7) (.v (.int .i64 (200)))⟩]
@[go_sem] def speculumlaw01_BitsBytes_r2 : List AIns := [
  ⟨some 9, none, false, .call (.v (.fn 39 [])) []⟩,
  ⟨some 4, none, false, .mv (.t 9)⟩]
def speculumlaw01_BitsBytes_c3 : ACode := .seq (.reg speculumlaw01_BitsBytes_r2) .ret
def speculumlaw01_BitsBytes_c4 : ACode := .cond (.t 8) speculumlaw01_BitsBytes_c3 .skip
def speculumlaw01_BitsBytes_c5 : ACode := .seq (.reg speculumlaw01_BitsBytes_r1) speculumlaw01_BitsBytes_c4
@[go_sem] def speculumlaw01_BitsBytes_r6 : List AIns := [
  ⟨some 5, none, false, .mv (.v (.int .i64 (-1)))⟩]
@[go_sem] def speculumlaw01_BitsBytes_r7 : List AIns := [
  ⟨some 10, none, false, .mv (.t 5)⟩,
  ⟨some 11, none, false, .mv (.t 0)⟩,
  ⟨some 12, none, false, .lenStr (.t 11)⟩,
  ⟨some 13, none, false, .bin .mul .none (.v (.int .i64 (8))) (.t 12)⟩,
  ⟨some 14, none, false, .bin .add .none (.t 13) (.v (.int .i64 (1)))⟩,
  ⟨some 15, none, false, .bin .leq .none (.t 10) (.t 14)⟩]
def speculumlaw01_BitsBytes_c8 : ACode := .cond (.t 15) .skip (.exit 0)
def speculumlaw01_BitsBytes_c9 : ACode := .seq (.reg speculumlaw01_BitsBytes_r7) speculumlaw01_BitsBytes_c8
@[go_sem] def speculumlaw01_BitsBytes_r10 : List AIns := [
  ⟨some 18, none, false, .mv (.t 0)⟩,
  ⟨some 19, none, false, .mv (.t 5)⟩,
  ⟨some 20, none, false, .call (.v (.fn 40 [])) [(.t 18), (.t 19)]⟩,
  ⟨some 21, none, false, .mv (.t 0)⟩,
  ⟨some 22, none, false, .mv (.t 5)⟩,
  ⟨some 23, none, false, .call (.v (.fn 41 [])) [(.t 21), (.t 22)]⟩,
  ⟨some 24, none, false, .bin .neq .none (.t 20) (.t 23)⟩]
@[go_sem] def speculumlaw01_BitsBytes_r11 : List AIns := [
  ⟨some 4, none, false, .mv (.v (.bool false))⟩]
def speculumlaw01_BitsBytes_c12 : ACode := .seq (.reg speculumlaw01_BitsBytes_r11) .ret
def speculumlaw01_BitsBytes_c13 : ACode := .cond (.t 24) speculumlaw01_BitsBytes_c12 .skip
def speculumlaw01_BitsBytes_c14 : ACode := .seq (.reg speculumlaw01_BitsBytes_r10) speculumlaw01_BitsBytes_c13
@[go_sem] def speculumlaw01_BitsBytes_r15 : List AIns := [
  ⟨some 16, none, false, .mv (.t 5)⟩,
  ⟨some 17, none, false, .bin .add .none (.t 16) (.v (.int .i64 (1)))⟩,
  ⟨some 5, none, false, .mv (.t 17)⟩]
def speculumlaw01_BitsBytes_c16 : ACode := .seq (.block 1 speculumlaw01_BitsBytes_c14) (.reg speculumlaw01_BitsBytes_r15)
def speculumlaw01_BitsBytes_c17 : ACode := .seq speculumlaw01_BitsBytes_c9 speculumlaw01_BitsBytes_c16
def speculumlaw01_BitsBytes_c18 : ACode := .loop speculumlaw01_BitsBytes_c17
def speculumlaw01_BitsBytes_c19 : ACode := .block 0 speculumlaw01_BitsBytes_c18
def speculumlaw01_BitsBytes_c20 : ACode := .seq (.reg speculumlaw01_BitsBytes_r6) speculumlaw01_BitsBytes_c19
@[go_sem] def speculumlaw01_BitsBytes_r21 : List AIns := [
  ⟨some 25, none, false, .mv (.t 0)⟩,
  ⟨some 26, none, false, .call (.v (.fn 42 [])) [(.t 25)]⟩,
  ⟨some 27, none, false, .mv (.t 0)⟩,
  ⟨some 28, none, false, .call (.v (.fn 43 [])) [(.t 27)]⟩,
  ⟨some 29, none, false, .bin .eql .none (.t 26) (.t 28)⟩,
  ⟨some 30, none, false, .mv (.t 29)⟩,
  ⟨some 31, some (30, true), false, .mv (.t 0)⟩,
  ⟨some 32, some (30, true), false, .mv (.t 1)⟩,
  ⟨some 33, some (30, true), false, .call (.v (.fn 40 [])) [(.t 31), (.t 32)]⟩,
  ⟨some 34, some (30, true), false, .mv (.t 0)⟩,
  ⟨some 35, some (30, true), false, .mv (.t 1)⟩,
  ⟨some 36, some (30, true), false, .call (.v (.fn 41 [])) [(.t 34), (.t 35)]⟩,
  ⟨some 37, some (30, true), false, .bin .eql .none (.t 33) (.t 36)⟩,
  ⟨some 38, none, false, .pick (.t 30) (.t 37) (.v (.bool false))⟩,
  ⟨some 39, none, false, .mv (.t 38)⟩,
  ⟨some 40, some (39, true), false, .call (.v (.fn 39 [])) []⟩,
  ⟨some 41, none, false, .pick (.t 39) (.t 40) (.v (.bool false))⟩,
  ⟨some 4, none, false, .mv (.t 41)⟩]
def speculumlaw01_BitsBytes_c22 : ACode := .seq (.reg speculumlaw01_BitsBytes_r21) .ret
def speculumlaw01_BitsBytes_c23 : ACode := .seq speculumlaw01_BitsBytes_c20 speculumlaw01_BitsBytes_c22
def speculumlaw01_BitsBytes_c24 : ACode := .seq speculumlaw01_BitsBytes_c5 speculumlaw01_BitsBytes_c23
def speculumlaw01_BitsBytes_c25 : ACode := .seq (.reg speculumlaw01_BitsBytes_r0) speculumlaw01_BitsBytes_c24
theorem speculumlaw01_BitsBytes_ok : cFn TC 7 = some (42, [4], speculumlaw01_BitsBytes_c25) := by kernel_rfl

-- 8 speculum/speculumlaw01.BitsBack
@[go_sem] def speculumlaw01_BitsBack_r0 : List AIns := [
  ⟨some 5, none, false, .box (.t 2)⟩,
  ⟨some 6, none, false, .mv (.v (.bool false))⟩]
@[go_sem] def speculumlaw01_BitsBack_r1 : List AIns := [
  ⟨some 9, none, false, .iaArr 2 1 (.t 5) (.v (.int .i64 (0)))⟩,
  ⟨some 10, none, true, .load false 1 (.t 9)⟩,
  ⟨some 11, none, true, .conv (.int .i64) (.t 10)⟩,
  ⟨some 12, none, false, .iaArr 2 1 (.t 5) (.v (.int .i64 (1)))⟩,
  ⟨some 13, none, true, .load false 1 (.t 12)⟩,
  ⟨some 14, none, true, .conv (.int .i64) (.t 13)⟩,
  ⟨some 15, none, false, .un .neg (.t 14)⟩,
  ⟨some 7, none, false, .mv (.t 11)⟩,
  ⟨some 8, none, false, .mv (.t 15)⟩]
@[go_sem] def speculumlaw01_BitsBack_r2 : List AIns := [
  ⟨some 16, none, false, .mv (.t 0)⟩,
  ⟨some 17, none, false, .call (.v (.fn 29 [])) [(.t 16), (.v (.int .i64 (8)))]⟩,
  ⟨some 18, none, false, .call (.v (.fn 42 [])) [(.t 17)]⟩,
  ⟨some 19, none, false, .mv (.t 0)⟩,
  ⟨some 20, none, false, .bin .neq .none (.t 18) (.t 19)⟩,
  ⟨some 21, none, false, .mv (.t 20)⟩,
  ⟨some 22, some (21, false), false, .mv (.t 1)⟩,
  ⟨some 23, some (21, false), false, .mv (.t 7)⟩,
  ⟨some 24, some (21, false), false, .call (.v (.fn 31 [])) [(.t 22), (.t 23)]⟩,
  ⟨some 25, some (21, false), false, .mv (.t 7)⟩,
  ⟨some 26, some (21, false), false, .call (.v (.fn 33 [])) [(.t 24), (.t 25)]⟩,
  ⟨some 27, some (21, false), false, .mv (.t 1)⟩,
  ⟨some 28, some (21, false), false, .bin .neq .none (.t 26) (.t 27)⟩,
  ⟨some 29, none, false, .pick (.t 21) (.v (.bool true)) (.t 28)⟩,
  ⟨some 30, none, false, .mv (.t 29)⟩,
  ⟨some 31, some (30, false), false, .mv (.t 1)⟩,
  ⟨some 32, some (30, false), false, .mv (.t 7)⟩,
  ⟨some 33, some (30, false), false, .call (.v (.fn 31 [])) [(.t 31), (.t 32)]⟩,
  ⟨some 34, some (30, false), false, .mv (.t 8)⟩,
  ⟨some 35, some (30, false), false, .call (.v (.fn 31 [])) [(.t 33), (.t 34)]⟩,
  ⟨some 36, some (30, false), false, .mv (.t 1)⟩,
  ⟨some 37, some (30, false), false, .mv (.t 7)⟩,
  ⟨some 38, some (30, false), false, .mv (.t 8)⟩,
  ⟨some 39, some (30, false), false, .bin .add .none (.t 37) (.t 38)⟩,
  ⟨some 40, some (30, false), false, .call (.v (.fn 31 [])) [(.t 36), (.t 39)]⟩,
  ⟨some 41, some (30, false), false, .bin .neq .none (.t 35) (.t 40)⟩,
  ⟨some 42, none, false, .pick (.t 30) (.v (.bool true)) (.t 41)⟩,
  ⟨some 43, none, false, .mv (.t 42)⟩,
  ⟨some 44, some (43, false), false, .mv (.t 1)⟩,
  ⟨some 45, some (43, false), false, .mv (.t 7)⟩,
  ⟨some 46, some (43, false), false, .call (.v (.fn 33 [])) [(.t 44), (.t 45)]⟩,
  ⟨some 47, some (43, false), false, .mv (.t 1)⟩,
  ⟨some 48, some (43, false), false, .mv (.t 7)⟩,
  ⟨some 49, some (43, false), false, .un .neg (.t 48)⟩,
  ⟨some 50, some (43, false), false, .call (.v (.fn 31 [])) [(.t 47), (.t 49)]⟩,
  ⟨some 51, some (43, false), false, .bin .neq .none (.t 46) (.t 50)⟩,
  ⟨some 52, none, false, .pick (.t 43) (.v (.bool true)) (.t 51)⟩]
@[go_sem] def speculumlaw01_BitsBack_r3 : List AIns := [
  ⟨some 6, none, false, .mv (.v (.bool false))⟩]
def speculumlaw01_BitsBack_c4 : ACode := .seq (.reg speculumlaw01_BitsBack_r3) .ret
def speculumlaw01_BitsBack_c5 : ACode := .cond (.t 52) speculumlaw01_BitsBack_c4 .skip
def speculumlaw01_BitsBack_c6 : ACode := .seq (.reg speculumlaw01_BitsBack_r2) speculumlaw01_BitsBack_c5
@[go_sem] def speculumlaw01_BitsBack_r7 : List AIns := [
  ⟨some 53, none, false, .mv (.t 1)⟩,
  ⟨some 54, none, false, .mv (.t 7)⟩,
  ⟨some 55, none, false, .call (.v (.fn 31 [])) [(.t 53), (.t 54)]⟩,
  ⟨some 56, none, false, .conv (.int .i64) (.t 55)⟩,
  ⟨some 57, none, false, .call (.v (.fn 35 [])) [(.t 56)]⟩,
  ⟨some 58, none, false, .mv (.t 1)⟩,
  ⟨some 59, none, false, .conv (.int .i64) (.t 58)⟩,
  ⟨some 60, none, false, .call (.v (.fn 35 [])) [(.t 59)]⟩,
  ⟨some 61, none, false, .bin .eql .none (.t 57) (.t 60)⟩,
  ⟨some 62, none, false, .mv (.t 61)⟩,
  ⟨some 63, some (62, true), false, .mv (.t 1)⟩,
  ⟨some 64, some (62, true), false, .call (.v (.fn 31 [])) [(.t 63), (.v (.int .i64 (32)))]⟩,
  ⟨some 65, some (62, true), false, .mv (.t 1)⟩,
  ⟨some 66, some (62, true), false, .bin .eql .none (.t 64) (.t 65)⟩,
  ⟨some 67, none, false, .pick (.t 62) (.t 66) (.v (.bool false))⟩,
  ⟨some 68, none, false, .mv (.t 67)⟩,
  ⟨some 69, some (68, true), false, .call (.v (.fn 39 [])) []⟩,
  ⟨some 70, none, false, .pick (.t 68) (.t 69) (.v (.bool false))⟩,
  ⟨some 6, none, false, .mv (.t 70)⟩]
def speculumlaw01_BitsBack_c8 : ACode := .seq (.reg speculumlaw01_BitsBack_r7) .ret
def speculumlaw01_BitsBack_c9 : ACode := .seq speculumlaw01_BitsBack_c6 speculumlaw01_BitsBack_c8
def speculumlaw01_BitsBack_c10 : ACode := .seq (.reg speculumlaw01_BitsBack_r1) speculumlaw01_BitsBack_c9
def speculumlaw01_BitsBack_c11 : ACode := .seq (.reg speculumlaw01_BitsBack_r0) speculumlaw01_BitsBack_c10
theorem speculumlaw01_BitsBack_ok : cFn TC 8 = some (71, [6], speculumlaw01_BitsBack_c11) := by kernel_rfl

-- 9 speculum/speculumlaw01.BitsLog
@[go_sem] def speculumlaw01_BitsLog_r0 : List AIns := [
  ⟨some 2, none, false, .mv (.v (.bool false))⟩]
@[go_sem] def speculumlaw01_BitsLog_r1 : List AIns := [
  ⟨some 9, none, false, .mv (.t 0)⟩,
  ⟨some 10, none, false, .conv (.int .i64) (.t 9)⟩,
  ⟨some 3, none, false, .mv (.t 10)⟩]
@[go_sem] def speculumlaw01_BitsLog_r2 : List AIns := [
  ⟨some 11, none, false, .mv (.t 3)⟩,
  ⟨some 12, none, false, .call (.v (.fn 37 [])) [(.t 11)]⟩,
  ⟨some 4, none, false, .mv (.t 12)⟩]
@[go_sem] def speculumlaw01_BitsLog_r3 : List AIns := [
  ⟨some 13, none, false, .mv (.t 3)⟩,
  ⟨some 14, none, false, .bin .eql .none (.t 13) (.v (.int .i64 (0)))⟩]
@[go_sem] def speculumlaw01_BitsLog_r4 : List AIns := [
  ⟨some 15, none, false, .mv (.t 4)⟩,
  ⟨some 16, none, false, .bin .eql .none (.t 15) (.v (.int .i64 (-1)))⟩,
  ⟨some 17, none, false, .mv (.t 16)⟩,
  ⟨some 18, some (17, true), false, .mv (.t 3)⟩,
  ⟨some 19, some (17, true), false, .call (.v (.fn 35 [])) [(.t 18)]⟩,
  ⟨some 20, some (17, true), false, .bin .eql .none (.t 19) (.v (.int .i64 (0)))⟩,
  ⟨some 21, none, false, .pick (.t 17) (.t 20) (.v (.bool false))⟩,
  ⟨some 22, none, false, .mv (.t 21)⟩,
  ⟨some 23, some (22, true), false, .call (.v (.fn 39 [])) []⟩,
  ⟨some 24, none, false, .pick (.t 22) (.t 23) (.v (.bool false))⟩,
  ⟨some 2, none, false, .mv (.t 24)⟩]
def speculumlaw01_BitsLog_c5 : ACode := .seq (.reg speculumlaw01_BitsLog_r4) .ret
def speculumlaw01_BitsLog_c6 : ACode := .cond (.t 14) speculumlaw01_BitsLog_c5 .skip
def speculumlaw01_BitsLog_c7 : ACode := .seq (.reg speculumlaw01_BitsLog_r3) speculumlaw01_BitsLog_c6
@[go_sem] def speculumlaw01_BitsLog_r8 : List AIns := [
  ⟨some 25, none, false, .mv (.t 4)⟩,
  ⟨some 26, none, false, .bin .lss .none (.t 25) (.v (.int .i64 (0)))⟩,
  ⟨some 27, none, false, .mv (.t 26)⟩,
  ⟨some 28, some (27, false), false, .mv (.t 4)⟩,
  ⟨some 29, some (27, false), false, .bin .gtr .none (.t 28) (.v (.int .i64 (31)))⟩,
  ⟨some 30, none, false, .pick (.t 27) (.v (.bool true)) (.t 29)⟩,
  ⟨some 31, none, false, .mv (.t 30)⟩,
  ⟨some 32, some (31, false), false, .mv (.t 4)⟩,
  ⟨some 33, some (31, false), false, .bin .shl .none (.v (.int .i64 (1))) (.t 32)⟩,
  ⟨some 34, some (31, false), false, .mv (.t 3)⟩,
  ⟨some 35, some (31, false), false, .bin .gtr .none (.t 33) (.t 34)⟩,
  ⟨some 36, none, false, .pick (.t 31) (.v (.bool true)) (.t 35)⟩,
  ⟨some 37, none, false, .mv (.t 36)⟩,
  ⟨some 38, some (37, false), false, .mv (.t 4)⟩,
  ⟨some 39, some (37, false), false, .bin .shl .none (.v (.int .i64 (1))) (.t 38)⟩,
  ⟨some 40, some (37, false), false, .mv (.t 3)⟩,
  ⟨some 41, some (37, false), false, .bin .quo .none (.t 40) (.v (.int .i64 (2)))⟩,
  ⟨some 42, some (37, false), false, .bin .leq .none (.t 39) (.t 41)⟩,
  ⟨some 43, none, false, .pick (.t 37) (.v (.bool true)) (.t 42)⟩,
  ⟨some 44, none, false, .mv (.t 43)⟩,
  ⟨some 45, some (44, false), false, .mv (.t 4)⟩,
  ⟨some 46, some (44, false), false, .bin .shl .none (.v (.int .i64 (1))) (.t 45)⟩,
  ⟨some 47, some (44, false), false, .call (.v (.fn 35 [])) [(.t 46)]⟩,
  ⟨some 48, some (44, false), false, .bin .neq .none (.t 47) (.v (.int .i64 (1)))⟩,
  ⟨some 49, none, false, .pick (.t 44) (.v (.bool true)) (.t 48)⟩]
@[go_sem] def speculumlaw01_BitsLog_r9 : List AIns := [
  ⟨some 2, none, false, .mv (.v (.bool false))⟩]
def speculumlaw01_BitsLog_c10 : ACode := .seq (.reg speculumlaw01_BitsLog_r9) .ret
def speculumlaw01_BitsLog_c11 : ACode := .cond (.t 49) speculumlaw01_BitsLog_c10 .skip
def speculumlaw01_BitsLog_c12 : ACode := .seq (.reg speculumlaw01_BitsLog_r8) speculumlaw01_BitsLog_c11
@[go_sem] def speculumlaw01_BitsLog_r13 : List AIns := [
  ⟨some 50, none, false, .mv (.t 0)⟩,
  ⟨some 51, none, false, .conv (.int .u64) (.t 50)⟩,
  ⟨some 52, none, false, .call (.v (.fn 29 [])) [(.t 51), (.v (.int .i64 (4)))]⟩,
  ⟨some 5, none, false, .mv (.t 52)⟩]
@[go_sem] def speculumlaw01_BitsLog_r14 : List AIns := [
  ⟨some 6, none, false, .mv (.v (.int .i64 (0)))⟩]
@[go_sem] def speculumlaw01_BitsLog_r15 : List AIns := [
  ⟨some 7, none, false, .mv (.v (.int .i64 (0)))⟩]
@[go_sem] def speculumlaw01_BitsLog_r16 : List AIns := [
  ⟨some 53, none, false, .mv (.t 7)⟩,
  ⟨some 54, none, false, .bin .lss .none (.t 53) (.v (.int .i64 (32)))⟩]
def speculumlaw01_BitsLog_c17 : ACode := .cond (.t 54) .skip (.exit 0)
def speculumlaw01_BitsLog_c18 : ACode := .seq (.reg speculumlaw01_BitsLog_r16) speculumlaw01_BitsLog_c17
@[go_sem] def speculumlaw01_BitsLog_r19 : List AIns := [
  ⟨some 57, none, false, .mv (.t 5)⟩,
  ⟨some 58, none, false, .mv (.t 7)⟩,
  ⟨some 59, none, false, .call (.v (.fn 40 [])) [(.t 57), (.t 58)]⟩,
  ⟨some 8, none, false, .mv (.t 59)⟩]
@[go_sem] def speculumlaw01_BitsLog_r20 : List AIns := [
  ⟨some 60, none, false, .mv (.t 6)⟩,
  ⟨some 61, none, false, .mv (.t 8)⟩,
  ⟨some 62, none, false, .bin .add .none (.t 60) (.t 61)⟩,
  ⟨some 6, none, false, .mv (.t 62)⟩]
@[go_sem] def speculumlaw01_BitsLog_r21 : List AIns := [
  ⟨some 63, none, false, .mv (.t 7)⟩,
  ⟨some 64, none, false, .mv (.t 4)⟩,
  ⟨some 65, none, false, .bin .sub .none (.v (.int .i64 (31))) (.t 64)⟩,
  ⟨some 66, none, false, .bin .lss .none (.t 63) (.t 65)⟩,
  ⟨some 67, none, false, .mv (.t 66)⟩,
  ⟨some 68, some (67, true), false, .mv (.t 8)⟩,
  ⟨some 69, some (67, true), false, .bin .neq .none (.t 68) (.v (.int .i64 (0)))⟩,
  ⟨some 70, none, false, .pick (.t 67) (.t 69) (.v (.bool false))⟩,
  ⟨some 71, none, false, .mv (.t 70)⟩,
  ⟨some 72, some (71, false), false, .mv (.t 7)⟩,
  ⟨some 73, some (71, false), false, .mv (.t 4)⟩,
  ⟨some 74, some (71, false), false, .bin .sub .none (.v (.int .i64 (31))) (.t 73)⟩,
  ⟨some 75, some (71, false), false, .bin .eql .none (.t 72) (.t 74)⟩,
  ⟨some 76, some (71, false), false, .mv (.t 75)⟩,
  ⟨some 77, some (76, true), false, .mv (.t 8)⟩,
  ⟨some 78, some (76, true), false, .bin .neq .none (.t 77) (.v (.int .i64 (1)))⟩,
  ⟨some 79, some (71, false), false, .pick (.t 76) (.t 78) (.v (.bool false))⟩,
  ⟨some 80, none, false, .pick (.t 71) (.v (.bool true)) (.t 79)⟩]
@[go_sem] def speculumlaw01_BitsLog_r22 : List AIns := [
  ⟨some 2, none, false, .mv (.v (.bool false))⟩]
def speculumlaw01_BitsLog_c23 : ACode := .seq (.reg speculumlaw01_BitsLog_r22) .ret
def speculumlaw01_BitsLog_c24 : ACode := .cond (.t 80) speculumlaw01_BitsLog_c23 .skip
def speculumlaw01_BitsLog_c25 : ACode := .seq (.reg speculumlaw01_BitsLog_r21) speculumlaw01_BitsLog_c24
def speculumlaw01_BitsLog_c26 : ACode := .seq (.reg speculumlaw01_BitsLog_r20) speculumlaw01_BitsLog_c25
def speculumlaw01_BitsLog_c27 : ACode := .seq (.reg speculumlaw01_BitsLog_r19) speculumlaw01_BitsLog_c26
@[go_sem] def speculumlaw01_BitsLog_r28 : List AIns := [
  ⟨some 55, none, false, .mv (.t 7)⟩,
  ⟨some 56, none, false, .bin .add .none (.t 55) (.v (.int .i64 (1)))⟩,
  ⟨some 7, none, false, .mv (.t 56)⟩]
def speculumlaw01_BitsLog_c29 : ACode := .seq (.block 1 speculumlaw01_BitsLog_c27) (.reg speculumlaw01_BitsLog_r28)
def speculumlaw01_BitsLog_c30 : ACode := .seq speculumlaw01_BitsLog_c18 speculumlaw01_BitsLog_c29
def speculumlaw01_BitsLog_c31 : ACode := .loop speculumlaw01_BitsLog_c30
def speculumlaw01_BitsLog_c32 : ACode := .block 0 speculumlaw01_BitsLog_c31
def speculumlaw01_BitsLog_c33 : ACode := .seq (.reg speculumlaw01_BitsLog_r15) speculumlaw01_BitsLog_c32
@[go_sem] def speculumlaw01_BitsLog_r34 : List AIns := [
  ⟨some 81, none, false, .mv (.t 6)⟩,
  ⟨some 82, none, false, .mv (.t 3)⟩,
  ⟨some 83, none, false, .call (.v (.fn 35 [])) [(.t 82)]⟩,
  ⟨some 84, none, false, .bin .eql .none (.t 81) (.t 83)⟩,
  ⟨some 85, none, false, .mv (.t 84)⟩,
  ⟨some 86, some (85, true), false, .call (.v (.fn 39 [])) []⟩,
  ⟨some 87, none, false, .pick (.t 85) (.t 86) (.v (.bool false))⟩,
  ⟨some 2, none, false, .mv (.t 87)⟩]
def speculumlaw01_BitsLog_c35 : ACode := .seq (.reg speculumlaw01_BitsLog_r34) .ret
def speculumlaw01_BitsLog_c36 : ACode := .seq speculumlaw01_BitsLog_c33 speculumlaw01_BitsLog_c35
def speculumlaw01_BitsLog_c37 : ACode := .seq (.reg speculumlaw01_BitsLog_r14) speculumlaw01_BitsLog_c36
def speculumlaw01_BitsLog_c38 : ACode := .seq (.reg speculumlaw01_BitsLog_r13) speculumlaw01_BitsLog_c37
def speculumlaw01_BitsLog_c39 : ACode := .seq speculumlaw01_BitsLog_c12 speculumlaw01_BitsLog_c38
def speculumlaw01_BitsLog_c40 : ACode := .seq speculumlaw01_BitsLog_c7 speculumlaw01_BitsLog_c39
def speculumlaw01_BitsLog_c41 : ACode := .seq (.reg speculumlaw01_BitsLog_r2) speculumlaw01_BitsLog_c40
def speculumlaw01_BitsLog_c42 : ACode := .seq (.reg speculumlaw01_BitsLog_r1) speculumlaw01_BitsLog_c41
def speculumlaw01_BitsLog_c43 : ACode := .seq (.reg speculumlaw01_BitsLog_r0) speculumlaw01_BitsLog_c42
theorem speculumlaw01_BitsLog_ok : cFn TC 9 = some (88, [2], speculumlaw01_BitsLog_c43) := by kernel_rfl

-- 29 speculum/bits.Put
@[go_sem] def bits_Put_r0 : List AIns := [
  ⟨some 4, none, false, .mv (.v (.str []))⟩]
@[go_sem] def bits_Put_r1 : List AIns := [
  ⟨some 7, none, false, .mv (.t 1)⟩,
  ⟨some 8, none, false, .bin .lss .none (.t 7) (.v (.int .i64 (1)))⟩,
  ⟨some 9, none, false, .mv (.t 8)⟩,
  ⟨some 10, some (9, false), false, .mv (.t 1)⟩,
  ⟨some 11, some (9, false), false, .bin .gtr .none (.t 10) (.v (.int .i64 (8)))⟩,
  ⟨some 12, none, false, .pick (.t 9) (.v (.bool true)) (.t 11)⟩]
@[go_sem] def bits_Put_r2 : List AIns := [
  ⟨some 4, none, false, .mv (.v (.str []))⟩]
def bits_Put_c3 : ACode := .seq (.reg bits_Put_r2) .ret
def bits_Put_c4 : ACode := .cond (.t 12) bits_Put_c3 .skip
def bits_Put_c5 : ACode := .seq (.reg bits_Put_r1) bits_Put_c4
@[go_sem] def bits_Put_r6 : List AIns := [
  ⟨some 13, none, false, .mv (.t 1)⟩,
  ⟨some 14, none, false, .make 1 [(.int .u8 (0))] (.t 13) (.t 13)⟩,
  ⟨some 5, none, false, .mv (.t 14)⟩]
@[go_sem] def bits_Put_r7 : List AIns := [
  ⟨some 15, none, false, .mv (.t 1)⟩,
  ⟨some 16, none, false, .mv (.v (.int .i64 (0)))⟩]
@[go_sem] def bits_Put_r8 : List AIns := [
  ⟨some 17, none, false, .bin .lss .none (.t 16) (.t 15)⟩]
@[go_sem] def bits_Put_r9 : List AIns := [
  ⟨some 18, none, false, .mv (.t 16)⟩,
  ⟨some 6, none, false, .mv (.t 18)⟩]
@[go_sem] def bits_Put_r10 : List AIns := [
  ⟨some 19, none, false, .mv (.t 5)⟩,
  ⟨some 20, none, false, .mv (.t 1)⟩,
  ⟨some 21, none, false, .bin .sub .none (.t 20) (.v (.int .i64 (1)))⟩,
  ⟨some 22, none, false, .mv (.t 6)⟩,
  ⟨some 23, none, false, .bin .sub .none (.t 21) (.t 22)⟩,
  ⟨some 24, none, false, .mv (.t 0)⟩,
  ⟨some 25, none, false, .conv (.int .u8) (.t 24)⟩,
  ⟨some 26, none, false, .iaSl 1 (.t 19) (.t 23)⟩,
  ⟨none, none, false, .store 1 (.t 26) (.t 25)⟩]
@[go_sem] def bits_Put_r11 : List AIns := [
  ⟨some 27, none, false, .mv (.t 0)⟩,
  ⟨some 28, none, false, .bin .shr .none (.t 27) (.v (.int .u64 (8)))⟩,
  ⟨some 0, none, false, .mv (.t 28)⟩]
def bits_Put_c12 : ACode := .seq (.reg bits_Put_r10) (.reg bits_Put_r11)
def bits_Put_c13 : ACode := .seq (.reg bits_Put_r9) bits_Put_c12
@[go_sem] def bits_Put_r14 : List AIns := [
  ⟨some 29, none, false, .bin .add .none (.t 16) (.v (.int .i64 (1)))⟩,
  ⟨some 16, none, false, .mv (.t 29)⟩]
def bits_Put_c15 : ACode := .seq (.block 1 bits_Put_c13) (.reg bits_Put_r14)
def bits_Put_c16 : ACode := .seq (.cond (.t 17) .skip (.exit 0)) bits_Put_c15
def bits_Put_c17 : ACode := .seq (.reg bits_Put_r8) bits_Put_c16
def bits_Put_c18 : ACode := .loop bits_Put_c17
def bits_Put_c19 : ACode := .block 0 bits_Put_c18
def bits_Put_c20 : ACode := .seq (.reg bits_Put_r7) bits_Put_c19
@[go_sem] def bits_Put_r21 : List AIns := [
  ⟨some 30, none, false, .mv (.t 5)⟩,
  ⟨some 31, none, false, .conv .str (.t 30)⟩,
  ⟨some 4, none, false, .mv (.t 31)⟩]
def bits_Put_c22 : ACode := .seq (.reg bits_Put_r21) .ret
def bits_Put_c23 : ACode := .seq bits_Put_c20 bits_Put_c22
def bits_Put_c24 : ACode := .seq (.reg bits_Put_r6) bits_Put_c23
def bits_Put_c25 : ACode := .seq bits_Put_c5 bits_Put_c24
def bits_Put_c26 : ACode := .seq (.reg bits_Put_r0) bits_Put_c25
theorem bits_Put_ok : cFn TC 29 = some (32, [4], bits_Put_c26) := by kernel_rfl

-- 30 speculum/speculumref01.Put
@[go_sem] def speculumref01_Put_r0 : List AIns := [
  ⟨some 4, none, false, .mv (.v (.str []))⟩]
@[go_sem] def speculumref01_Put_r1 : List AIns := [
  ⟨some 5, none, false, .mv (.v (.str []))⟩]
@[go_sem] def speculumref01_Put_r2 : List AIns := [
  ⟨some 6, none, false, .mv (.v (.int .i64 (0)))⟩]
@[go_sem] def speculumref01_Put_r3 : List AIns := [
  ⟨some 7, none, false, .mv (.t 6)⟩,
  ⟨some 8, none, false, .mv (.t 1)⟩,
  ⟨some 9, none, false, .bin .lss .none (.t 7) (.t 8)⟩,
  ⟨some 10, none, false, .mv (.t 9)⟩,
  ⟨some 11, some (10, true), false, .mv (.t 1)⟩,
  ⟨some 12, some (10, true), false, .bin .lss .none (.t 11) (.v (.int .i64 (9)))⟩,
  ⟨some 13, none, false, .pick (.t 10) (.t 12) (.v (.bool false))⟩]
def speculumref01_Put_c4 : ACode := .cond (.t 13) .skip (.exit 0)
def speculumref01_Put_c5 : ACode := .seq (.reg speculumref01_Put_r3) speculumref01_Put_c4
@[go_sem] def speculumref01_Put_r6 : List AIns := [
  ⟨some 16, none, false, .mv (.t 0)⟩,
  ⟨some 17, none, false, .bin .rem .none (.t 16) (.v (.int .u64 (256)))⟩,
  ⟨some 18, none, false, .conv (.int .u8) (.t 17)⟩,
  ⟨some 19, none, false, .lit 1 [(.t 18)]⟩,
  ⟨some 20, none, false, .conv .str (.t 19)⟩,
  ⟨some 21, none, false, .mv (.t 5)⟩,
  ⟨some 22, none, false, .bin .add .none (.t 20) (.t 21)⟩,
  ⟨some 5, none, false, .mv (.t 22)⟩]
@[go_sem] def speculumref01_Put_r7 : List AIns := [
  ⟨some 23, none, false, .mv (.t 0)⟩,
  ⟨some 24, none, false, .bin .quo .none (.t 23) (.v (.int .u64 (256)))⟩,
  ⟨some 0, none, false, .mv (.t 24)⟩]
def speculumref01_Put_c8 : ACode := .seq (.reg speculumref01_Put_r6) (.reg speculumref01_Put_r7)
@[go_sem] def speculumref01_Put_r9 : List AIns := [
  ⟨some 14, none, false, .mv (.t 6)⟩,
  ⟨some 15, none, false, .bin .add .none (.t 14) (.v (.int .i64 (1)))⟩,
  ⟨some 6, none, false, .mv (.t 15)⟩]
def speculumref01_Put_c10 : ACode := .seq (.block 1 speculumref01_Put_c8) (.reg speculumref01_Put_r9)
def speculumref01_Put_c11 : ACode := .seq speculumref01_Put_c5 speculumref01_Put_c10
def speculumref01_Put_c12 : ACode := .loop speculumref01_Put_c11
def speculumref01_Put_c13 : ACode := .block 0 speculumref01_Put_c12
def speculumref01_Put_c14 : ACode := .seq (.reg speculumref01_Put_r2) speculumref01_Put_c13
@[go_sem] def speculumref01_Put_r15 : List AIns := [
  ⟨some 25, none, false, .mv (.t 5)⟩,
  ⟨some 4, none, false, .mv (.t 25)⟩]
def speculumref01_Put_c16 : ACode := .seq (.reg speculumref01_Put_r15) .ret
def speculumref01_Put_c17 : ACode := .seq speculumref01_Put_c14 speculumref01_Put_c16
def speculumref01_Put_c18 : ACode := .seq (.reg speculumref01_Put_r1) speculumref01_Put_c17
def speculumref01_Put_c19 : ACode := .seq (.reg speculumref01_Put_r0) speculumref01_Put_c18
theorem speculumref01_Put_ok : cFn TC 30 = some (26, [4], speculumref01_Put_c19) := by kernel_rfl

-- 31 speculum/bits.Left
@[go_sem] def bits_Left_r0 : List AIns := [
  ⟨some 4, none, false, .mv (.v (.int .u32 (0)))⟩]
@[go_sem] def bits_Left_r1 : List AIns := [
  ⟨some 5, none, false, .mv (.t 0)⟩,
  ⟨some 6, none, false, .mv (.t 1)⟩,
  ⟨some 7, none, false, .bin .rem .none (.t 6) (.v (.int .i64 (32)))⟩,
  ⟨some 8, none, false, .call (.v (.fn 48 [])) [(.t 5), (.t 7)]⟩,
  ⟨some 4, none, false, .mv (.t 8)⟩]
def bits_Left_c2 : ACode := .seq (.reg bits_Left_r1) .ret
def bits_Left_c3 : ACode := .seq (.reg bits_Left_r0) bits_Left_c2
theorem bits_Left_ok : cFn TC 31 = some (9, [4], bits_Left_c3) := by kernel_rfl

-- 32 speculum/speculumref01.Left
@[go_sem] def speculumref01_Left_r0 : List AIns := [
  ⟨some 4, none, false, .mv (.v (.int .u32 (0)))⟩]
@[go_sem] def speculumref01_Left_r1 : List AIns := [
  ⟨some 6, none, false, .mv (.t 1)⟩,
  ⟨some 7, none, false, .bin .rem .none (.t 6) (.v (.int .i64 (32)))⟩,
  ⟨some 1, none, false, .mv (.t 7)⟩]
@[go_sem] def speculumref01_Left_r2 : List AIns := [
  ⟨some 8, none, false, .mv (.t 1)⟩,
  ⟨some 9, none, false, .bin .lss .none (.t 8) (.v (.int .i64 (0)))⟩]
@[go_sem] def speculumref01_Left_r3 : List AIns := [
  ⟨some 10, none, false, .mv (.t 1)⟩,
  ⟨some 11, none, false, .bin .add .none (.t 10) (.v (.int .i64 (32)))⟩,
  ⟨some 1, none, false, .mv (.t 11)⟩]
def speculumref01_Left_c4 : ACode := .cond (.t 9) (.reg speculumref01_Left_r3) .skip
def speculumref01_Left_c5 : ACode := .seq (.reg speculumref01_Left_r2) speculumref01_Left_c4
@[go_sem] def speculumref01_Left_r6 : List AIns := [
  ⟨some 5, none, false, .mv (.v (.int .i64 (0)))⟩]
@[go_sem] def speculumref01_Left_r7 : List AIns := [
  ⟨some 12, none, false, .mv (.t 5)⟩,
  ⟨some 13, none, false, .mv (.t 1)⟩,
  ⟨some 14, none, false, .bin .lss .none (.t 12) (.t 13)⟩]
def speculumref01_Left_c8 : ACode := .cond (.t 14) .skip (.exit 0)
def speculumref01_Left_c9 : ACode := .seq (.reg speculumref01_Left_r7) speculumref01_Left_c8
@[go_sem] def speculumref01_Left_r10 : List AIns := [
  ⟨some 17, none, false, .mv (.t 0)⟩,
  ⟨some 18, none, false, .bin .mul .none (.t 17) (.v (.int .u32 (2)))⟩,
  ⟨some 19, none, false, .mv (.t 0)⟩,
  ⟨some 20, none, false, .bin .quo .none (.t 19) (.v (.int .u32 (2147483648)))⟩,
  ⟨some 21, none, false, .bin .add .none (.t 18) (.t 20)⟩,
  ⟨some 0, none, false, .mv (.t 21)⟩]
@[go_sem] def speculumref01_Left_r11 : List AIns := [
  ⟨some 15, none, false, .mv (.t 5)⟩,
  ⟨some 16, none, false, .bin .add .none (.t 15) (.v (.int .i64 (1)))⟩,
  ⟨some 5, none, false, .mv (.t 16)⟩]
def speculumref01_Left_c12 : ACode := .seq (.block 1 (.reg speculumref01_Left_r10)) (.reg speculumref01_Left_r11)
def speculumref01_Left_c13 : ACode := .seq speculumref01_Left_c9 speculumref01_Left_c12
def speculumref01_Left_c14 : ACode := .loop speculumref01_Left_c13
def speculumref01_Left_c15 : ACode := .block 0 speculumref01_Left_c14
def speculumref01_Left_c16 : ACode := .seq (.reg speculumref01_Left_r6) speculumref01_Left_c15
@[go_sem] def speculumref01_Left_r17 : List AIns := [
  ⟨some 22, none, false, .mv (.t 0)⟩,
  ⟨some 4, none, false, .mv (.t 22)⟩]
def speculumref01_Left_c18 : ACode := .seq (.reg speculumref01_Left_r17) .ret
def speculumref01_Left_c19 : ACode := .seq speculumref01_Left_c16 speculumref01_Left_c18
def speculumref01_Left_c20 : ACode := .seq speculumref01_Left_c5 speculumref01_Left_c19
def speculumref01_Left_c21 : ACode := .seq (.reg speculumref01_Left_r1) speculumref01_Left_c20
def speculumref01_Left_c22 : ACode := .seq (.reg speculumref01_Left_r0) speculumref01_Left_c21
theorem speculumref01_Left_ok : cFn TC 32 = some (23, [4], speculumref01_Left_c22) := by kernel_rfl

-- 33 speculum/bits.Right
@[go_sem] def bits_Right_r0 : List AIns := [
  ⟨some 4, none, false, .mv (.v (.int .u32 (0)))⟩]
@[go_sem] def bits_Right_r1 : List AIns := [
  ⟨some 5, none, false, .mv (.t 0)⟩,
  ⟨some 6, none, false, .mv (.t 1)⟩,
  ⟨some 7, none, false, .bin .rem .none (.t 6) (.v (.int .i64 (32)))⟩,
  ⟨some 8, none, false, .un .neg (.t 7)⟩,
  ⟨some 9, none, false, .call (.v (.fn 48 [])) [(.t 5), (.t 8)]⟩,
  ⟨some 4, none, false, .mv (.t 9)⟩]
def bits_Right_c2 : ACode := .seq (.reg bits_Right_r1) .ret
def bits_Right_c3 : ACode := .seq (.reg bits_Right_r0) bits_Right_c2
theorem bits_Right_ok : cFn TC 33 = some (10, [4], bits_Right_c3) := by kernel_rfl

-- 34 speculum/speculumref01.Right
@[go_sem] def speculumref01_Right_r0 : List AIns := [
  ⟨some 4, none, false, .mv (.v (.int .u32 (0)))⟩]
@[go_sem] def speculumref01_Right_r1 : List AIns := [
  ⟨some 5, none, false, .mv (.t 0)⟩,
  ⟨some 6, none, false, .mv (.t 1)⟩,
  ⟨some 7, none, false, .bin .rem .none (.t 6) (.v (.int .i64 (32)))⟩,
  ⟨some 8, none, false, .bin .sub .none (.v (.int .i64 (32))) (.t 7)⟩,
  ⟨some 9, none, false, .call (.v (.fn 32 [])) [(.t 5), (.t 8)]⟩,
  ⟨some 4, none, false, .mv (.t 9)⟩]
def speculumref01_Right_c2 : ACode := .seq (.reg speculumref01_Right_r1) .ret
def speculumref01_Right_c3 : ACode := .seq (.reg speculumref01_Right_r0) speculumref01_Right_c2
theorem speculumref01_Right_ok : cFn TC 34 = some (10, [4], speculumref01_Right_c3) := by kernel_rfl

-- 35 speculum/bits.Ones
@[go_sem] def bits_Ones_r0 : List AIns := [
  ⟨some 2, none, false, .mv (.v (.int .i64 (0)))⟩]
@[go_sem] def bits_Ones_r1 : List AIns := [
  ⟨some 3, none, false, .mv (.t 0)⟩,
  ⟨some 4, none, false, .minmax true (.t 3) (.v (.int .i64 (0)))⟩,
  ⟨some 5, none, false, .conv (.int .u64) (.t 4)⟩,
  ⟨some 6, none, false, .call (.v (.fn 49 [])) [(.t 5)]⟩,
  ⟨some 2, none, false, .mv (.t 6)⟩]
def bits_Ones_c2 : ACode := .seq (.reg bits_Ones_r1) .ret
def bits_Ones_c3 : ACode := .seq (.reg bits_Ones_r0) bits_Ones_c2
theorem bits_Ones_ok : cFn TC 35 = some (7, [2], bits_Ones_c3) := by kernel_rfl

-- 36 speculum/speculumref01.Ones
@[go_sem] def speculumref01_Ones_r0 : List AIns := [
  ⟨some 2, none, false, .mv (.v (.int .i64 (0)))⟩]
@[go_sem] def speculumref01_Ones_r1 : List AIns := [
  ⟨some 3, none, false, .mv (.v (.int .i64 (0)))⟩]
@[go_sem] def speculumref01_Ones_r2 : List AIns := [
  ⟨some 4, none, false, .mv (.t 0)⟩,
  ⟨some 5, none, false, .bin .gtr .none (.t 4) (.v (.int .i64 (0)))⟩]
def speculumref01_Ones_c3 : ACode := .cond (.t 5) .skip (.exit 0)
def speculumref01_Ones_c4 : ACode := .seq (.reg speculumref01_Ones_r2) speculumref01_Ones_c3
@[go_sem] def speculumref01_Ones_r5 : List AIns := [
  ⟨some 6, none, false, .mv (.t 3)⟩,
  ⟨some 7, none, false, .mv (.t 0)⟩,
  ⟨some 8, none, false, .bin .rem .none (.t 7) (.v (.int .i64 (2)))⟩,
  ⟨some 9, none, false, .bin .add .none (.t 6) (.t 8)⟩,
  ⟨some 3, none, false, .mv (.t 9)⟩]
@[go_sem] def speculumref01_Ones_r6 : List AIns := [
  ⟨some 10, none, false, .mv (.t 0)⟩,
  ⟨some 11, none, false, .bin .quo .none (.t 10) (.v (.int .i64 (2)))⟩,
  ⟨some 0, none, false, .mv (.t 11)⟩]
def speculumref01_Ones_c7 : ACode := .seq (.reg speculumref01_Ones_r5) (.reg speculumref01_Ones_r6)
def speculumref01_Ones_c8 : ACode := .block 1 speculumref01_Ones_c7
def speculumref01_Ones_c9 : ACode := .seq speculumref01_Ones_c4 speculumref01_Ones_c8
def speculumref01_Ones_c10 : ACode := .loop speculumref01_Ones_c9
@[go_sem] def speculumref01_Ones_r11 : List AIns := [
  ⟨some 12, none, false, .mv (.t 3)⟩,
  ⟨some 2, none, false, .mv (.t 12)⟩]
def speculumref01_Ones_c12 : ACode := .seq (.reg speculumref01_Ones_r11) .ret
def speculumref01_Ones_c13 : ACode := .seq (.block 0 speculumref01_Ones_c10) speculumref01_Ones_c12
def speculumref01_Ones_c14 : ACode := .seq (.reg speculumref01_Ones_r1) speculumref01_Ones_c13
def speculumref01_Ones_c15 : ACode := .seq (.reg speculumref01_Ones_r0) speculumref01_Ones_c14
theorem speculumref01_Ones_ok : cFn TC 36 = some (13, [2], speculumref01_Ones_c15) := by kernel_rfl

-- 37 speculum/bits.Log
@[go_sem] def bits_Log_r0 : List AIns := [
  ⟨some 2, none, false, .mv (.v (.int .i64 (0)))⟩]
@[go_sem] def bits_Log_r1 : List AIns := [
  ⟨some 3, none, false, .mv (.t 0)⟩,
  ⟨some 4, none, false, .minmax true (.t 3) (.v (.int .i64 (0)))⟩,
  ⟨some 5, none, false, .conv (.int .u64) (.t 4)⟩,
  ⟨some 6, none, false, .call (.v (.fn 50 [])) [(.t 5)]⟩,
  ⟨some 7, none, false, .bin .sub .none (.t 6) (.v (.int .i64 (1)))⟩,
  ⟨some 2, none, false, .mv (.t 7)⟩]
def bits_Log_c2 : ACode := .seq (.reg bits_Log_r1) .ret
def bits_Log_c3 : ACode := .seq (.reg bits_Log_r0) bits_Log_c2
theorem bits_Log_ok : cFn TC 37 = some (8, [2], bits_Log_c3) := by kernel_rfl

-- 38 speculum/speculumref01.Log
@[go_sem] def speculumref01_Log_r0 : List AIns := [
  ⟨some 2, none, false, .mv (.v (.int .i64 (0)))⟩]
@[go_sem] def speculumref01_Log_r1 : List AIns := [
  ⟨some 3, none, false, .mv (.v (.int .i64 (-1)))⟩]
@[go_sem] def speculumref01_Log_r2 : List AIns := [
  ⟨some 4, none, false, .mv (.t 0)⟩,
  ⟨some 5, none, false, .bin .gtr .none (.t 4) (.v (.int .i64 (0)))⟩]
def speculumref01_Log_c3 : ACode := .cond (.t 5) .skip (.exit 0)
def speculumref01_Log_c4 : ACode := .seq (.reg speculumref01_Log_r2) speculumref01_Log_c3
@[go_sem] def speculumref01_Log_r5 : List AIns := [
  ⟨some 6, none, false, .mv (.t 0)⟩,
  ⟨some 7, none, false, .bin .quo .none (.t 6) (.v (.int .i64 (2)))⟩,
  ⟨some 0, none, false, .mv (.t 7)⟩]
@[go_sem] def speculumref01_Log_r6 : List AIns := [
  ⟨some 8, none, false, .mv (.t 3)⟩,
  ⟨some 9, none, false, .bin .add .none (.t 8) (.v (.int .i64 (1)))⟩,
  ⟨some 3, none, false, .mv (.t 9)⟩]
def speculumref01_Log_c7 : ACode := .seq (.reg speculumref01_Log_r5) (.reg speculumref01_Log_r6)
def speculumref01_Log_c8 : ACode := .block 1 speculumref01_Log_c7
def speculumref01_Log_c9 : ACode := .seq speculumref01_Log_c4 speculumref01_Log_c8
def speculumref01_Log_c10 : ACode := .loop speculumref01_Log_c9
@[go_sem] def speculumref01_Log_r11 : List AIns := [
  ⟨some 10, none, false, .mv (.t 3)⟩,
  ⟨some 2, none, false, .mv (.t 10)⟩]
def speculumref01_Log_c12 : ACode := .seq (.reg speculumref01_Log_r11) .ret
def speculumref01_Log_c13 : ACode := .seq (.block 0 speculumref01_Log_c10) speculumref01_Log_c12
def speculumref01_Log_c14 : ACode := .seq (.reg speculumref01_Log_r1) speculumref01_Log_c13
def speculumref01_Log_c15 : ACode := .seq (.reg speculumref01_Log_r0) speculumref01_Log_c14
theorem speculumref01_Log_ok : cFn TC 38 = some (11, [2], speculumref01_Log_c15) := by kernel_rfl

-- 39 speculum/speculumlaw01.turned
@[go_sem] def speculumlaw01_turned_r0 : List AIns := [
  ⟨some 0, none, false, .mv (.v (.bool false))⟩]
@[go_sem] def speculumlaw01_turned_r1 : List AIns := [
  ⟨some 1, none, false, .call (.v (.fn 29 [])) [(.v (.int .u64 (258))), (.v (.int .i64 (3)))]⟩,
  ⟨some 2, none, false, .bin .eql .none (.t 1) (.v (.str [0, 1, 2]))⟩,
  ⟨some 3, none, false, .mv (.t 2)⟩,
  ⟨some 4, some (3, true), false, .call (.v (.fn 29 [])) [(.v (.int .u64 (1))), (.v (.int .i64 (9)))]⟩,
  ⟨some 5, some (3, true), false, .bin .eql .none (.t 4) (.v (.str []))⟩,
  ⟨some 6, none, false, .pick (.t 3) (.t 5) (.v (.bool false))⟩,
  ⟨some 7, none, false, .mv (.t 6)⟩,
  ⟨some 8, some (7, true), false, .call (.v (.fn 42 [])) [(.v (.str [1, 2]))]⟩,
  ⟨some 9, some (7, true), false, .bin .eql .none (.t 8) (.v (.int .u64 (258)))⟩,
  ⟨some 10, none, false, .pick (.t 7) (.t 9) (.v (.bool false))⟩,
  ⟨some 11, none, false, .mv (.t 10)⟩,
  ⟨some 12, some (11, true), false, .call (.v (.fn 31 [])) [(.v (.int .u32 (2147483649))), (.v (.int .i64 (1)))]⟩,
  ⟨some 13, some (11, true), false, .bin .eql .none (.t 12) (.v (.int .u32 (3)))⟩,
  ⟨some 14, none, false, .pick (.t 11) (.t 13) (.v (.bool false))⟩,
  ⟨some 15, none, false, .mv (.t 14)⟩,
  ⟨some 16, some (15, true), false, .call (.v (.fn 31 [])) [(.v (.int .u32 (1))), (.v (.int .i64 (-1)))]⟩,
  ⟨some 17, some (15, true), false, .bin .eql .none (.t 16) (.v (.int .u32 (2147483648)))⟩,
  ⟨some 18, none, false, .pick (.t 15) (.t 17) (.v (.bool false))⟩,
  ⟨some 19, none, false, .mv (.t 18)⟩,
  ⟨some 20, some (19, true), false, .call (.v (.fn 33 [])) [(.v (.int .u32 (1))), (.v (.int .i64 (33)))]⟩,
  ⟨some 21, some (19, true), false, .bin .eql .none (.t 20) (.v (.int .u32 (2147483648)))⟩,
  ⟨some 22, none, false, .pick (.t 19) (.t 21) (.v (.bool false))⟩,
  ⟨some 23, none, false, .mv (.t 22)⟩,
  ⟨some 24, some (23, true), false, .call (.v (.fn 35 [])) [(.v (.int .i64 (7)))]⟩,
  ⟨some 25, some (23, true), false, .bin .eql .none (.t 24) (.v (.int .i64 (3)))⟩,
  ⟨some 26, none, false, .pick (.t 23) (.t 25) (.v (.bool false))⟩,
  ⟨some 27, none, false, .mv (.t 26)⟩,
  ⟨some 28, some (27, true), false, .call (.v (.fn 35 [])) [(.v (.int .i64 (-1)))]⟩,
  ⟨some 29, some (27, true), false, .bin .eql .none (.t 28) (.v (.int .i64 (0)))⟩,
  ⟨some 30, none, false, .pick (.t 27) (.t 29) (.v (.bool false))⟩,
  ⟨some 31, none, false, .mv (.t 30)⟩,
  ⟨some 32, some (31, true), false, .call (.v (.fn 37 [])) [(.v (.int .i64 (8)))]⟩,
  ⟨some 33, some (31, true), false, .bin .eql .none (.t 32) (.v (.int .i64 (3)))⟩,
  ⟨some 34, none, false, .pick (.t 31) (.t 33) (.v (.bool false))⟩,
  ⟨some 35, none, false, .mv (.t 34)⟩,
  ⟨some 36, some (35, true), false, .call (.v (.fn 37 [])) [(.v (.int .i64 (7)))]⟩,
  ⟨some 37, some (35, true), false, .bin .eql .none (.t 36) (.v (.int .i64 (2)))⟩,
  ⟨some 38, none, false, .pick (.t 35) (.t 37) (.v (.bool false))⟩,
  ⟨some 39, none, false, .mv (.t 38)⟩,
  ⟨some 40, some (39, true), false, .call (.v (.fn 37 [])) [(.v (.int .i64 (0)))]⟩,
  ⟨some 41, some (39, true), false, .bin .eql .none (.t 40) (.v (.int .i64 (-1)))⟩,
  ⟨some 42, none, false, .pick (.t 39) (.t 41) (.v (.bool false))⟩,
  ⟨some 43, none, false, .mv (.t 42)⟩,
  ⟨some 44, some (43, true), false, .call (.v (.fn 40 [])) [(.v (.str [64])), (.v (.int .i64 (1)))]⟩,
  ⟨some 45, some (43, true), false, .bin .eql .none (.t 44) (.v (.int .i64 (1)))⟩,
  ⟨some 46, none, false, .pick (.t 43) (.t 45) (.v (.bool false))⟩,
  ⟨some 47, none, false, .mv (.t 46)⟩,
  ⟨some 48, some (47, true), false, .call (.v (.fn 40 [])) [(.v (.str [64])), (.v (.int .i64 (0)))]⟩,
  ⟨some 49, some (47, true), false, .bin .eql .none (.t 48) (.v (.int .i64 (0)))⟩,
  ⟨some 50, none, false, .pick (.t 47) (.t 49) (.v (.bool false))⟩,
  ⟨some 51, none, false, .mv (.t 50)⟩,
  ⟨some 52, some (51, true), false, .call (.v (.fn 40 [])) [(.v (.str [64])), (.v (.int .i64 (8)))]⟩,
  ⟨some 53, some (51, true), false, .bin .eql .none (.t 52) (.v (.int .i64 (0)))⟩,
  ⟨some 54, none, false, .pick (.t 51) (.t 53) (.v (.bool false))⟩,
  ⟨some 0, none, false, .mv (.t 54)⟩]
def speculumlaw01_turned_c2 : ACode := .seq (.reg speculumlaw01_turned_r1) .ret
def speculumlaw01_turned_c3 : ACode := .seq (.reg speculumlaw01_turned_r0) speculumlaw01_turned_c2
theorem speculumlaw01_turned_ok : cFn TC 39 = some (55, [0], speculumlaw01_turned_c3) := by kernel_rfl

-- 40 speculum/bits.Bit
@[go_sem] def bits_Bit_r0 : List AIns := [
  ⟨some 4, none, false, .mv (.v (.int .i64 (0)))⟩]
@[go_sem] def bits_Bit_r1 : List AIns := [
  ⟨some 5, none, false, .mv (.t 1)⟩,
  ⟨some 6, none, false, .bin .lss .none (.t 5) (.v (.int .i64 (0)))⟩,
  ⟨some 7, none, false, .mv (.t 6)⟩,
  ⟨some 8, some (7, false), false, .mv (.t 1)⟩,
  ⟨some 9, some (7, false), false, .bin .quo .none (.t 8) (.v (.int .i64 (8)))⟩,
  ⟨some 10, some (7, false), false, .mv (.t 0)⟩,
  ⟨some 11, some (7, false), false, .lenStr (.t 10)⟩,
  ⟨some 12, some (7, false), false, .bin .geq .none (.t 9) (.t 11)⟩,
  ⟨some 13, none, false, .pick (.t 7) (.v (.bool true)) (.t 12)⟩]
@[go_sem] def bits_Bit_r2 : List AIns := [
  ⟨some 4, none, false, .mv (.v (.int .i64 (0)))⟩]
def bits_Bit_c3 : ACode := .seq (.reg bits_Bit_r2) .ret
def bits_Bit_c4 : ACode := .cond (.t 13) bits_Bit_c3 .skip
def bits_Bit_c5 : ACode := .seq (.reg bits_Bit_r1) bits_Bit_c4
@[go_sem] def bits_Bit_r6 : List AIns := [
  ⟨some 14, none, false, .mv (.t 0)⟩,
  ⟨some 15, none, false, .mv (.t 1)⟩,
  ⟨some 16, none, false, .bin .quo .none (.t 15) (.v (.int .i64 (8)))⟩,
  ⟨some 17, none, false, .ixStr (.t 14) (.t 16)⟩,
  ⟨some 18, none, false, .mv (.t 1)⟩,
  ⟨some 19, none, false, .bin .rem .none (.t 18) (.v (.int .i64 (8)))⟩,
  ⟨some 20, none, false, .bin .sub .none (.v (.int .i64 (7))) (.t 19)⟩,
  ⟨some 21, none, false, .bin .shr .none (.t 17) (.t 20)⟩,
  ⟨some 22, none, false, .bin .and .none (.t 21) (.v (.int .u8 (1)))⟩,
  ⟨some 23, none, false, .conv (.int .i64) (.t 22)⟩,
  ⟨some 4, none, false, .mv (.t 23)⟩]
def bits_Bit_c7 : ACode := .seq (.reg bits_Bit_r6) .ret
def bits_Bit_c8 : ACode := .seq bits_Bit_c5 bits_Bit_c7
def bits_Bit_c9 : ACode := .seq (.reg bits_Bit_r0) bits_Bit_c8
theorem bits_Bit_ok : cFn TC 40 = some (24, [4], bits_Bit_c9) := by kernel_rfl

-- 41 speculum/speculumref01.Bit
@[go_sem] def speculumref01_Bit_r0 : List AIns := [
  ⟨some 4, none, false, .mv (.v (.int .i64 (0)))⟩]
@[go_sem] def speculumref01_Bit_r1 : List AIns := [
  ⟨some 7, none, false, .mv (.t 1)⟩,
  ⟨some 8, none, false, .bin .lss .none (.t 7) (.v (.int .i64 (0)))⟩,
  ⟨some 9, none, false, .mv (.t 8)⟩,
  ⟨some 10, some (9, false), false, .mv (.t 1)⟩,
  ⟨some 11, some (9, false), false, .bin .quo .none (.t 10) (.v (.int .i64 (8)))⟩,
  ⟨some 12, some (9, false), false, .mv (.t 0)⟩,
  ⟨some 13, some (9, false), false, .lenStr (.t 12)⟩,
  ⟨some 14, some (9, false), false, .bin .geq .none (.t 11) (.t 13)⟩,
  ⟨some 15, none, false, .pick (.t 9) (.v (.bool true)) (.t 14)⟩]
@[go_sem] def speculumref01_Bit_r2 : List AIns := [
  ⟨some 4, none, false, .mv (.v (.int .i64 (0)))⟩]
def speculumref01_Bit_c3 : ACode := .seq (.reg speculumref01_Bit_r2) .ret
def speculumref01_Bit_c4 : ACode := .cond (.t 15) speculumref01_Bit_c3 .skip
def speculumref01_Bit_c5 : ACode := .seq (.reg speculumref01_Bit_r1) speculumref01_Bit_c4
@[go_sem] def speculumref01_Bit_r6 : List AIns := [
  ⟨some 16, none, false, .mv (.t 0)⟩,
  ⟨some 17, none, false, .mv (.t 1)⟩,
  ⟨some 18, none, false, .bin .quo .none (.t 17) (.v (.int .i64 (8)))⟩,
  ⟨some 19, none, false, .ixStr (.t 16) (.t 18)⟩,
  ⟨some 5, none, false, .mv (.t 19)⟩]
@[go_sem] def speculumref01_Bit_r7 : List AIns := [
  ⟨some 20, none, false, .mv (.t 1)⟩,
  ⟨some 21, none, false, .bin .rem .none (.t 20) (.v (.int .i64 (8)))⟩,
  ⟨some 6, none, false, .mv (.t 21)⟩]
@[go_sem] def speculumref01_Bit_r8 : List AIns := [
  ⟨some 22, none, false, .mv (.t 6)⟩,
  ⟨some 23, none, false, .bin .lss .none (.t 22) (.v (.int .i64 (7)))⟩]
def speculumref01_Bit_c9 : ACode := .cond (.t 23) .skip (.exit 0)
def speculumref01_Bit_c10 : ACode := .seq (.reg speculumref01_Bit_r8) speculumref01_Bit_c9
@[go_sem] def speculumref01_Bit_r11 : List AIns := [
  ⟨some 26, none, false, .mv (.t 5)⟩,
  ⟨some 27, none, false, .bin .quo .none (.t 26) (.v (.int .u8 (2)))⟩,
  ⟨some 5, none, false, .mv (.t 27)⟩]
@[go_sem] def speculumref01_Bit_r12 : List AIns := [
  ⟨some 24, none, false, .mv (.t 6)⟩,
  ⟨some 25, none, false, .bin .add .none (.t 24) (.v (.int .i64 (1)))⟩,
  ⟨some 6, none, false, .mv (.t 25)⟩]
def speculumref01_Bit_c13 : ACode := .seq (.block 1 (.reg speculumref01_Bit_r11)) (.reg speculumref01_Bit_r12)
def speculumref01_Bit_c14 : ACode := .seq speculumref01_Bit_c10 speculumref01_Bit_c13
def speculumref01_Bit_c15 : ACode := .loop speculumref01_Bit_c14
def speculumref01_Bit_c16 : ACode := .block 0 speculumref01_Bit_c15
def speculumref01_Bit_c17 : ACode := .seq (.reg speculumref01_Bit_r7) speculumref01_Bit_c16
@[go_sem] def speculumref01_Bit_r18 : List AIns := [
  ⟨some 28, none, false, .mv (.t 5)⟩,
  ⟨some 29, none, false, .bin .rem .none (.t 28) (.v (.int .u8 (2)))⟩,
  ⟨some 30, none, false, .conv (.int .i64) (.t 29)⟩,
  ⟨some 4, none, false, .mv (.t 30)⟩]
def speculumref01_Bit_c19 : ACode := .seq (.reg speculumref01_Bit_r18) .ret
def speculumref01_Bit_c20 : ACode := .seq speculumref01_Bit_c17 speculumref01_Bit_c19
def speculumref01_Bit_c21 : ACode := .seq (.reg speculumref01_Bit_r6) speculumref01_Bit_c20
def speculumref01_Bit_c22 : ACode := .seq speculumref01_Bit_c5 speculumref01_Bit_c21
def speculumref01_Bit_c23 : ACode := .seq (.reg speculumref01_Bit_r0) speculumref01_Bit_c22
theorem speculumref01_Bit_ok : cFn TC 41 = some (31, [4], speculumref01_Bit_c23) := by kernel_rfl

-- 42 speculum/bits.Get
@[go_sem] def bits_Get_r0 : List AIns := [
  ⟨some 2, none, false, .mv (.v (.int .u64 (0)))⟩]
@[go_sem] def bits_Get_r1 : List AIns := [
  ⟨some 3, none, false, .mv (.v (.int .u64 (0)))⟩]
@[go_sem] def bits_Get_r2 : List AIns := [
  ⟨some 5, none, false, .mv (.t 0)⟩,
  ⟨some 6, none, false, .lenStr (.t 5)⟩,
  ⟨some 7, none, false, .minmax false (.t 6) (.v (.int .i64 (8)))⟩,
  ⟨some 8, none, false, .mv (.v (.int .i64 (0)))⟩]
@[go_sem] def bits_Get_r3 : List AIns := [
  ⟨some 9, none, false, .bin .lss .none (.t 8) (.t 7)⟩]
@[go_sem] def bits_Get_r4 : List AIns := [
  ⟨some 10, none, false, .mv (.t 8)⟩,
  ⟨some 4, none, false, .mv (.t 10)⟩]
@[go_sem] def bits_Get_r5 : List AIns := [
  ⟨some 11, none, false, .mv (.t 3)⟩,
  ⟨some 12, none, false, .bin .shl .none (.t 11) (.v (.int .u64 (8)))⟩,
  ⟨some 13, none, false, .mv (.t 0)⟩,
  ⟨some 14, none, false, .mv (.t 4)⟩,
  ⟨some 15, none, false, .ixStr (.t 13) (.t 14)⟩,
  ⟨some 16, none, false, .conv (.int .u64) (.t 15)⟩,
  ⟨some 17, none, false, .bin .add .none (.t 12) (.t 16)⟩,
  ⟨some 3, none, false, .mv (.t 17)⟩]
def bits_Get_c6 : ACode := .seq (.reg bits_Get_r4) (.reg bits_Get_r5)
@[go_sem] def bits_Get_r7 : List AIns := [
  ⟨some 18, none, false, .bin .add .none (.t 8) (.v (.int .i64 (1)))⟩,
  ⟨some 8, none, false, .mv (.t 18)⟩]
def bits_Get_c8 : ACode := .seq (.block 1 bits_Get_c6) (.reg bits_Get_r7)
def bits_Get_c9 : ACode := .seq (.cond (.t 9) .skip (.exit 0)) bits_Get_c8
def bits_Get_c10 : ACode := .seq (.reg bits_Get_r3) bits_Get_c9
def bits_Get_c11 : ACode := .loop bits_Get_c10
def bits_Get_c12 : ACode := .block 0 bits_Get_c11
def bits_Get_c13 : ACode := .seq (.reg bits_Get_r2) bits_Get_c12
@[go_sem] def bits_Get_r14 : List AIns := [
  ⟨some 19, none, false, .mv (.t 3)⟩,
  ⟨some 2, none, false, .mv (.t 19)⟩]
def bits_Get_c15 : ACode := .seq (.reg bits_Get_r14) .ret
def bits_Get_c16 : ACode := .seq bits_Get_c13 bits_Get_c15
def bits_Get_c17 : ACode := .seq (.reg bits_Get_r1) bits_Get_c16
def bits_Get_c18 : ACode := .seq (.reg bits_Get_r0) bits_Get_c17
theorem bits_Get_ok : cFn TC 42 = some (20, [2], bits_Get_c18) := by kernel_rfl

-- 43 speculum/speculumref01.Get
@[go_sem] def speculumref01_Get_r0 : List AIns := [
  ⟨some 2, none, false, .mv (.v (.int .u64 (0)))⟩]
@[go_sem] def speculumref01_Get_r1 : List AIns := [
  ⟨some 3, none, false, .mv (.v (.int .u64 (0)))⟩]
@[go_sem] def speculumref01_Get_r2 : List AIns := [
  ⟨some 4, none, false, .mv (.v (.int .i64 (0)))⟩]
@[go_sem] def speculumref01_Get_r3 : List AIns := [
  ⟨some 5, none, false, .mv (.t 4)⟩,
  ⟨some 6, none, false, .mv (.t 0)⟩,
  ⟨some 7, none, false, .lenStr (.t 6)⟩,
  ⟨some 8, none, false, .bin .lss .none (.t 5) (.t 7)⟩,
  ⟨some 9, none, false, .mv (.t 8)⟩,
  ⟨some 10, some (9, true), false, .mv (.t 4)⟩,
  ⟨some 11, some (9, true), false, .bin .lss .none (.t 10) (.v (.int .i64 (8)))⟩,
  ⟨some 12, none, false, .pick (.t 9) (.t 11) (.v (.bool false))⟩]
def speculumref01_Get_c4 : ACode := .cond (.t 12) .skip (.exit 0)
def speculumref01_Get_c5 : ACode := .seq (.reg speculumref01_Get_r3) speculumref01_Get_c4
@[go_sem] def speculumref01_Get_r6 : List AIns := [
  ⟨some 15, none, false, .mv (.t 3)⟩,
  ⟨some 16, none, false, .bin .mul .none (.t 15) (.v (.int .u64 (256)))⟩,
  ⟨some 17, none, false, .mv (.t 0)⟩,
  ⟨some 18, none, false, .mv (.t 4)⟩,
  ⟨some 19, none, false, .ixStr (.t 17) (.t 18)⟩,
  ⟨some 20, none, false, .conv (.int .u64) (.t 19)⟩,
  ⟨some 21, none, false, .bin .add .none (.t 16) (.t 20)⟩,
  ⟨some 3, none, false, .mv (.t 21)⟩]
@[go_sem] def speculumref01_Get_r7 : List AIns := [
  ⟨some 13, none, false, .mv (.t 4)⟩,
  ⟨some 14, none, false, .bin .add .none (.t 13) (.v (.int .i64 (1)))⟩,
  ⟨some 4, none, false, .mv (.t 14)⟩]
def speculumref01_Get_c8 : ACode := .seq (.block 1 (.reg speculumref01_Get_r6)) (.reg speculumref01_Get_r7)
def speculumref01_Get_c9 : ACode := .seq speculumref01_Get_c5 speculumref01_Get_c8
def speculumref01_Get_c10 : ACode := .loop speculumref01_Get_c9
def speculumref01_Get_c11 : ACode := .block 0 speculumref01_Get_c10
def speculumref01_Get_c12 : ACode := .seq (.reg speculumref01_Get_r2) speculumref01_Get_c11
@[go_sem] def speculumref01_Get_r13 : List AIns := [
  ⟨some 22, none, false, .mv (.t 3)⟩,
  ⟨some 2, none, false, .mv (.t 22)⟩]
def speculumref01_Get_c14 : ACode := .seq (.reg speculumref01_Get_r13) .ret
def speculumref01_Get_c15 : ACode := .seq speculumref01_Get_c12 speculumref01_Get_c14
def speculumref01_Get_c16 : ACode := .seq (.reg speculumref01_Get_r1) speculumref01_Get_c15
def speculumref01_Get_c17 : ACode := .seq (.reg speculumref01_Get_r0) speculumref01_Get_c16
theorem speculumref01_Get_ok : cFn TC 43 = some (23, [2], speculumref01_Get_c17) := by kernel_rfl

-- 48 math/bits.RotateLeft32
@[go_sem] def bits_RotateLeft32_r0 : List AIns := [
  ⟨some 4, none, false, .mv (.v (.int .u32 (0)))⟩]
@[go_sem] def bits_RotateLeft32_r1 : List AIns := [
  ⟨some 6, none, false, .mv (.t 1)⟩,
  ⟨some 7, none, false, .conv (.int .u64) (.t 6)⟩,
  ⟨some 8, none, false, .bin .and .none (.t 7) (.v (.int .u64 (31)))⟩,
  ⟨some 5, none, false, .mv (.t 8)⟩]
@[go_sem] def bits_RotateLeft32_r2 : List AIns := [
  ⟨some 9, none, false, .mv (.t 0)⟩,
  ⟨some 10, none, false, .mv (.t 5)⟩,
  ⟨some 11, none, false, .bin .shl .none (.t 9) (.t 10)⟩,
  ⟨some 12, none, false, .mv (.t 0)⟩,
  ⟨some 13, none, false, .mv (.t 5)⟩,
  ⟨some 14, none, false, .bin .sub .none (.v (.int .u64 (32))) (.t 13)⟩,
  ⟨some 15, none, false, .bin .shr .none (.t 12) (.t 14)⟩,
  ⟨some 16, none, false, .bin .or .none (.t 11) (.t 15)⟩,
  ⟨some 4, none, false, .mv (.t 16)⟩]
def bits_RotateLeft32_c3 : ACode := .seq (.reg bits_RotateLeft32_r2) .ret
def bits_RotateLeft32_c4 : ACode := .seq (.reg bits_RotateLeft32_r1) bits_RotateLeft32_c3
def bits_RotateLeft32_c5 : ACode := .seq (.reg bits_RotateLeft32_r0) bits_RotateLeft32_c4
theorem bits_RotateLeft32_ok : cFn TC 48 = some (17, [4], bits_RotateLeft32_c5) := by kernel_rfl

-- 49 math/bits.OnesCount
@[go_sem] def bits_OnesCount_r0 : List AIns := [
  ⟨some 2, none, false, .mv (.v (.int .i64 (0)))⟩]
@[go_sem] def bits_OnesCount_r1 : List AIns := [
  ⟨some 3, none, false, .mv (.t 0)⟩,
  ⟨some 4, none, false, .conv (.int .u32) (.t 3)⟩,
  ⟨some 5, none, false, .call (.v (.fn 51 [])) [(.t 4)]⟩,
  ⟨some 2, none, false, .mv (.t 5)⟩]
def bits_OnesCount_c2 : ACode := .seq (.reg bits_OnesCount_r1) .ret
@[go_sem] def bits_OnesCount_r3 : List AIns := [
  ⟨some 6, none, false, .mv (.t 0)⟩,
  ⟨some 7, none, false, .call (.v (.fn 52 [])) [(.t 6)]⟩,
  ⟨some 2, none, false, .mv (.t 7)⟩]
def bits_OnesCount_c4 : ACode := .seq (.reg bits_OnesCount_r3) .ret
def bits_OnesCount_c5 : ACode := .seq (.cond (.v (.bool false)) bits_OnesCount_c2 .skip) bits_OnesCount_c4
def bits_OnesCount_c6 : ACode := .seq (.reg bits_OnesCount_r0) bits_OnesCount_c5
theorem bits_OnesCount_ok : cFn TC 49 = some (8, [2], bits_OnesCount_c6) := by kernel_rfl

-- 50 math/bits.Len
@[go_sem] def bits_Len_r0 : List AIns := [
  ⟨some 2, none, false, .mv (.v (.int .i64 (0)))⟩]
@[go_sem] def bits_Len_r1 : List AIns := [
  ⟨some 3, none, false, .mv (.t 0)⟩,
  ⟨some 4, none, false, .conv (.int .u32) (.t 3)⟩,
  ⟨some 5, none, false, .call (.v (.fn 53 [])) [(.t 4)]⟩,
  ⟨some 2, none, false, .mv (.t 5)⟩]
def bits_Len_c2 : ACode := .seq (.reg bits_Len_r1) .ret
@[go_sem] def bits_Len_r3 : List AIns := [
  ⟨some 6, none, false, .mv (.t 0)⟩,
  ⟨some 7, none, false, .call (.v (.fn 54 [])) [(.t 6)]⟩,
  ⟨some 2, none, false, .mv (.t 7)⟩]
def bits_Len_c4 : ACode := .seq (.reg bits_Len_r3) .ret
def bits_Len_c5 : ACode := .seq (.cond (.v (.bool false)) bits_Len_c2 .skip) bits_Len_c4
def bits_Len_c6 : ACode := .seq (.reg bits_Len_r0) bits_Len_c5
theorem bits_Len_ok : cFn TC 50 = some (8, [2], bits_Len_c6) := by kernel_rfl

-- 51 math/bits.OnesCount32
@[go_sem] def bits_OnesCount32_r0 : List AIns := [
  ⟨some 2, none, false, .mv (.v (.int .i64 (0)))⟩]
@[go_sem] def bits_OnesCount32_r1 : List AIns := [
  ⟨some 3, none, false, .mv (.t 0)⟩,
  ⟨some 4, none, false, .bin .shr .none (.t 3) (.v (.int .u64 (24)))⟩,
  ⟨some 5, none, false, .ixStr (.v (.str bitsTab0)) (.t 4)⟩,
  ⟨some 6, none, false, .mv (.t 0)⟩,
  ⟨some 7, none, false, .bin .shr .none (.t 6) (.v (.int .u64 (16)))⟩,
  ⟨some 8, none, false, .bin .and .none (.t 7) (.v (.int .u32 (255)))⟩,
  ⟨some 9, none, false, .ixStr (.v (.str bitsTab0)) (.t 8)⟩,
  ⟨some 10, none, false, .bin .add .none (.t 5) (.t 9)⟩,
  ⟨some 11, none, false, .mv (.t 0)⟩,
  ⟨some 12, none, false, .bin .shr .none (.t 11) (.v (.int .u64 (8)))⟩,
  ⟨some 13, none, false, .bin .and .none (.t 12) (.v (.int .u32 (255)))⟩,
  ⟨some 14, none, false, .ixStr (.v (.str bitsTab0)) (.t 13)⟩,
  ⟨some 15, none, false, .bin .add .none (.t 10) (.t 14)⟩,
  ⟨some 16, none, false, .mv (.t 0)⟩,
  ⟨some 17, none, false, .bin .and .none (.t 16) (.v (.int .u32 (255)))⟩,
  ⟨some 18, none, false, .ixStr (.v (.str bitsTab0)) (.t 17)⟩,
  ⟨some 19, none, false, .bin .add .none (.t 15) (.t 18)⟩,
  ⟨some 20, none, false, .conv (.int .i64) (.t 19)⟩,
  ⟨some 2, none, false, .mv (.t 20)⟩]
def bits_OnesCount32_c2 : ACode := .seq (.reg bits_OnesCount32_r1) .ret
def bits_OnesCount32_c3 : ACode := .seq (.reg bits_OnesCount32_r0) bits_OnesCount32_c2
theorem bits_OnesCount32_ok : cFn TC 51 = some (21, [2], bits_OnesCount32_c3) := by kernel_rfl

-- 52 math/bits.OnesCount64
@[go_sem] def bits_OnesCount64_r0 : List AIns := [
  ⟨some 2, none, false, .mv (.v (.int .i64 (0)))⟩]
@[go_sem] def bits_OnesCount64_r1 : List AIns := [
  ⟨some 3, none, false, .mv (.t 0)⟩,
  ⟨some 4, none, false, .bin .shr .none (.t 3) (.v (.int .u64 (1)))⟩,
  ⟨some 5, none, false, .bin .and .none (.t 4) (.v (.int .u64 (6148914691236517205)))⟩,
  ⟨some 6, none, false, .mv (.t 0)⟩,
  ⟨some 7, none, false, .bin .and .none (.t 6) (.v (.int .u64 (6148914691236517205)))⟩,
  ⟨some 8, none, false, .bin .add .none (.t 5) (.t 7)⟩,
  ⟨some 0, none, false, .mv (.t 8)⟩]
@[go_sem] def bits_OnesCount64_r2 : List AIns := [
  ⟨some 9, none, false, .mv (.t 0)⟩,
  ⟨some 10, none, false, .bin .shr .none (.t 9) (.v (.int .u64 (2)))⟩,
  ⟨some 11, none, false, .bin .and .none (.t 10) (.v (.int .u64 (3689348814741910323)))⟩,
  ⟨some 12, none, false, .mv (.t 0)⟩,
  ⟨some 13, none, false, .bin .and .none (.t 12) (.v (.int .u64 (3689348814741910323)))⟩,
  ⟨some 14, none, false, .bin .add .none (.t 11) (.t 13)⟩,
  ⟨some 0, none, false, .mv (.t 14)⟩]
@[go_sem] def bits_OnesCount64_r3 : List AIns := [
  ⟨some 15, none, false, .mv (.t 0)⟩,
  ⟨some 16, none, false, .bin .shr .none (.t 15) (.v (.int .u64 (4)))⟩,
  ⟨some 17, none, false, .mv (.t 0)⟩,
  ⟨some 18, none, false, .bin .add .none (.t 16) (.t 17)⟩,
  ⟨some 19, none, false, .bin .and .none (.t 18) (.v (.int .u64 (1085102592571150095)))⟩,
  ⟨some 0, none, false, .mv (.t 19)⟩]
@[go_sem] def bits_OnesCount64_r4 : List AIns := [
  ⟨some 20, none, false, .mv (.t 0)⟩,
  ⟨some 21, none, false, .mv (.t 0)⟩,
  ⟨some 22, none, false, .bin .shr .none (.t 21) (.v (.int .u64 (8)))⟩,
  ⟨some 23, none, false, .bin .add .none (.t 20) (.t 22)⟩,
  ⟨some 0, none, false, .mv (.t 23)⟩]
@[go_sem] def bits_OnesCount64_r5 : List AIns := [
  ⟨some 24, none, false, .mv (.t 0)⟩,
  ⟨some 25, none, false, .mv (.t 0)⟩,
  ⟨some 26, none, false, .bin .shr .none (.t 25) (.v (.int .u64 (16)))⟩,
  ⟨some 27, none, false, .bin .add .none (.t 24) (.t 26)⟩,
  ⟨some 0, none, false, .mv (.t 27)⟩]
@[go_sem] def bits_OnesCount64_r6 : List AIns := [
  ⟨some 28, none, false, .mv (.t 0)⟩,
  ⟨some 29, none, false, .mv (.t 0)⟩,
  ⟨some 30, none, false, .bin .shr .none (.t 29) (.v (.int .u64 (32)))⟩,
  ⟨some 31, none, false, .bin .add .none (.t 28) (.t 30)⟩,
  ⟨some 0, none, false, .mv (.t 31)⟩]
@[go_sem] def bits_OnesCount64_r7 : List AIns := [
  ⟨some 32, none, false, .mv (.t 0)⟩,
  ⟨some 33, none, false, .conv (.int .i64) (.t 32)⟩,
  ⟨some 34, none, false, .bin .and .none (.t 33) (.v (.int .i64 (127)))⟩,
  ⟨some 2, none, false, .mv (.t 34)⟩]
def bits_OnesCount64_c8 : ACode := .seq (.reg bits_OnesCount64_r7) .ret
def bits_OnesCount64_c9 : ACode := .seq (.reg bits_OnesCount64_r6) bits_OnesCount64_c8
def bits_OnesCount64_c10 : ACode := .seq (.reg bits_OnesCount64_r5) bits_OnesCount64_c9
def bits_OnesCount64_c11 : ACode := .seq (.reg bits_OnesCount64_r4) bits_OnesCount64_c10
def bits_OnesCount64_c12 : ACode := .seq (.reg bits_OnesCount64_r3) bits_OnesCount64_c11
def bits_OnesCount64_c13 : ACode := .seq (.reg bits_OnesCount64_r2) bits_OnesCount64_c12
def bits_OnesCount64_c14 : ACode := .seq (.reg bits_OnesCount64_r1) bits_OnesCount64_c13
def bits_OnesCount64_c15 : ACode := .seq (.reg bits_OnesCount64_r0) bits_OnesCount64_c14
theorem bits_OnesCount64_ok : cFn TC 52 = some (35, [2], bits_OnesCount64_c15) := by kernel_rfl

-- 53 math/bits.Len32
@[go_sem] def bits_Len32_r0 : List AIns := [
  ⟨some 2, none, false, .mv (.v (.int .i64 (0)))⟩]
@[go_sem] def bits_Len32_r1 : List AIns := [
  ⟨some 3, none, false, .mv (.t 0)⟩,
  ⟨some 4, none, false, .bin .geq .none (.t 3) (.v (.int .u32 (65536)))⟩]
@[go_sem] def bits_Len32_r2 : List AIns := [
  ⟨some 5, none, false, .mv (.t 0)⟩,
  ⟨some 6, none, false, .bin .shr .none (.t 5) (.v (.int .u64 (16)))⟩,
  ⟨some 0, none, false, .mv (.t 6)⟩]
@[go_sem] def bits_Len32_r3 : List AIns := [
  ⟨some 2, none, false, .mv (.v (.int .i64 (16)))⟩]
def bits_Len32_c4 : ACode := .seq (.reg bits_Len32_r2) (.reg bits_Len32_r3)
def bits_Len32_c5 : ACode := .cond (.t 4) bits_Len32_c4 .skip
def bits_Len32_c6 : ACode := .seq (.reg bits_Len32_r1) bits_Len32_c5
@[go_sem] def bits_Len32_r7 : List AIns := [
  ⟨some 7, none, false, .mv (.t 0)⟩,
  ⟨some 8, none, false, .bin .geq .none (.t 7) (.v (.int .u32 (256)))⟩]
@[go_sem] def bits_Len32_r8 : List AIns := [
  ⟨some 9, none, false, .mv (.t 0)⟩,
  ⟨some 10, none, false, .bin .shr .none (.t 9) (.v (.int .u64 (8)))⟩,
  ⟨some 0, none, false, .mv (.t 10)⟩]
@[go_sem] def bits_Len32_r9 : List AIns := [
  ⟨some 11, none, false, .mv (.t 2)⟩,
  ⟨some 12, none, false, .bin .add .none (.t 11) (.v (.int .i64 (8)))⟩,
  ⟨some 2, none, false, .mv (.t 12)⟩]
def bits_Len32_c10 : ACode := .seq (.reg bits_Len32_r8) (.reg bits_Len32_r9)
def bits_Len32_c11 : ACode := .cond (.t 8) bits_Len32_c10 .skip
def bits_Len32_c12 : ACode := .seq (.reg bits_Len32_r7) bits_Len32_c11
@[go_sem] def bits_Len32_r13 : List AIns := [
  ⟨some 13, none, false, .mv (.t 2)⟩,
  ⟨some 14, none, false, .mv (.t 0)⟩,
  ⟨some 15, none, false, .conv (.int .u8) (.t 14)⟩,
  ⟨some 16, none, false, .ixStr (.v (.str bitsTab1)) (.t 15)⟩,
  ⟨some 17, none, false, .conv (.int .i64) (.t 16)⟩,
  ⟨some 18, none, false, .bin .add .none (.t 13) (.t 17)⟩,
  ⟨some 2, none, false, .mv (.t 18)⟩]
def bits_Len32_c14 : ACode := .seq (.reg bits_Len32_r13) .ret
def bits_Len32_c15 : ACode := .seq bits_Len32_c12 bits_Len32_c14
def bits_Len32_c16 : ACode := .seq bits_Len32_c6 bits_Len32_c15
def bits_Len32_c17 : ACode := .seq (.reg bits_Len32_r0) bits_Len32_c16
theorem bits_Len32_ok : cFn TC 53 = some (19, [2], bits_Len32_c17) := by kernel_rfl

-- 54 math/bits.Len64
@[go_sem] def bits_Len64_r0 : List AIns := [
  ⟨some 2, none, false, .mv (.v (.int .i64 (0)))⟩]
@[go_sem] def bits_Len64_r1 : List AIns := [
  ⟨some 3, none, false, .mv (.t 0)⟩,
  ⟨some 4, none, false, .bin .geq .none (.t 3) (.v (.int .u64 (4294967296)))⟩]
@[go_sem] def bits_Len64_r2 : List AIns := [
  ⟨some 5, none, false, .mv (.t 0)⟩,
  ⟨some 6, none, false, .bin .shr .none (.t 5) (.v (.int .u64 (32)))⟩,
  ⟨some 0, none, false, .mv (.t 6)⟩]
@[go_sem] def bits_Len64_r3 : List AIns := [
  ⟨some 2, none, false, .mv (.v (.int .i64 (32)))⟩]
def bits_Len64_c4 : ACode := .seq (.reg bits_Len64_r2) (.reg bits_Len64_r3)
def bits_Len64_c5 : ACode := .cond (.t 4) bits_Len64_c4 .skip
def bits_Len64_c6 : ACode := .seq (.reg bits_Len64_r1) bits_Len64_c5
@[go_sem] def bits_Len64_r7 : List AIns := [
  ⟨some 7, none, false, .mv (.t 0)⟩,
  ⟨some 8, none, false, .bin .geq .none (.t 7) (.v (.int .u64 (65536)))⟩]
@[go_sem] def bits_Len64_r8 : List AIns := [
  ⟨some 9, none, false, .mv (.t 0)⟩,
  ⟨some 10, none, false, .bin .shr .none (.t 9) (.v (.int .u64 (16)))⟩,
  ⟨some 0, none, false, .mv (.t 10)⟩]
@[go_sem] def bits_Len64_r9 : List AIns := [
  ⟨some 11, none, false, .mv (.t 2)⟩,
  ⟨some 12, none, false, .bin .add .none (.t 11) (.v (.int .i64 (16)))⟩,
  ⟨some 2, none, false, .mv (.t 12)⟩]
def bits_Len64_c10 : ACode := .seq (.reg bits_Len64_r8) (.reg bits_Len64_r9)
def bits_Len64_c11 : ACode := .cond (.t 8) bits_Len64_c10 .skip
def bits_Len64_c12 : ACode := .seq (.reg bits_Len64_r7) bits_Len64_c11
@[go_sem] def bits_Len64_r13 : List AIns := [
  ⟨some 13, none, false, .mv (.t 0)⟩,
  ⟨some 14, none, false, .bin .geq .none (.t 13) (.v (.int .u64 (256)))⟩]
@[go_sem] def bits_Len64_r14 : List AIns := [
  ⟨some 15, none, false, .mv (.t 0)⟩,
  ⟨some 16, none, false, .bin .shr .none (.t 15) (.v (.int .u64 (8)))⟩,
  ⟨some 0, none, false, .mv (.t 16)⟩]
@[go_sem] def bits_Len64_r15 : List AIns := [
  ⟨some 17, none, false, .mv (.t 2)⟩,
  ⟨some 18, none, false, .bin .add .none (.t 17) (.v (.int .i64 (8)))⟩,
  ⟨some 2, none, false, .mv (.t 18)⟩]
def bits_Len64_c16 : ACode := .seq (.reg bits_Len64_r14) (.reg bits_Len64_r15)
def bits_Len64_c17 : ACode := .cond (.t 14) bits_Len64_c16 .skip
def bits_Len64_c18 : ACode := .seq (.reg bits_Len64_r13) bits_Len64_c17
@[go_sem] def bits_Len64_r19 : List AIns := [
  ⟨some 19, none, false, .mv (.t 2)⟩,
  ⟨some 20, none, false, .mv (.t 0)⟩,
  ⟨some 21, none, false, .conv (.int .u8) (.t 20)⟩,
  ⟨some 22, none, false, .ixStr (.v (.str bitsTab1)) (.t 21)⟩,
  ⟨some 23, none, false, .conv (.int .i64) (.t 22)⟩,
  ⟨some 24, none, false, .bin .add .none (.t 19) (.t 23)⟩,
  ⟨some 2, none, false, .mv (.t 24)⟩]
def bits_Len64_c20 : ACode := .seq (.reg bits_Len64_r19) .ret
def bits_Len64_c21 : ACode := .seq bits_Len64_c18 bits_Len64_c20
def bits_Len64_c22 : ACode := .seq bits_Len64_c12 bits_Len64_c21
def bits_Len64_c23 : ACode := .seq bits_Len64_c6 bits_Len64_c22
def bits_Len64_c24 : ACode := .seq (.reg bits_Len64_r0) bits_Len64_c23
theorem bits_Len64_ok : cFn TC 54 = some (25, [2], bits_Len64_c24) := by kernel_rfl
end Am
end Go.Proofs.Ytkffgmpbhahioaa
