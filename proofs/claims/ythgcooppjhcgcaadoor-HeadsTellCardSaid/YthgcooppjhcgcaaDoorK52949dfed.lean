import Derived.Test.YthgcooppjhcgcaaDoorK417f2c707
import Derived.Test.YthgcooppjhcgcaaDoorK3b0e420df
section
set_option linter.unusedSimpArgs false
set_option linter.unusedVariables false
/- Abstract code. (Printed by wip/gen.) -/
set_option maxRecDepth 10000
namespace Go.Proofs.YthgcooppjhcgcaaDoor
namespace Am



@[go_sem] def lamport_Leaf_r0 : List AIns := [
  ⟨some 2, none, .no, .alloc [(.int .u8 (0)), (.int .u8 (0)), (.int .u8 (0)), (.int .u8 (0)), (.int .u8 (0)), (.int .u8 (0)), (.int .u8 (0)), (.int .u8 (0)), (.int .u8 (0)), (.int .u8 (0)), (.int .u8 (0)), (.int .u8 (0)), (.int .u8 (0)), (.int .u8 (0)), (.int .u8 (0)), (.int .u8 (0)), (.int .u8 (0)), (.int .u8 (0)), (.int .u8 (0)), (.int .u8 (0)), (.int .u8 (0)), (.int .u8 (0)), (.int .u8 (0)), (.int .u8 (0)), (.int .u8 (0)), (.int .u8 (0)), (.int .u8 (0)), (.int .u8 (0)), (.int .u8 (0)), (.int .u8 (0)), (.int .u8 (0)), (.int .u8 (0))]⟩]
@[go_sem] def lamport_Leaf_r1 : List AIns := [
  ⟨some 6, none, .no, .mv (.t 0)⟩,
  ⟨some 7, none, .no, .lenSl (.t 6)⟩,
  ⟨some 8, none, .no, .bin .neq .none (.t 7) (.v (.int .i64 (512)))⟩]
@[go_sem] def lamport_Leaf_r2 : List AIns := [
  ⟨some 9, none, .no, .build [(.int .u8 (0)), (.int .u8 (0)), (.int .u8 (0)), (.int .u8 (0)), (.int .u8 (0)), (.int .u8 (0)), (.int .u8 (0)), (.int .u8 (0)), (.int .u8 (0)), (.int .u8 (0)), (.int .u8 (0)), (.int .u8 (0)), (.int .u8 (0)), (.int .u8 (0)), (.int .u8 (0)), (.int .u8 (0)), (.int .u8 (0)), (.int .u8 (0)), (.int .u8 (0)), (.int .u8 (0)), (.int .u8 (0)), (.int .u8 (0)), (.int .u8 (0)), (.int .u8 (0)), (.int .u8 (0)), (.int .u8 (0)), (.int .u8 (0)), (.int .u8 (0)), (.int .u8 (0)), (.int .u8 (0)), (.int .u8 (0)), (.int .u8 (0))] []⟩,
  ⟨none, none, .no, .store 32 (.t 2) (.t 9)⟩]
def lamport_Leaf_c3 : ACode := .seq (.reg lamport_Leaf_r2) .ret
def lamport_Leaf_c4 : ACode := .cond (.t 8) lamport_Leaf_c3 .skip
def lamport_Leaf_c5 : ACode := .seq (.reg lamport_Leaf_r1) lamport_Leaf_c4
@[go_sem] def lamport_Leaf_r6 : List AIns := [
  ⟨some 3, none, .no, .allB⟩]
@[go_sem] def lamport_Leaf_r7 : List AIns := [
  ⟨some 10, none, .no, .call (.v (.fn 154 [])) [(.t 3), (.v (.int .u8 (4)))]⟩]
@[go_sem] def lamport_Leaf_r8 : List AIns := [
  ⟨some 11, none, .no, .mv (.t 0)⟩,
  ⟨some 12, none, .no, .lenSl (.t 11)⟩,
  ⟨some 13, none, .no, .mv (.v (.int .i64 (0)))⟩]
@[go_sem] def lamport_Leaf_r9 : List AIns := [
  ⟨some 14, none, .no, .bin .lss .none (.t 13) (.t 12)⟩]
@[go_sem] def lamport_Leaf_r10 : List AIns := [
  ⟨some 15, none, .no, .iaSl 32 (.t 11) (.t 13)⟩,
  ⟨some 16, none, .no, .load true 32 (.t 15)⟩,
  ⟨some 5, none, .no, .alloc [(.int .u8 (0)), (.int .u8 (0)), (.int .u8 (0)), (.int .u8 (0)), (.int .u8 (0)), (.int .u8 (0)), (.int .u8 (0)), (.int .u8 (0)), (.int .u8 (0)), (.int .u8 (0)), (.int .u8 (0)), (.int .u8 (0)), (.int .u8 (0)), (.int .u8 (0)), (.int .u8 (0)), (.int .u8 (0)), (.int .u8 (0)), (.int .u8 (0)), (.int .u8 (0)), (.int .u8 (0)), (.int .u8 (0)), (.int .u8 (0)), (.int .u8 (0)), (.int .u8 (0)), (.int .u8 (0)), (.int .u8 (0)), (.int .u8 (0)), (.int .u8 (0)), (.int .u8 (0)), (.int .u8 (0)), (.int .u8 (0)), (.int .u8 (0))]⟩,
  ⟨none, none, .no, .store 32 (.t 5) (.t 16)⟩]
@[go_sem] def lamport_Leaf_r11 : List AIns := [
  ⟨some 17, none, .no, .load true 32 (.t 5)⟩,
  ⟨some 18, none, .no, .call (.v (.fn 112 [])) [(.t 17)]⟩,
  ⟨some 19, none, .no, .call (.v (.fn 152 [])) [(.t 3), (.t 18)]⟩]
def lamport_Leaf_c12 : ACode := .seq (.reg lamport_Leaf_r10) (.reg lamport_Leaf_r11)
@[go_sem] def lamport_Leaf_r13 : List AIns := [
  ⟨some 20, none, .no, .bin .add .none (.t 13) (.v (.int .i64 (1)))⟩,
  ⟨some 13, none, .no, .mv (.t 20)⟩]
def lamport_Leaf_c14 : ACode := .seq (.block 1 lamport_Leaf_c12) (.reg lamport_Leaf_r13)
def lamport_Leaf_c15 : ACode := .seq (.cond (.t 14) .skip (.exit 0)) lamport_Leaf_c14
def lamport_Leaf_c16 : ACode := .seq (.reg lamport_Leaf_r9) lamport_Leaf_c15
def lamport_Leaf_c17 : ACode := .loop lamport_Leaf_c16
def lamport_Leaf_c18 : ACode := .block 0 lamport_Leaf_c17
def lamport_Leaf_c19 : ACode := .seq (.reg lamport_Leaf_r8) lamport_Leaf_c18
@[go_sem] def lamport_Leaf_r20 : List AIns := [
  ⟨some 21, none, .no, .call (.v (.fn 153 [])) [(.t 3)]⟩,
  ⟨some 22, none, .no, .call (.v (.fn 95 [])) [(.t 21)]⟩,
  ⟨none, none, .no, .store 32 (.t 2) (.t 22)⟩]
def lamport_Leaf_c21 : ACode := .seq (.reg lamport_Leaf_r20) .ret
def lamport_Leaf_c22 : ACode := .seq lamport_Leaf_c19 lamport_Leaf_c21
def lamport_Leaf_c23 : ACode := .seq (.reg lamport_Leaf_r7) lamport_Leaf_c22
def lamport_Leaf_c24 : ACode := .seq (.reg lamport_Leaf_r6) lamport_Leaf_c23
def lamport_Leaf_c25 : ACode := .seq lamport_Leaf_c5 lamport_Leaf_c24
def lamport_Leaf_c26 : ACode := .seq (.reg lamport_Leaf_r0) lamport_Leaf_c25
theorem lamport_Leaf_ok : cFn TC 115 = some (23, [.c 2 true 32], lamport_Leaf_c26) := by kernel_rfl

@[go_sem] def speculumref08_Leaf_r0 : List AIns := [
  ⟨some 2, none, .no, .alloc [(.int .u8 (0)), (.int .u8 (0)), (.int .u8 (0)), (.int .u8 (0)), (.int .u8 (0)), (.int .u8 (0)), (.int .u8 (0)), (.int .u8 (0)), (.int .u8 (0)), (.int .u8 (0)), (.int .u8 (0)), (.int .u8 (0)), (.int .u8 (0)), (.int .u8 (0)), (.int .u8 (0)), (.int .u8 (0)), (.int .u8 (0)), (.int .u8 (0)), (.int .u8 (0)), (.int .u8 (0)), (.int .u8 (0)), (.int .u8 (0)), (.int .u8 (0)), (.int .u8 (0)), (.int .u8 (0)), (.int .u8 (0)), (.int .u8 (0)), (.int .u8 (0)), (.int .u8 (0)), (.int .u8 (0)), (.int .u8 (0)), (.int .u8 (0))]⟩]
@[go_sem] def speculumref08_Leaf_r1 : List AIns := [
  ⟨some 5, none, .no, .mv (.t 0)⟩,
  ⟨some 6, none, .no, .lenSl (.t 5)⟩,
  ⟨some 7, none, .no, .bin .neq .none (.t 6) (.v (.int .i64 (512)))⟩]
@[go_sem] def speculumref08_Leaf_r2 : List AIns := [
  ⟨some 8, none, .no, .build [(.int .u8 (0)), (.int .u8 (0)), (.int .u8 (0)), (.int .u8 (0)), (.int .u8 (0)), (.int .u8 (0)), (.int .u8 (0)), (.int .u8 (0)), (.int .u8 (0)), (.int .u8 (0)), (.int .u8 (0)), (.int .u8 (0)), (.int .u8 (0)), (.int .u8 (0)), (.int .u8 (0)), (.int .u8 (0)), (.int .u8 (0)), (.int .u8 (0)), (.int .u8 (0)), (.int .u8 (0)), (.int .u8 (0)), (.int .u8 (0)), (.int .u8 (0)), (.int .u8 (0)), (.int .u8 (0)), (.int .u8 (0)), (.int .u8 (0)), (.int .u8 (0)), (.int .u8 (0)), (.int .u8 (0)), (.int .u8 (0)), (.int .u8 (0))] []⟩,
  ⟨none, none, .no, .store 32 (.t 2) (.t 8)⟩]
def speculumref08_Leaf_c3 : ACode := .seq (.reg speculumref08_Leaf_r2) .ret
def speculumref08_Leaf_c4 : ACode := .cond (.t 7) speculumref08_Leaf_c3 .skip
def speculumref08_Leaf_c5 : ACode := .seq (.reg speculumref08_Leaf_r1) speculumref08_Leaf_c4
@[go_sem] def speculumref08_Leaf_r6 : List AIns := [
  ⟨some 9, none, .no, .lit 1 [(.v (.int .u8 (4)))]⟩,
  ⟨some 3, none, .no, .mv (.t 9)⟩]
@[go_sem] def speculumref08_Leaf_r7 : List AIns := [
  ⟨some 4, none, .no, .mv (.v (.int .i64 (0)))⟩]
@[go_sem] def speculumref08_Leaf_r8 : List AIns := [
  ⟨some 10, none, .no, .mv (.t 4)⟩,
  ⟨some 11, none, .no, .bin .lss .none (.t 10) (.v (.int .i64 (512)))⟩]
def speculumref08_Leaf_c9 : ACode := .cond (.t 11) .skip (.exit 0)
def speculumref08_Leaf_c10 : ACode := .seq (.reg speculumref08_Leaf_r8) speculumref08_Leaf_c9
@[go_sem] def speculumref08_Leaf_r11 : List AIns := [
  ⟨some 14, none, .no, .mv (.t 3)⟩,
  ⟨some 15, none, .no, .mv (.t 0)⟩,
  ⟨some 16, none, .no, .mv (.t 4)⟩,
  ⟨some 17, none, .no, .iaSl 32 (.t 15) (.t 16)⟩,
  ⟨some 18, none, .no, .slice (.arr 32 1) (.t 17) none none none⟩,
  ⟨some 19, none, .no, .appB (.t 14) (.t 18)⟩,
  ⟨some 3, none, .no, .mv (.t 19)⟩]
@[go_sem] def speculumref08_Leaf_r12 : List AIns := [
  ⟨some 12, none, .no, .mv (.t 4)⟩,
  ⟨some 13, none, .no, .bin .add .none (.t 12) (.v (.int .i64 (1)))⟩,
  ⟨some 4, none, .no, .mv (.t 13)⟩]
def speculumref08_Leaf_c13 : ACode := .seq (.block 1 (.reg speculumref08_Leaf_r11)) (.reg speculumref08_Leaf_r12)
def speculumref08_Leaf_c14 : ACode := .seq speculumref08_Leaf_c10 speculumref08_Leaf_c13
def speculumref08_Leaf_c15 : ACode := .loop speculumref08_Leaf_c14
def speculumref08_Leaf_c16 : ACode := .block 0 speculumref08_Leaf_c15
def speculumref08_Leaf_c17 : ACode := .seq (.reg speculumref08_Leaf_r7) speculumref08_Leaf_c16
@[go_sem] def speculumref08_Leaf_r18 : List AIns := [
  ⟨some 20, none, .no, .mv (.t 3)⟩,
  ⟨some 21, none, .no, .conv .str (.t 20)⟩,
  ⟨some 22, none, .no, .call (.v (.fn 88 [])) [(.t 21)]⟩,
  ⟨none, none, .no, .store 32 (.t 2) (.t 22)⟩]
def speculumref08_Leaf_c19 : ACode := .seq (.reg speculumref08_Leaf_r18) .ret
def speculumref08_Leaf_c20 : ACode := .seq speculumref08_Leaf_c17 speculumref08_Leaf_c19
def speculumref08_Leaf_c21 : ACode := .seq (.reg speculumref08_Leaf_r6) speculumref08_Leaf_c20
def speculumref08_Leaf_c22 : ACode := .seq speculumref08_Leaf_c5 speculumref08_Leaf_c21
def speculumref08_Leaf_c23 : ACode := .seq (.reg speculumref08_Leaf_r0) speculumref08_Leaf_c22
theorem speculumref08_Leaf_ok : cFn TC 117 = some (23, [.c 2 true 32], speculumref08_Leaf_c23) := by kernel_rfl

@[go_sem] def lamport_Recover_r0 : List AIns := [
  ⟨some 3, none, .no, .box (.t 1)⟩,
  ⟨some 4, none, .no, .alloc [(.int .u8 (0)), (.int .u8 (0)), (.int .u8 (0)), (.int .u8 (0)), (.int .u8 (0)), (.int .u8 (0)), (.int .u8 (0)), (.int .u8 (0)), (.int .u8 (0)), (.int .u8 (0)), (.int .u8 (0)), (.int .u8 (0)), (.int .u8 (0)), (.int .u8 (0)), (.int .u8 (0)), (.int .u8 (0)), (.int .u8 (0)), (.int .u8 (0)), (.int .u8 (0)), (.int .u8 (0)), (.int .u8 (0)), (.int .u8 (0)), (.int .u8 (0)), (.int .u8 (0)), (.int .u8 (0)), (.int .u8 (0)), (.int .u8 (0)), (.int .u8 (0)), (.int .u8 (0)), (.int .u8 (0)), (.int .u8 (0)), (.int .u8 (0))]⟩,
  ⟨some 5, none, .no, .mv (.v (.int .i64 (0)))⟩]
@[go_sem] def lamport_Recover_r1 : List AIns := [
  ⟨some 12, none, .no, .mv (.t 0)⟩,
  ⟨some 13, none, .no, .lenStr (.t 12)⟩,
  ⟨some 14, none, .no, .bin .neq .none (.t 13) (.v (.int .i64 (16384)))⟩]
@[go_sem] def lamport_Recover_r2 : List AIns := [
  ⟨some 15, none, .no, .build [(.int .u8 (0)), (.int .u8 (0)), (.int .u8 (0)), (.int .u8 (0)), (.int .u8 (0)), (.int .u8 (0)), (.int .u8 (0)), (.int .u8 (0)), (.int .u8 (0)), (.int .u8 (0)), (.int .u8 (0)), (.int .u8 (0)), (.int .u8 (0)), (.int .u8 (0)), (.int .u8 (0)), (.int .u8 (0)), (.int .u8 (0)), (.int .u8 (0)), (.int .u8 (0)), (.int .u8 (0)), (.int .u8 (0)), (.int .u8 (0)), (.int .u8 (0)), (.int .u8 (0)), (.int .u8 (0)), (.int .u8 (0)), (.int .u8 (0)), (.int .u8 (0)), (.int .u8 (0)), (.int .u8 (0)), (.int .u8 (0)), (.int .u8 (0))] []⟩,
  ⟨none, none, .no, .store 32 (.t 4) (.t 15)⟩,
  ⟨some 5, none, .no, .mv (.v (.int .i64 (10)))⟩]
def lamport_Recover_c3 : ACode := .seq (.reg lamport_Recover_r2) .ret
def lamport_Recover_c4 : ACode := .cond (.t 14) lamport_Recover_c3 .skip
def lamport_Recover_c5 : ACode := .seq (.reg lamport_Recover_r1) lamport_Recover_c4
@[go_sem] def lamport_Recover_r6 : List AIns := [
  ⟨some 16, none, .no, .load true 32 (.t 3)⟩,
  ⟨some 17, none, .no, .call (.v (.fn 112 [])) [(.t 16)]⟩,
  ⟨some 6, none, .no, .mv (.t 17)⟩]
@[go_sem] def lamport_Recover_r7 : List AIns := [
  ⟨some 18, none, .no, .make 32 [(.int .u8 (0)), (.int .u8 (0)), (.int .u8 (0)), (.int .u8 (0)), (.int .u8 (0)), (.int .u8 (0)), (.int .u8 (0)), (.int .u8 (0)), (.int .u8 (0)), (.int .u8 (0)), (.int .u8 (0)), (.int .u8 (0)), (.int .u8 (0)), (.int .u8 (0)), (.int .u8 (0)), (.int .u8 (0)), (.int .u8 (0)), (.int .u8 (0)), (.int .u8 (0)), (.int .u8 (0)), (.int .u8 (0)), (.int .u8 (0)), (.int .u8 (0)), (.int .u8 (0)), (.int .u8 (0)), (.int .u8 (0)), (.int .u8 (0)), (.int .u8 (0)), (.int .u8 (0)), (.int .u8 (0)), (.int .u8 (0)), (.int .u8 (0))] (.v (.int .i64 (512))) (.v (.int .i64 (512)))⟩,
  ⟨some 7, none, .no, .mv (.t 18)⟩]
@[go_sem] def lamport_Recover_r8 : List AIns := [
  ⟨some 19, none, .no, .mv (.v (.int .i64 (0)))⟩]
@[go_sem] def lamport_Recover_r9 : List AIns := [
  ⟨some 20, none, .no, .bin .lss .none (.t 19) (.v (.int .i64 (256)))⟩]
@[go_sem] def lamport_Recover_r10 : List AIns := [
  ⟨some 21, none, .no, .mv (.t 19)⟩,
  ⟨some 8, none, .no, .mv (.t 21)⟩]
@[go_sem] def lamport_Recover_r11 : List AIns := [
  ⟨some 22, none, .no, .mv (.t 6)⟩,
  ⟨some 23, none, .no, .mv (.t 8)⟩,
  ⟨some 24, none, .no, .call (.v (.fn 159 [])) [(.t 22), (.t 23)]⟩,
  ⟨some 9, none, .no, .mv (.t 24)⟩]
@[go_sem] def lamport_Recover_r12 : List AIns := [
  ⟨some 25, none, .no, .mv (.t 0)⟩,
  ⟨some 26, none, .no, .mv (.t 8)⟩,
  ⟨some 27, none, .no, .bin .mul .none (.t 26) (.v (.int .i64 (32)))⟩,
  ⟨some 28, none, .no, .mv (.t 8)⟩,
  ⟨some 29, none, .no, .bin .add .none (.t 28) (.v (.int .i64 (1)))⟩,
  ⟨some 30, none, .no, .bin .mul .none (.t 29) (.v (.int .i64 (32)))⟩,
  ⟨some 31, none, .no, .slice .str (.t 25) (some (.t 27)) (some (.t 30)) none⟩,
  ⟨some 32, none, .no, .mv (.t 0)⟩,
  ⟨some 33, none, .no, .mv (.t 8)⟩,
  ⟨some 34, none, .no, .bin .add .none (.v (.int .i64 (256))) (.t 33)⟩,
  ⟨some 35, none, .no, .bin .mul .none (.t 34) (.v (.int .i64 (32)))⟩,
  ⟨some 36, none, .no, .slice .str (.t 32) (some (.t 35)) none none⟩,
  ⟨some 10, none, .no, .mv (.t 31)⟩,
  ⟨some 11, none, .no, .mv (.t 36)⟩]
@[go_sem] def lamport_Recover_r13 : List AIns := [
  ⟨some 37, none, .no, .mv (.t 7)⟩,
  ⟨some 38, none, .no, .mv (.t 8)⟩,
  ⟨some 39, none, .no, .bin .mul .none (.v (.int .i64 (2))) (.t 38)⟩,
  ⟨some 40, none, .no, .mv (.t 9)⟩,
  ⟨some 41, none, .no, .bin .add .none (.t 39) (.t 40)⟩,
  ⟨some 42, none, .no, .mv (.t 10)⟩,
  ⟨some 43, none, .no, .call (.v (.fn 155 [])) [(.t 42)]⟩,
  ⟨some 44, none, .no, .iaSl 32 (.t 37) (.t 41)⟩,
  ⟨none, none, .no, .store 32 (.t 44) (.t 43)⟩]
@[go_sem] def lamport_Recover_r14 : List AIns := [
  ⟨some 46, none, .no, .mv (.t 7)⟩,
  ⟨some 47, none, .no, .mv (.t 8)⟩,
  ⟨some 48, none, .no, .bin .mul .none (.v (.int .i64 (2))) (.t 47)⟩,
  ⟨some 49, none, .no, .bin .add .none (.t 48) (.v (.int .i64 (1)))⟩,
  ⟨some 50, none, .no, .mv (.t 9)⟩,
  ⟨some 51, none, .no, .bin .sub .none (.t 49) (.t 50)⟩,
  ⟨some 52, none, .no, .mv (.t 11)⟩,
  ⟨some 53, none, .no, .call (.v (.fn 103 [])) [(.t 52)]⟩,
  ⟨some 45, none, .no, .mv (.t 53)⟩,
  ⟨some 54, none, .no, .ext 0 (.t 45)⟩,
  ⟨some 55, none, .no, .ext 1 (.t 45)⟩,
  ⟨some 56, none, .no, .ext 2 (.t 45)⟩,
  ⟨some 57, none, .no, .iaSl 32 (.t 46) (.t 51)⟩,
  ⟨none, none, .no, .store 32 (.t 57) (.t 54)⟩]
def lamport_Recover_c15 : ACode := .seq (.reg lamport_Recover_r13) (.reg lamport_Recover_r14)
def lamport_Recover_c16 : ACode := .seq (.reg lamport_Recover_r12) lamport_Recover_c15
def lamport_Recover_c17 : ACode := .seq (.reg lamport_Recover_r11) lamport_Recover_c16
def lamport_Recover_c18 : ACode := .seq (.reg lamport_Recover_r10) lamport_Recover_c17
@[go_sem] def lamport_Recover_r19 : List AIns := [
  ⟨some 58, none, .no, .bin .add .none (.t 19) (.v (.int .i64 (1)))⟩,
  ⟨some 19, none, .no, .mv (.t 58)⟩]
def lamport_Recover_c20 : ACode := .seq (.block 1 lamport_Recover_c18) (.reg lamport_Recover_r19)
def lamport_Recover_c21 : ACode := .seq (.cond (.t 20) .skip (.exit 0)) lamport_Recover_c20
def lamport_Recover_c22 : ACode := .seq (.reg lamport_Recover_r9) lamport_Recover_c21
def lamport_Recover_c23 : ACode := .loop lamport_Recover_c22
def lamport_Recover_c24 : ACode := .block 0 lamport_Recover_c23
def lamport_Recover_c25 : ACode := .seq (.reg lamport_Recover_r8) lamport_Recover_c24
@[go_sem] def lamport_Recover_r26 : List AIns := [
  ⟨some 59, none, .no, .mv (.t 7)⟩,
  ⟨some 60, none, .no, .call (.v (.fn 115 [])) [(.t 59)]⟩,
  ⟨none, none, .no, .store 32 (.t 4) (.t 60)⟩,
  ⟨some 5, none, .no, .mv (.v (.int .i64 (0)))⟩]
def lamport_Recover_c27 : ACode := .seq (.reg lamport_Recover_r26) .ret
def lamport_Recover_c28 : ACode := .seq lamport_Recover_c25 lamport_Recover_c27
def lamport_Recover_c29 : ACode := .seq (.reg lamport_Recover_r7) lamport_Recover_c28
def lamport_Recover_c30 : ACode := .seq (.reg lamport_Recover_r6) lamport_Recover_c29
def lamport_Recover_c31 : ACode := .seq lamport_Recover_c5 lamport_Recover_c30
def lamport_Recover_c32 : ACode := .seq (.reg lamport_Recover_r0) lamport_Recover_c31
theorem lamport_Recover_ok : cFn TC 123 = some (61, [.c 4 true 32, .t 5], lamport_Recover_c32) := by kernel_rfl

@[go_sem] def speculumref08_Recover_r0 : List AIns := [
  ⟨some 3, none, .no, .box (.t 1)⟩,
  ⟨some 4, none, .no, .alloc [(.int .u8 (0)), (.int .u8 (0)), (.int .u8 (0)), (.int .u8 (0)), (.int .u8 (0)), (.int .u8 (0)), (.int .u8 (0)), (.int .u8 (0)), (.int .u8 (0)), (.int .u8 (0)), (.int .u8 (0)), (.int .u8 (0)), (.int .u8 (0)), (.int .u8 (0)), (.int .u8 (0)), (.int .u8 (0)), (.int .u8 (0)), (.int .u8 (0)), (.int .u8 (0)), (.int .u8 (0)), (.int .u8 (0)), (.int .u8 (0)), (.int .u8 (0)), (.int .u8 (0)), (.int .u8 (0)), (.int .u8 (0)), (.int .u8 (0)), (.int .u8 (0)), (.int .u8 (0)), (.int .u8 (0)), (.int .u8 (0)), (.int .u8 (0))]⟩,
  ⟨some 5, none, .no, .mv (.v (.int .i64 (0)))⟩]
@[go_sem] def speculumref08_Recover_r1 : List AIns := [
  ⟨some 12, none, .no, .mv (.t 0)⟩,
  ⟨some 13, none, .no, .lenStr (.t 12)⟩,
  ⟨some 14, none, .no, .bin .neq .none (.t 13) (.v (.int .i64 (16384)))⟩]
@[go_sem] def speculumref08_Recover_r2 : List AIns := [
  ⟨some 15, none, .no, .build [(.int .u8 (0)), (.int .u8 (0)), (.int .u8 (0)), (.int .u8 (0)), (.int .u8 (0)), (.int .u8 (0)), (.int .u8 (0)), (.int .u8 (0)), (.int .u8 (0)), (.int .u8 (0)), (.int .u8 (0)), (.int .u8 (0)), (.int .u8 (0)), (.int .u8 (0)), (.int .u8 (0)), (.int .u8 (0)), (.int .u8 (0)), (.int .u8 (0)), (.int .u8 (0)), (.int .u8 (0)), (.int .u8 (0)), (.int .u8 (0)), (.int .u8 (0)), (.int .u8 (0)), (.int .u8 (0)), (.int .u8 (0)), (.int .u8 (0)), (.int .u8 (0)), (.int .u8 (0)), (.int .u8 (0)), (.int .u8 (0)), (.int .u8 (0))] []⟩,
  ⟨none, none, .no, .store 32 (.t 4) (.t 15)⟩,
  ⟨some 5, none, .no, .mv (.v (.int .i64 (10)))⟩]
def speculumref08_Recover_c3 : ACode := .seq (.reg speculumref08_Recover_r2) .ret
def speculumref08_Recover_c4 : ACode := .cond (.t 14) speculumref08_Recover_c3 .skip
def speculumref08_Recover_c5 : ACode := .seq (.reg speculumref08_Recover_r1) speculumref08_Recover_c4
@[go_sem] def speculumref08_Recover_r6 : List AIns := [
  ⟨some 16, none, .no, .make 32 [(.int .u8 (0)), (.int .u8 (0)), (.int .u8 (0)), (.int .u8 (0)), (.int .u8 (0)), (.int .u8 (0)), (.int .u8 (0)), (.int .u8 (0)), (.int .u8 (0)), (.int .u8 (0)), (.int .u8 (0)), (.int .u8 (0)), (.int .u8 (0)), (.int .u8 (0)), (.int .u8 (0)), (.int .u8 (0)), (.int .u8 (0)), (.int .u8 (0)), (.int .u8 (0)), (.int .u8 (0)), (.int .u8 (0)), (.int .u8 (0)), (.int .u8 (0)), (.int .u8 (0)), (.int .u8 (0)), (.int .u8 (0)), (.int .u8 (0)), (.int .u8 (0)), (.int .u8 (0)), (.int .u8 (0)), (.int .u8 (0)), (.int .u8 (0))] (.v (.int .i64 (512))) (.v (.int .i64 (512)))⟩,
  ⟨some 6, none, .no, .mv (.t 16)⟩]
@[go_sem] def speculumref08_Recover_r7 : List AIns := [
  ⟨some 7, none, .no, .mv (.v (.int .i64 (0)))⟩]
@[go_sem] def speculumref08_Recover_r8 : List AIns := [
  ⟨some 17, none, .no, .mv (.t 7)⟩,
  ⟨some 18, none, .no, .bin .lss .none (.t 17) (.v (.int .i64 (256)))⟩]
def speculumref08_Recover_c9 : ACode := .cond (.t 18) .skip (.exit 0)
def speculumref08_Recover_c10 : ACode := .seq (.reg speculumref08_Recover_r8) speculumref08_Recover_c9
@[go_sem] def speculumref08_Recover_r11 : List AIns := [
  ⟨some 21, none, .no, .slice (.arr 32 1) (.t 3) none none none⟩,
  ⟨some 22, none, .no, .conv .str (.t 21)⟩,
  ⟨some 23, none, .no, .mv (.t 7)⟩,
  ⟨some 24, none, .no, .call (.v (.fn 160 [])) [(.t 22), (.t 23)]⟩,
  ⟨some 8, none, .no, .mv (.t 24)⟩]
@[go_sem] def speculumref08_Recover_r12 : List AIns := [
  ⟨some 25, none, .no, .mv (.t 6)⟩,
  ⟨some 26, none, .no, .mv (.t 7)⟩,
  ⟨some 27, none, .no, .bin .mul .none (.v (.int .i64 (2))) (.t 26)⟩,
  ⟨some 28, none, .no, .mv (.t 8)⟩,
  ⟨some 29, none, .no, .bin .add .none (.t 27) (.t 28)⟩,
  ⟨some 30, none, .no, .mv (.t 0)⟩,
  ⟨some 31, none, .no, .mv (.t 7)⟩,
  ⟨some 32, none, .no, .bin .mul .none (.v (.int .i64 (32))) (.t 31)⟩,
  ⟨some 33, none, .no, .mv (.t 7)⟩,
  ⟨some 34, none, .no, .bin .mul .none (.v (.int .i64 (32))) (.t 33)⟩,
  ⟨some 35, none, .no, .bin .add .none (.t 34) (.v (.int .i64 (32)))⟩,
  ⟨some 36, none, .no, .slice .str (.t 30) (some (.t 32)) (some (.t 35)) none⟩,
  ⟨some 37, none, .no, .bin .add .none (.v (.str [3])) (.t 36)⟩,
  ⟨some 38, none, .no, .call (.v (.fn 88 [])) [(.t 37)]⟩,
  ⟨some 39, none, .no, .iaSl 32 (.t 25) (.t 29)⟩,
  ⟨none, none, .no, .store 32 (.t 39) (.t 38)⟩]
@[go_sem] def speculumref08_Recover_r13 : List AIns := [
  ⟨some 41, none, .no, .mv (.t 0)⟩,
  ⟨some 42, none, .no, .mv (.t 7)⟩,
  ⟨some 43, none, .no, .bin .mul .none (.v (.int .i64 (32))) (.t 42)⟩,
  ⟨some 44, none, .no, .bin .add .none (.v (.int .i64 (8192))) (.t 43)⟩,
  ⟨some 45, none, .no, .slice .str (.t 41) (some (.t 44)) none none⟩,
  ⟨some 46, none, .no, .call (.v (.fn 108 [])) [(.t 45)]⟩,
  ⟨some 40, none, .no, .mv (.t 46)⟩,
  ⟨some 47, none, .no, .ext 0 (.t 40)⟩,
  ⟨some 48, none, .no, .ext 1 (.t 40)⟩,
  ⟨some 49, none, .no, .ext 2 (.t 40)⟩,
  ⟨some 9, none, .no, .alloc [(.int .u8 (0)), (.int .u8 (0)), (.int .u8 (0)), (.int .u8 (0)), (.int .u8 (0)), (.int .u8 (0)), (.int .u8 (0)), (.int .u8 (0)), (.int .u8 (0)), (.int .u8 (0)), (.int .u8 (0)), (.int .u8 (0)), (.int .u8 (0)), (.int .u8 (0)), (.int .u8 (0)), (.int .u8 (0)), (.int .u8 (0)), (.int .u8 (0)), (.int .u8 (0)), (.int .u8 (0)), (.int .u8 (0)), (.int .u8 (0)), (.int .u8 (0)), (.int .u8 (0)), (.int .u8 (0)), (.int .u8 (0)), (.int .u8 (0)), (.int .u8 (0)), (.int .u8 (0)), (.int .u8 (0)), (.int .u8 (0)), (.int .u8 (0))]⟩,
  ⟨none, none, .no, .store 32 (.t 9) (.t 47)⟩,
  ⟨some 10, none, .no, .mv (.t 48)⟩,
  ⟨some 11, none, .no, .mv (.t 49)⟩]
@[go_sem] def speculumref08_Recover_r14 : List AIns := [
  ⟨some 50, none, .no, .mv (.t 6)⟩,
  ⟨some 51, none, .no, .mv (.t 7)⟩,
  ⟨some 52, none, .no, .bin .mul .none (.v (.int .i64 (2))) (.t 51)⟩,
  ⟨some 53, none, .no, .bin .add .none (.t 52) (.v (.int .i64 (1)))⟩,
  ⟨some 54, none, .no, .mv (.t 8)⟩,
  ⟨some 55, none, .no, .bin .sub .none (.t 53) (.t 54)⟩,
  ⟨some 56, none, .no, .load true 32 (.t 9)⟩,
  ⟨some 57, none, .no, .iaSl 32 (.t 50) (.t 55)⟩,
  ⟨none, none, .no, .store 32 (.t 57) (.t 56)⟩]
def speculumref08_Recover_c15 : ACode := .seq (.reg speculumref08_Recover_r13) (.reg speculumref08_Recover_r14)
def speculumref08_Recover_c16 : ACode := .seq (.reg speculumref08_Recover_r12) speculumref08_Recover_c15
def speculumref08_Recover_c17 : ACode := .seq (.reg speculumref08_Recover_r11) speculumref08_Recover_c16
@[go_sem] def speculumref08_Recover_r18 : List AIns := [
  ⟨some 19, none, .no, .mv (.t 7)⟩,
  ⟨some 20, none, .no, .bin .add .none (.t 19) (.v (.int .i64 (1)))⟩,
  ⟨some 7, none, .no, .mv (.t 20)⟩]
def speculumref08_Recover_c19 : ACode := .seq (.block 1 speculumref08_Recover_c17) (.reg speculumref08_Recover_r18)
def speculumref08_Recover_c20 : ACode := .seq speculumref08_Recover_c10 speculumref08_Recover_c19
def speculumref08_Recover_c21 : ACode := .loop speculumref08_Recover_c20
def speculumref08_Recover_c22 : ACode := .block 0 speculumref08_Recover_c21
def speculumref08_Recover_c23 : ACode := .seq (.reg speculumref08_Recover_r7) speculumref08_Recover_c22
@[go_sem] def speculumref08_Recover_r24 : List AIns := [
  ⟨some 58, none, .no, .mv (.t 6)⟩,
  ⟨some 59, none, .no, .call (.v (.fn 117 [])) [(.t 58)]⟩,
  ⟨none, none, .no, .store 32 (.t 4) (.t 59)⟩,
  ⟨some 5, none, .no, .mv (.v (.int .i64 (0)))⟩]
def speculumref08_Recover_c25 : ACode := .seq (.reg speculumref08_Recover_r24) .ret
def speculumref08_Recover_c26 : ACode := .seq speculumref08_Recover_c23 speculumref08_Recover_c25
def speculumref08_Recover_c27 : ACode := .seq (.reg speculumref08_Recover_r6) speculumref08_Recover_c26
def speculumref08_Recover_c28 : ACode := .seq speculumref08_Recover_c5 speculumref08_Recover_c27
def speculumref08_Recover_c29 : ACode := .seq (.reg speculumref08_Recover_r0) speculumref08_Recover_c28
theorem speculumref08_Recover_ok : cFn TC 125 = some (60, [.c 4 true 32, .t 5], speculumref08_Recover_c29) := by kernel_rfl

@[go_sem] def __strings_Builder__WriteString_r0 : List AIns := [
  ⟨some 4, none, .no, .mv (.v (.int .i64 (0)))⟩,
  ⟨some 5, none, .no, .mv (.v .any)⟩]
@[go_sem] def __strings_Builder__WriteString_r1 : List AIns := [
  ⟨some 6, none, .no, .mv (.t 0)⟩,
  ⟨some 7, none, .no, .call (.v (.fn 172 [])) [(.t 6)]⟩]
@[go_sem] def __strings_Builder__WriteString_r2 : List AIns := [
  ⟨some 8, none, .no, .mv (.t 0)⟩,
  ⟨some 9, none, .no, .mv (.t 0)⟩,
  ⟨some 10, none, .no, .nilc (.t 9)⟩,
  ⟨some 11, none, .no, .fa 1 (.t 10)⟩,
  ⟨some 12, none, .no, .load false 1 (.t 11)⟩,
  ⟨some 13, none, .no, .mv (.t 1)⟩,
  ⟨some 14, none, .no, .appB (.t 12) (.t 13)⟩,
  ⟨some 15, none, .no, .nilc (.t 8)⟩,
  ⟨some 16, none, .no, .fa 1 (.t 15)⟩,
  ⟨none, none, .no, .store 1 (.t 16) (.t 14)⟩]
@[go_sem] def __strings_Builder__WriteString_r3 : List AIns := [
  ⟨some 17, none, .no, .mv (.t 1)⟩,
  ⟨some 18, none, .no, .lenStr (.t 17)⟩,
  ⟨some 4, none, .no, .mv (.t 18)⟩,
  ⟨some 5, none, .no, .mv (.v .any)⟩]
def __strings_Builder__WriteString_c4 : ACode := .seq (.reg __strings_Builder__WriteString_r3) .ret
def __strings_Builder__WriteString_c5 : ACode := .seq (.reg __strings_Builder__WriteString_r2) __strings_Builder__WriteString_c4
def __strings_Builder__WriteString_c6 : ACode := .seq (.reg __strings_Builder__WriteString_r1) __strings_Builder__WriteString_c5
def __strings_Builder__WriteString_c7 : ACode := .seq (.reg __strings_Builder__WriteString_r0) __strings_Builder__WriteString_c6
theorem __strings_Builder__WriteString_ok : cFn TC 152 = some (19, [.t 4, .t 5], __strings_Builder__WriteString_c7) := by kernel_rfl

@[go_sem] def __strings_Builder__WriteByte_r0 : List AIns := [
  ⟨some 4, none, .no, .mv (.v .any)⟩]
@[go_sem] def __strings_Builder__WriteByte_r1 : List AIns := [
  ⟨some 5, none, .no, .mv (.t 0)⟩,
  ⟨some 6, none, .no, .call (.v (.fn 172 [])) [(.t 5)]⟩]
@[go_sem] def __strings_Builder__WriteByte_r2 : List AIns := [
  ⟨some 7, none, .no, .mv (.t 0)⟩,
  ⟨some 8, none, .no, .mv (.t 0)⟩,
  ⟨some 9, none, .no, .nilc (.t 8)⟩,
  ⟨some 10, none, .no, .fa 1 (.t 9)⟩,
  ⟨some 11, none, .no, .load false 1 (.t 10)⟩,
  ⟨some 12, none, .no, .mv (.t 1)⟩,
  ⟨some 13, none, .no, .lit 1 [(.t 12)]⟩,
  ⟨some 14, none, .no, .appB (.t 11) (.t 13)⟩,
  ⟨some 15, none, .no, .nilc (.t 7)⟩,
  ⟨some 16, none, .no, .fa 1 (.t 15)⟩,
  ⟨none, none, .no, .store 1 (.t 16) (.t 14)⟩]
@[go_sem] def __strings_Builder__WriteByte_r3 : List AIns := [
  ⟨some 4, none, .no, .mv (.v .any)⟩]
def __strings_Builder__WriteByte_c4 : ACode := .seq (.reg __strings_Builder__WriteByte_r3) .ret
def __strings_Builder__WriteByte_c5 : ACode := .seq (.reg __strings_Builder__WriteByte_r2) __strings_Builder__WriteByte_c4
def __strings_Builder__WriteByte_c6 : ACode := .seq (.reg __strings_Builder__WriteByte_r1) __strings_Builder__WriteByte_c5
def __strings_Builder__WriteByte_c7 : ACode := .seq (.reg __strings_Builder__WriteByte_r0) __strings_Builder__WriteByte_c6
theorem __strings_Builder__WriteByte_ok : cFn TC 154 = some (17, [.t 4], __strings_Builder__WriteByte_c7) := by kernel_rfl

@[go_sem] def lamport_shown_r0 : List AIns := [
  ⟨some 2, none, .no, .alloc [(.int .u8 (0)), (.int .u8 (0)), (.int .u8 (0)), (.int .u8 (0)), (.int .u8 (0)), (.int .u8 (0)), (.int .u8 (0)), (.int .u8 (0)), (.int .u8 (0)), (.int .u8 (0)), (.int .u8 (0)), (.int .u8 (0)), (.int .u8 (0)), (.int .u8 (0)), (.int .u8 (0)), (.int .u8 (0)), (.int .u8 (0)), (.int .u8 (0)), (.int .u8 (0)), (.int .u8 (0)), (.int .u8 (0)), (.int .u8 (0)), (.int .u8 (0)), (.int .u8 (0)), (.int .u8 (0)), (.int .u8 (0)), (.int .u8 (0)), (.int .u8 (0)), (.int .u8 (0)), (.int .u8 (0)), (.int .u8 (0)), (.int .u8 (0))]⟩]
@[go_sem] def lamport_shown_r1 : List AIns := [
  ⟨some 3, none, .no, .mv (.t 0)⟩,
  ⟨some 4, none, .no, .bin .add .none (.v (.str [3])) (.t 3)⟩,
  ⟨some 5, none, .no, .call (.v (.fn 95 [])) [(.t 4)]⟩,
  ⟨none, none, .no, .store 32 (.t 2) (.t 5)⟩]
def lamport_shown_c2 : ACode := .seq (.reg lamport_shown_r1) .ret
def lamport_shown_c3 : ACode := .seq (.reg lamport_shown_r0) lamport_shown_c2
theorem lamport_shown_ok : cFn TC 155 = some (6, [.c 2 true 32], lamport_shown_c3) := by kernel_rfl

end Am
end Go.Proofs.YthgcooppjhcgcaaDoor
end
section
set_option linter.unusedSimpArgs false
set_option linter.unusedVariables false
/- Abstract code. (Printed by wip/gen.) -/
set_option maxRecDepth 10000
namespace Go.Proofs.YthgcooppjhcgcaaDoor
namespace Am



@[go_sem] def keytree_Verify_r0 : List AIns := [
  ⟨some 3, none, .no, .box (.t 0)⟩,
  ⟨some 4, none, .no, .box (.t 1)⟩,
  ⟨some 5, none, .no, .box (.t 2)⟩,
  ⟨some 6, none, .no, .mv (.v (.int .i64 (0)))⟩]
@[go_sem] def keytree_Verify_r1 : List AIns := [
  ⟨some 9, none, .no, .fa 0 (.t 5)⟩,
  ⟨some 10, none, .no, .load false 1 (.t 9)⟩,
  ⟨some 11, none, .no, .bin .lss .none (.t 10) (.v (.int .i64 (0)))⟩,
  ⟨some 12, none, .no, .mv (.t 11)⟩,
  ⟨some 13, some (12, false), .no, .fa 0 (.t 5)⟩,
  ⟨some 14, some (12, false), .no, .load false 1 (.t 13)⟩,
  ⟨some 15, some (12, false), .no, .bin .geq .none (.t 14) (.v (.int .i64 (8)))⟩,
  ⟨some 16, none, .no, .pick (.t 12) (.v (.bool true)) (.t 15)⟩]
@[go_sem] def keytree_Verify_r2 : List AIns := [
  ⟨some 6, none, .no, .mv (.v (.int .i64 (2)))⟩]
def keytree_Verify_c3 : ACode := .seq (.reg keytree_Verify_r2) .ret
def keytree_Verify_c4 : ACode := .cond (.t 16) keytree_Verify_c3 .skip
def keytree_Verify_c5 : ACode := .seq (.reg keytree_Verify_r1) keytree_Verify_c4
@[go_sem] def keytree_Verify_r6 : List AIns := [
  ⟨some 18, none, .no, .fa 1 (.t 5)⟩,
  ⟨some 19, none, .no, .load false 1 (.t 18)⟩,
  ⟨some 20, none, .no, .load true 32 (.t 4)⟩,
  ⟨some 21, none, .no, .call (.v (.fn 123 [])) [(.t 19), (.t 20)]⟩,
  ⟨some 17, none, .no, .mv (.t 21)⟩,
  ⟨some 22, none, .no, .ext 0 (.t 17)⟩,
  ⟨some 23, none, .no, .ext 1 (.t 17)⟩,
  ⟨some 7, none, .no, .alloc [(.int .u8 (0)), (.int .u8 (0)), (.int .u8 (0)), (.int .u8 (0)), (.int .u8 (0)), (.int .u8 (0)), (.int .u8 (0)), (.int .u8 (0)), (.int .u8 (0)), (.int .u8 (0)), (.int .u8 (0)), (.int .u8 (0)), (.int .u8 (0)), (.int .u8 (0)), (.int .u8 (0)), (.int .u8 (0)), (.int .u8 (0)), (.int .u8 (0)), (.int .u8 (0)), (.int .u8 (0)), (.int .u8 (0)), (.int .u8 (0)), (.int .u8 (0)), (.int .u8 (0)), (.int .u8 (0)), (.int .u8 (0)), (.int .u8 (0)), (.int .u8 (0)), (.int .u8 (0)), (.int .u8 (0)), (.int .u8 (0)), (.int .u8 (0))]⟩,
  ⟨none, none, .no, .store 32 (.t 7) (.t 22)⟩,
  ⟨some 8, none, .no, .mv (.t 23)⟩]
@[go_sem] def keytree_Verify_r7 : List AIns := [
  ⟨some 24, none, .no, .mv (.t 8)⟩,
  ⟨some 25, none, .no, .bin .neq .none (.t 24) (.v (.int .i64 (0)))⟩,
  ⟨some 26, none, .no, .mv (.t 25)⟩,
  ⟨some 27, some (26, false), .no, .load true 32 (.t 7)⟩,
  ⟨some 28, some (26, false), .no, .fa 0 (.t 5)⟩,
  ⟨some 29, some (26, false), .no, .load false 1 (.t 28)⟩,
  ⟨some 30, some (26, false), .no, .fa 2 (.t 5)⟩,
  ⟨some 31, some (26, false), .no, .load false 1 (.t 30)⟩,
  ⟨some 32, some (26, false), .no, .load true 32 (.t 3)⟩,
  ⟨some 33, some (26, false), .no, .call (.v (.fn 124 [])) [(.t 27), (.t 29), (.v (.int .i64 (8))), (.t 31), (.t 32)]⟩,
  ⟨some 34, some (26, false), .no, .bin .neq .none (.t 33) (.v (.int .i64 (0)))⟩,
  ⟨some 35, none, .no, .pick (.t 26) (.v (.bool true)) (.t 34)⟩]
@[go_sem] def keytree_Verify_r8 : List AIns := [
  ⟨some 6, none, .no, .mv (.v (.int .i64 (81)))⟩]
def keytree_Verify_c9 : ACode := .seq (.reg keytree_Verify_r8) .ret
def keytree_Verify_c10 : ACode := .cond (.t 35) keytree_Verify_c9 .skip
def keytree_Verify_c11 : ACode := .seq (.reg keytree_Verify_r7) keytree_Verify_c10
@[go_sem] def keytree_Verify_r12 : List AIns := [
  ⟨some 6, none, .no, .mv (.v (.int .i64 (0)))⟩]
def keytree_Verify_c13 : ACode := .seq (.reg keytree_Verify_r12) .ret
def keytree_Verify_c14 : ACode := .seq keytree_Verify_c11 keytree_Verify_c13
def keytree_Verify_c15 : ACode := .seq (.reg keytree_Verify_r6) keytree_Verify_c14
def keytree_Verify_c16 : ACode := .seq keytree_Verify_c5 keytree_Verify_c15
def keytree_Verify_c17 : ACode := .seq (.reg keytree_Verify_r0) keytree_Verify_c16
theorem keytree_Verify_ok : cFn TC 47 = some (36, [.t 6], keytree_Verify_c17) := by kernel_rfl

@[go_sem] def speculumref09_Verify_r0 : List AIns := [
  ⟨some 3, none, .no, .box (.t 0)⟩,
  ⟨some 4, none, .no, .box (.t 1)⟩,
  ⟨some 5, none, .no, .box (.t 2)⟩,
  ⟨some 6, none, .no, .mv (.v (.int .i64 (0)))⟩]
@[go_sem] def speculumref09_Verify_r1 : List AIns := [
  ⟨some 9, none, .no, .fa 0 (.t 5)⟩,
  ⟨some 10, none, .no, .load false 1 (.t 9)⟩,
  ⟨some 11, none, .no, .bin .lss .none (.t 10) (.v (.int .i64 (0)))⟩,
  ⟨some 12, none, .no, .mv (.t 11)⟩,
  ⟨some 13, some (12, false), .no, .fa 0 (.t 5)⟩,
  ⟨some 14, some (12, false), .no, .load false 1 (.t 13)⟩,
  ⟨some 15, some (12, false), .no, .bin .gtr .none (.t 14) (.v (.int .i64 (7)))⟩,
  ⟨some 16, none, .no, .pick (.t 12) (.v (.bool true)) (.t 15)⟩]
@[go_sem] def speculumref09_Verify_r2 : List AIns := [
  ⟨some 6, none, .no, .mv (.v (.int .i64 (2)))⟩]
def speculumref09_Verify_c3 : ACode := .seq (.reg speculumref09_Verify_r2) .ret
def speculumref09_Verify_c4 : ACode := .cond (.t 16) speculumref09_Verify_c3 .skip
def speculumref09_Verify_c5 : ACode := .seq (.reg speculumref09_Verify_r1) speculumref09_Verify_c4
@[go_sem] def speculumref09_Verify_r6 : List AIns := [
  ⟨some 18, none, .no, .fa 1 (.t 5)⟩,
  ⟨some 19, none, .no, .load false 1 (.t 18)⟩,
  ⟨some 20, none, .no, .load true 32 (.t 4)⟩,
  ⟨some 21, none, .no, .call (.v (.fn 125 [])) [(.t 19), (.t 20)]⟩,
  ⟨some 17, none, .no, .mv (.t 21)⟩,
  ⟨some 22, none, .no, .ext 0 (.t 17)⟩,
  ⟨some 23, none, .no, .ext 1 (.t 17)⟩,
  ⟨some 7, none, .no, .alloc [(.int .u8 (0)), (.int .u8 (0)), (.int .u8 (0)), (.int .u8 (0)), (.int .u8 (0)), (.int .u8 (0)), (.int .u8 (0)), (.int .u8 (0)), (.int .u8 (0)), (.int .u8 (0)), (.int .u8 (0)), (.int .u8 (0)), (.int .u8 (0)), (.int .u8 (0)), (.int .u8 (0)), (.int .u8 (0)), (.int .u8 (0)), (.int .u8 (0)), (.int .u8 (0)), (.int .u8 (0)), (.int .u8 (0)), (.int .u8 (0)), (.int .u8 (0)), (.int .u8 (0)), (.int .u8 (0)), (.int .u8 (0)), (.int .u8 (0)), (.int .u8 (0)), (.int .u8 (0)), (.int .u8 (0)), (.int .u8 (0)), (.int .u8 (0))]⟩,
  ⟨none, none, .no, .store 32 (.t 7) (.t 22)⟩,
  ⟨some 8, none, .no, .mv (.t 23)⟩]
@[go_sem] def speculumref09_Verify_r7 : List AIns := [
  ⟨some 24, none, .no, .mv (.t 8)⟩,
  ⟨some 25, none, .no, .bin .eql .none (.t 24) (.v (.int .i64 (0)))⟩,
  ⟨some 26, none, .no, .mv (.t 25)⟩,
  ⟨some 27, some (26, true), .no, .load true 32 (.t 7)⟩,
  ⟨some 28, some (26, true), .no, .fa 0 (.t 5)⟩,
  ⟨some 29, some (26, true), .no, .load false 1 (.t 28)⟩,
  ⟨some 30, some (26, true), .no, .fa 2 (.t 5)⟩,
  ⟨some 31, some (26, true), .no, .load false 1 (.t 30)⟩,
  ⟨some 32, some (26, true), .no, .load true 32 (.t 3)⟩,
  ⟨some 33, some (26, true), .no, .call (.v (.fn 126 [])) [(.t 27), (.t 29), (.v (.int .i64 (8))), (.t 31), (.t 32)]⟩,
  ⟨some 34, some (26, true), .no, .bin .eql .none (.t 33) (.v (.int .i64 (0)))⟩,
  ⟨some 35, none, .no, .pick (.t 26) (.t 34) (.v (.bool false))⟩]
@[go_sem] def speculumref09_Verify_r8 : List AIns := [
  ⟨some 6, none, .no, .mv (.v (.int .i64 (0)))⟩]
def speculumref09_Verify_c9 : ACode := .seq (.reg speculumref09_Verify_r8) .ret
def speculumref09_Verify_c10 : ACode := .cond (.t 35) speculumref09_Verify_c9 .skip
def speculumref09_Verify_c11 : ACode := .seq (.reg speculumref09_Verify_r7) speculumref09_Verify_c10
@[go_sem] def speculumref09_Verify_r12 : List AIns := [
  ⟨some 6, none, .no, .mv (.v (.int .i64 (81)))⟩]
def speculumref09_Verify_c13 : ACode := .seq (.reg speculumref09_Verify_r12) .ret
def speculumref09_Verify_c14 : ACode := .seq speculumref09_Verify_c11 speculumref09_Verify_c13
def speculumref09_Verify_c15 : ACode := .seq (.reg speculumref09_Verify_r6) speculumref09_Verify_c14
def speculumref09_Verify_c16 : ACode := .seq speculumref09_Verify_c5 speculumref09_Verify_c15
def speculumref09_Verify_c17 : ACode := .seq (.reg speculumref09_Verify_r0) speculumref09_Verify_c16
theorem speculumref09_Verify_ok : cFn TC 48 = some (36, [.t 6], speculumref09_Verify_c17) := by kernel_rfl
end Am
end Go.Proofs.YthgcooppjhcgcaaDoor
end
section
set_option linter.unusedSimpArgs false
set_option linter.unusedVariables false
/- strings.Builder: the contracts of WriteString and WriteByte; a builder of one's own. -/
namespace Go.Proofs.YthgcooppjhcgcaaDoor
namespace Am
attribute [local irreducible] ACallsTo ACallsP
theorem WriteString_nil (σ : Store) (r : Nat) (t : List UInt8) (hr : σ[r]? = some (some [[.bld r, .bnil]])) (h0 : t ≠ []) (hl : t.length ≤ 1073741824) :
    ACallsTo TC 152 [.ptr r 0 0, .str t] σ (.tup [.int .i64 t.length, .any]) (σ.set r (some [[.bld r, .bsl σ.length t.length]]) ++ [some (byteEs t)]) := by
  have hz : t.length ≠ 0 := by simpa using h0
  have hs := slen hr
  have hc := copyCheck_to σ r _ hr
  refine ACallsTo.of_body_keep __strings_Builder__WriteString_ok (by simp) ?_
  repeat' (first | refine SWp.seq ?_ | refine SWp.block ?_ | refine SWp.scope ?_ | refine SWp.condT rfl ?_ | refine SWp.condF rfl ?_ | (refine SWp.condD rfl (fun ht => ?_) (fun ht => ?_) <;> try (exfalso; omega)) | ((first | refine SWp.reg ?_ | refine SWp.skip ?_ | refine SWp.exit ?_ | refine SWp.ret ?_ | (apply callW.mk_pu; (first | exact (fun _ => hc))) | (apply callW.any; (first | exact (hc))) | ((first | apply splitG | apply splitGB | apply splitR | apply splitRB | apply splitE | apply splitEB | apply splitC | apply splitCB) <;> intro ht)); all_goals try simp (disch := first | omega | (simp only [lens, byteEs_len, byteEsC_len, List.length_drop]; first | done | omega)) only [go_sem, Nat.reduceEqDiff, Nat.reduceBEq, Nat.reduceAdd, Nat.reduceMul, Nat.reduceSub, Nat.reduceLeDiff, Int.reduceToNat, Int.reducePow, hr, hz, hs, keepQ]))
theorem WriteString_one (σ : Store) (r rb : Nat) (s t : List UInt8) (hr : σ[r]? = some (some [[.bld r, .bsl rb s.length]])) (hb : σ[rb]? = some (some (byteEs s))) (hne : rb ≠ r) (h0 : t ≠ []) (hl : s.length + t.length ≤ 1073741824) :
    ACallsTo TC 152 [.ptr r 0 0, .str t] σ (.tup [.int .i64 t.length, .any]) ((σ.set rb none).set r (some [[.bld r, .bsl σ.length (s.length + t.length)]]) ++ [some (byteEs (s ++ t))]) := by
  have hz : t.length ≠ 0 := by simpa using h0
  have hs := slen hr
  have hc := copyCheck_to σ r _ hr
  refine ACallsTo.of_body_keep __strings_Builder__WriteString_ok (by simp) ?_
  repeat' (first | refine SWp.seq ?_ | refine SWp.block ?_ | refine SWp.scope ?_ | refine SWp.condT rfl ?_ | refine SWp.condF rfl ?_ | (refine SWp.condD rfl (fun ht => ?_) (fun ht => ?_) <;> try (exfalso; omega)) | ((first | refine SWp.reg ?_ | refine SWp.skip ?_ | refine SWp.exit ?_ | refine SWp.ret ?_ | (apply callW.mk_pu; (first | exact (fun _ => hc))) | (apply callW.any; (first | exact (hc))) | ((first | apply splitG | apply splitGB | apply splitR | apply splitRB | apply splitE | apply splitEB | apply splitC | apply splitCB) <;> intro ht)); all_goals try simp (disch := first | omega | (simp only [lens, byteEs_len, byteEsC_len, List.length_drop]; first | done | omega)) only [go_sem, Nat.reduceEqDiff, Nat.reduceBEq, Nat.reduceAdd, Nat.reduceMul, Nat.reduceSub, Nat.reduceLeDiff, Int.reduceToNat, Int.reducePow, hr, hb, hz, hs, hne, keepQ]))
theorem WriteByte_nil (σ : Store) (r : Nat) (b : UInt8) (hr : σ[r]? = some (some [[.bld r, .bnil]])) :
    ACallsTo TC 154 [.ptr r 0 0, .int .u8 b.toNat] σ .any (σ.set r (some [[.bld r, .bsl σ.length 1]]) ++ [some (byteEs [b])]) := by
  have hs := slen hr
  have hc := copyCheck_to σ r _ hr
  have hb : byteEs [b] = [[.int .u8 b.toNat]] := rfl
  rw [hb]
  refine ACallsTo.of_body_keep __strings_Builder__WriteByte_ok (by simp) ?_
  repeat' (first | refine SWp.seq ?_ | refine SWp.block ?_ | refine SWp.scope ?_ | refine SWp.condT rfl ?_ | refine SWp.condF rfl ?_ | (refine SWp.condD rfl (fun ht => ?_) (fun ht => ?_) <;> try (exfalso; omega)) | ((first | refine SWp.reg ?_ | refine SWp.skip ?_ | refine SWp.exit ?_ | refine SWp.ret ?_ | (apply callW.mk_pu; (first | exact (fun _ => hc))) | (apply callW.any; (first | exact (hc))) | ((first | apply splitG | apply splitGB | apply splitR | apply splitRB | apply splitE | apply splitEB | apply splitC | apply splitCB) <;> intro ht)); all_goals try simp (disch := first | omega | (simp only [lens, byteEs_len, byteEsC_len, List.length_drop]; first | done | omega)) only [go_sem, Nat.reduceEqDiff, Nat.reduceBEq, Nat.reduceAdd, Nat.reduceMul, Nat.reduceSub, Nat.reduceLeDiff, Int.reduceToNat, Int.reducePow, hr, hs, keepQ]))
/-- A builder of one's own, with its bytes. -/
def BldN (τ σ' : Store) (r : Nat) (s : List UInt8) : Prop :=
  τ.length ≤ r ∧ (∃ news, σ' = τ ++ news) ∧ ((s = [] ∧ σ'[r]? = some (some [[.bld r, .bnil]])) ∨
    (s ≠ [] ∧ ∃ rb, τ.length ≤ rb ∧ rb ≠ r ∧ σ'[r]? = some (some [[.bld r, .bsl rb s.length]]) ∧ σ'[rb]? = some (some (byteEs s))))
theorem BldN.new {τ news : Store} {r : Nat} (hr : τ.length ≤ r) (h : (τ ++ news)[r]? = some (some [[.bld r, .bnil]])) : BldN τ (τ ++ news) r [] := ⟨hr, ⟨news, rfl⟩, .inl ⟨rfl, h⟩⟩
theorem BldN.ext {τ σ' : Store} {r : Nat} {s : List UInt8} (h : BldN τ σ' r s) : ∃ news, σ' = τ ++ news := h.2.1
theorem BldN.more {τ σ' : Store} {r : Nat} {s : List UInt8} (h : BldN τ σ' r s) (y : Store) : BldN τ (σ' ++ y) r s := by
  obtain ⟨h1, ⟨news, rfl⟩, h2⟩ := h
  refine ⟨h1, ⟨news ++ y, by rw [List.append_assoc]⟩, ?_⟩
  rcases h2 with ⟨e, h2⟩ | ⟨e, rb, h3, h4, h5, h6⟩
  · exact .inl ⟨e, by rw [List.getElem?_append_left (slen h2)]; exact h2⟩
  · exact .inr ⟨e, rb, h3, h4, by rw [List.getElem?_append_left (slen h5)]; exact h5, by rw [List.getElem?_append_left (slen h6)]; exact h6⟩
theorem set_own {τ news : Store} {r : Nat} (x : Option AObj) (h : τ.length ≤ r) : (τ ++ news).set r x = τ ++ news.set (r - τ.length) x := by rw [List.set_append_right _ _ h]
theorem BldN.write {τ σ' : Store} {r : Nat} {s t : List UInt8} (h : BldN τ σ' r s) (h0 : t ≠ []) (hl : s.length + t.length ≤ 1073741824) :
    ∃ σ2, ACallsTo TC 152 [.ptr r 0 0, .str t] σ' (.tup [.int .i64 t.length, .any]) σ2 ∧ BldN τ σ2 r (s ++ t) := by
  obtain ⟨h1, ⟨news, rfl⟩, ⟨rfl, h2⟩ | ⟨e, rb, h3, h4, h5, h6⟩⟩ := h
  · refine ⟨_, WriteString_nil _ r t h2 h0 (by simpa using hl), h1, ⟨_, by rw [set_own _ h1, List.append_assoc]⟩, .inr ⟨by simpa using h0, (τ ++ news).length, by simp, ?_, ?_, ?_⟩⟩
    · have := slen h2; omega
    · rw [List.getElem?_append_left (by rw [List.length_set]; exact slen h2), List.getElem?_set_self (slen h2)]; rfl
    · rw [List.getElem?_append_right (by rw [List.length_set]; exact Nat.le_refl _), List.length_set, Nat.sub_self]; rfl
  · refine ⟨_, WriteString_one _ r rb s t h5 h6 h4 h0 hl, h1, ⟨_, by rw [set_own _ h3, set_own _ h1, List.append_assoc]⟩, .inr ⟨by simp [e], (τ ++ news).length, by simp, ?_, ?_, ?_⟩⟩
    · have := slen h5; omega
    · rw [List.getElem?_append_left (by rw [List.length_set, List.length_set]; exact slen h5), List.getElem?_set_self (by rw [List.length_set]; exact slen h5)]; simp
    · rw [List.getElem?_append_right (by rw [List.length_set, List.length_set]; exact Nat.le_refl _), List.length_set, List.length_set, Nat.sub_self]; rfl
theorem BldN.byte {τ σ' : Store} {r : Nat} (b : UInt8) (h : BldN τ σ' r []) : ∃ σ2, ACallsTo TC 154 [.ptr r 0 0, .int .u8 b.toNat] σ' .any σ2 ∧ BldN τ σ2 r [b] := by
  obtain ⟨h1, ⟨news, rfl⟩, ⟨_, h2⟩ | ⟨e, _⟩⟩ := h
  · refine ⟨_, WriteByte_nil _ r b h2, h1, ⟨_, by rw [set_own _ h1, List.append_assoc]⟩, .inr ⟨by simp, (τ ++ news).length, by simp, ?_, ?_, ?_⟩⟩
    · have := slen h2; omega
    · rw [List.getElem?_append_left (by rw [List.length_set]; exact slen h2), List.getElem?_set_self (slen h2)]; rfl
    · rw [List.getElem?_append_right (by rw [List.length_set]; exact Nat.le_refl _), List.length_set, Nat.sub_self]; rfl
  · exact absurd rfl e
theorem BldN.string {τ σ' : Store} {r : Nat} {s : List UInt8} (h : BldN τ σ' r s) (h0 : s ≠ []) (hl : s.length ≤ 1073741824) :
    ∃ news, ACallsTo TC 153 [.ptr r 0 0] σ' (.str s) (τ ++ news) := by
  obtain ⟨h1, ⟨news, rfl⟩, ⟨rfl, h2⟩ | ⟨e, rb, h3, h4, h5, h6⟩⟩ := h
  · exact absurd rfl h0
  · have := builder_String_to _ r rb s h0 hl h5 h6
    rw [set_own _ h3] at this
    exact ⟨_, this⟩
end Am
end Go.Proofs.YthgcooppjhcgcaaDoor
end
section
set_option linter.unusedSimpArgs false
set_option linter.unusedVariables false
/- Codec: contracts: the program's list. -/
namespace Go.Proofs.YthgcooppjhcgcaaDoor
namespace Am
attribute [local irreducible] ACallsTo ACallsP
theorem codec_Hash_h (σ : Store) (h : Hash) : ACallsTo TC 112 [.agg (hc h)] σ (.str h.1) σ := codec_Hash_to σ h.1 h.2
theorem numS_ne (n : Nat) : numS n ≠ [] := by
  unfold numS
  split <;> simp
set_option maxHeartbeats 4000000 in
theorem codec_Hashes_v (σ : Store) (l : List Hash) (x : AV) (hx : SlV 32 (hr l) x) (hl : l.length < 1000000) : ACallsTo TC 114 [x] σ (.str (hashesS l)) σ := by
  refine ACallsTo.of_body codec_Hashes_ok (by simp) fun hw _ => ?_
  have r1 := hx.len
  rw [hr_len] at r1
  unfold rLenSl at r1
  unfold hashesS
  by_cases h64 : 64 < l.length
  · rw [if_pos h64]
    repeat' (first | refine SWp.seq ?_ | refine SWp.block ?_ | refine SWp.scope ?_ | refine SWp.condT rfl ?_ | refine SWp.condF rfl ?_ | (refine SWp.condD rfl (fun ht => ?_) (fun ht => ?_) <;> try (exfalso; omega)) | ((first | refine SWp.reg ?_ | refine SWp.skip ?_ | refine SWp.exit ?_ | refine SWp.ret ?_ | ((first | apply splitG | apply splitGB | apply splitR | apply splitRB | apply splitE | apply splitEB | apply splitC | apply splitCB) <;> intro ht)); all_goals try simp (disch := first | omega | (simp only [lens, hc_len, hr_len, List.length_reverse, byteEs_len, byteEsC_len, List.length_drop]; first | done | omega)) only [go_sem, Nat.reduceEqDiff, Nat.reduceBEq, Nat.reduceAdd, Nat.reduceMul, Nat.reduceSub, Nat.reduceLeDiff, Int.reduceToNat, Int.reducePow, r1]))
    exact DownV.same hw rl_str
  · rw [if_neg h64]
    have hN := fun σ => codec_Num_to σ l.length (by omega)
    have hNl := numS_le l.length
    have hNn := numS_ne l.length
    generalize numS l.length = N at *
    have b0 : BldN σ (σ ++ [some [[.bld σ.length, .bnil]]]) σ.length [] := BldN.new (Nat.le_refl _) (by simp)
    obtain ⟨σ1, w1, b1⟩ := b0.write hNn (by simp; omega)
    rw [List.nil_append] at b1
    repeat' (first | refine SWp.seq ?_ | refine SWp.block ?_ | refine SWp.scope ?_ | refine SWp.condT rfl ?_ | refine SWp.condF rfl ?_ | (refine SWp.condD rfl (fun ht => ?_) (fun ht => ?_) <;> try (exfalso; omega)) | ((first | refine SWp.reg ?_ | refine SWp.skip ?_ | refine SWp.exit ?_ | refine SWp.ret ?_ | (apply callW.mk_pu; (first | exact (fun _ => hN _) | exact (fun _ => w1))) | (apply callW.any; (first | exact (hN _) | exact (w1))) | ((first | apply splitG | apply splitGB | apply splitR | apply splitRB | apply splitE | apply splitEB | apply splitC | apply splitCB) <;> intro ht)); all_goals try simp (disch := first | omega | (simp only [lens, hc_len, hr_len, List.length_reverse, byteEs_len, byteEsC_len, List.length_drop]; first | done | omega)) only [go_sem, Nat.reduceEqDiff, Nat.reduceBEq, Nat.reduceAdd, Nat.reduceMul, Nat.reduceSub, Nat.reduceLeDiff, Int.reduceToNat, Int.reducePow, r1]))
    refine SWp.loop (fun m ρ σ' => ∃ i : Nat, m + i = l.length ∧ BldN σ σ' σ.length (N ++ catS (l.take i)) ∧ ρ 3 = .ptr σ.length 0 0 ∧ ρ 14 = x ∧ ρ 15 = .int .i64 l.length ∧ ρ 16 = .int .i64 i) l.length ?_ ?_
    · exact ⟨0, by omega, by simpa [catS] using b1, by simp (disch := first | omega | (simp only [lens, hc_len, hr_len, List.length_reverse, byteEs_len, byteEsC_len, List.length_drop]; first | done | omega)) only [go_sem, Nat.reduceEqDiff, Nat.reduceBEq, Nat.reduceAdd, Nat.reduceMul, Nat.reduceSub, Nat.reduceLeDiff, Int.reduceToNat, Int.reducePow], by simp (disch := first | omega | (simp only [lens, hc_len, hr_len, List.length_reverse, byteEs_len, byteEsC_len, List.length_drop]; first | done | omega)) only [go_sem, Nat.reduceEqDiff, Nat.reduceBEq, Nat.reduceAdd, Nat.reduceMul, Nat.reduceSub, Nat.reduceLeDiff, Int.reduceToNat, Int.reducePow], by simp (disch := first | omega | (simp only [lens, hc_len, hr_len, List.length_reverse, byteEs_len, byteEsC_len, List.length_drop]; first | done | omega)) only [go_sem, Nat.reduceEqDiff, Nat.reduceBEq, Nat.reduceAdd, Nat.reduceMul, Nat.reduceSub, Nat.reduceLeDiff, Int.reduceToNat, Int.reducePow, r1], by simp (disch := first | omega | (simp only [lens, hc_len, hr_len, List.length_reverse, byteEs_len, byteEsC_len, List.length_drop]; first | done | omega)) only [go_sem, Nat.reduceEqDiff, Nat.reduceBEq, Nat.reduceAdd, Nat.reduceMul, Nat.reduceSub, Nat.reduceLeDiff, Int.reduceToNat, Int.reducePow]; rfl⟩
    · clear w1 b1 b0
      rintro m ρ σ' ⟨i, hm, hB, q3, q14, q15, q16⟩
      have hcl := catS_len (l.take i)
      rw [List.length_take] at hcl
      by_cases hi : i < l.length
      · obtain ⟨e1, rfl⟩ := hx.vsl (by rw [hr_len]; omega)
        have hH := fun σ => codec_Hash_h σ (hd l i)
        have hst := catS_step hi
        have h32 := (hd l i).2
        obtain ⟨σ2, w2, b2⟩ := (hB.more [some [hc (hd l i)]]).write (t := (hd l i).1) (by intro e; rw [e] at h32; simp at h32) (by simp; omega)
        repeat' (first | refine SWp.seq ?_ | refine SWp.block ?_ | refine SWp.scope ?_ | refine SWp.condT rfl ?_ | refine SWp.condF rfl ?_ | (refine SWp.condD rfl (fun ht => ?_) (fun ht => ?_) <;> try (exfalso; omega)) | ((first | refine SWp.reg ?_ | refine SWp.skip ?_ | refine SWp.exit ?_ | refine SWp.ret ?_ | (apply callW.mk_pu; (first | exact (fun _ => hH _) | exact (fun _ => w2))) | (apply callW.any; (first | exact (hH _) | exact (w2))) | ((first | apply splitG | apply splitGB | apply splitR | apply splitRB | apply splitE | apply splitEB | apply splitC | apply splitCB) <;> intro ht)); all_goals try simp (disch := first | omega | (simp only [lens, hc_len, hr_len, List.length_reverse, byteEs_len, byteEsC_len, List.length_drop]; first | done | omega)) only [go_sem, Nat.reduceEqDiff, Nat.reduceBEq, Nat.reduceAdd, Nat.reduceMul, Nat.reduceSub, Nat.reduceLeDiff, Int.reduceToNat, Int.reducePow, q3, q14, q15, q16]))
        refine ⟨m - 1, by omega, i + 1, by omega, ?_, by simp⟩
        rw [hst, ← List.append_assoc]; exact b2
      · have e : l.take i = l := List.take_of_length_le (by omega)
        rw [e] at hB
        have hcl2 := catS_len l
        obtain ⟨news, w3⟩ := hB.string (by simp [hNn]) (by simp; omega)
        repeat' (first | refine SWp.seq ?_ | refine SWp.block ?_ | refine SWp.scope ?_ | refine SWp.condT rfl ?_ | refine SWp.condF rfl ?_ | (refine SWp.condD rfl (fun ht => ?_) (fun ht => ?_) <;> try (exfalso; omega)) | ((first | refine SWp.reg ?_ | refine SWp.skip ?_ | refine SWp.exit ?_ | refine SWp.ret ?_ | (apply callW.mk_pu; (first | exact (fun _ => w3))) | (apply callW.any; (first | exact (w3))) | ((first | apply splitG | apply splitGB | apply splitR | apply splitRB | apply splitE | apply splitEB | apply splitC | apply splitCB) <;> intro ht)); all_goals try simp (disch := first | omega | (simp only [lens, hc_len, hr_len, List.length_reverse, byteEs_len, byteEsC_len, List.length_drop]; first | done | omega)) only [go_sem, Nat.reduceEqDiff, Nat.reduceBEq, Nat.reduceAdd, Nat.reduceMul, Nat.reduceSub, Nat.reduceLeDiff, Int.reduceToNat, Int.reducePow, q3, q14, q15, q16]))
        exact DownV.pure hw rl_str
theorem codec_Hashes_to (σ : Store) (l : List Hash) (x : AV) (hx : RdSl σ 32 (hr l) x) (hl : l.length < 1000000) : ACallsTo TC 114 [x] σ (.str (hashesS l)) σ := by
  obtain ⟨x0, h0, hd⟩ := hx.lend (rlss_hr l)
  have := ACallsTo.lend glok (codec_Hashes_v [] l x0 h0 hl) (drs1 hd)
  rwa [show sh σ.length (.str (hashesS l)) = .str (hashesS l) from rfl, shS_nil, List.append_nil] at this
end Am
end Go.Proofs.YthgcooppjhcgcaaDoor
end
section
set_option linter.unusedSimpArgs false
set_option linter.unusedVariables false
/- Lamport: contracts: shown, Leaf. -/
namespace Go.Proofs.YthgcooppjhcgcaaDoor
namespace Am
attribute [local irreducible] ACallsTo ACallsP
def shownH (s : List UInt8) : Hash := shaH (3 :: s)
def leafH (hs : List Hash) : Hash := if hs.length = 512 then shaH (4 :: catS hs) else zeroH
theorem hash_ne (h : Hash) : h.1 ≠ [] := fun e => by have := h.2; rw [e] at this; simp at this
theorem rl_agg_hc {k : Nat} (h : Hash) : RL k (.agg (hc h)) := by simp only [RL]; exact rl_hc h
theorem hc_zeroX : hc zeroH = [.int .u8 0, .int .u8 0, .int .u8 0, .int .u8 0, .int .u8 0, .int .u8 0, .int .u8 0, .int .u8 0, .int .u8 0, .int .u8 0, .int .u8 0, .int .u8 0, .int .u8 0, .int .u8 0, .int .u8 0, .int .u8 0, .int .u8 0, .int .u8 0, .int .u8 0, .int .u8 0, .int .u8 0, .int .u8 0, .int .u8 0, .int .u8 0, .int .u8 0, .int .u8 0, .int .u8 0, .int .u8 0, .int .u8 0, .int .u8 0, .int .u8 0, .int .u8 0] := rfl
theorem sha_Sum_h (σ : Store) (s : List UInt8) (h : s.length < 100000000000) : ACallsTo TC 95 [.str s] σ (.agg (hc (shaH s))) σ := sha_Sum_to σ s h
theorem ref_Sum_h (σ : Store) (s : List UInt8) (h : s.length < 900000000) : ACallsTo TC 88 [.str s] σ (.agg (hc (shaH s))) σ := ref_Sum_to σ s h
theorem shown_to (σ : Store) (s : List UInt8) (h : s.length < 1000000) : ACallsTo TC 155 [.str s] σ (.agg (hc (shownH s))) σ := by
  have hS := fun σ => sha_Sum_h σ (3 :: s) (by simp; omega)
  refine ACallsTo.of_body lamport_shown_ok (by simp) fun hw _ => ?_
  unfold shownH
  repeat' (first | refine SWp.seq ?_ | refine SWp.block ?_ | refine SWp.scope ?_ | refine SWp.condT rfl ?_ | refine SWp.condF rfl ?_ | (refine SWp.condD rfl (fun ht => ?_) (fun ht => ?_) <;> try (exfalso; omega)) | ((first | refine SWp.reg ?_ | refine SWp.skip ?_ | refine SWp.exit ?_ | refine SWp.ret ?_ | (apply callW.mk_pu; (first | exact (fun _ => hS _))) | (apply callW.any; (first | exact (hS _))) | ((first | apply splitG | apply splitGB | apply splitR | apply splitRB | apply splitE | apply splitEB | apply splitC | apply splitCB) <;> intro ht)); all_goals try simp (disch := first | omega | (simp only [lens, hc_len, hr_len, List.length_reverse, byteEs_len, byteEsC_len, List.length_drop]; first | done | omega)) only [go_sem, Nat.reduceEqDiff, Nat.reduceBEq, Nat.reduceAdd, Nat.reduceMul, Nat.reduceSub, Nat.reduceLeDiff, Int.reduceToNat, Int.reducePow]))
  exact DownV.pure hw (rl_agg_hc _)
set_option maxHeartbeats 4000000 in
theorem Leaf_v (σ : Store) (hs : List Hash) (x : AV) (hx : SlV 32 (hr hs) x) (hl : hs.length < 1000000) : ACallsTo TC 115 [x] σ (.agg (hc (leafH hs))) σ := by
  refine ACallsTo.of_body lamport_Leaf_ok (by simp) fun hw _ => ?_
  have r1 := hx.len
  rw [hr_len] at r1
  unfold rLenSl at r1
  unfold leafH
  by_cases h5 : hs.length = 512
  · rw [if_pos h5]
    have h5' : (hs.length : Int) = 512 := by omega
    have hτ : (σ ++ [some [hc zeroH]]).length = σ.length + 1 := by simp
    have b0 : BldN (σ ++ [some [hc zeroH]]) (σ ++ [some [hc zeroH]] ++ [some [[.bld (σ.length + 1), .bnil]]]) (σ.length + 1) [] := BldN.new (by omega) (by rw [List.getElem?_append_right (by omega)]; simp)
    have out : ∀ {σ' : Store} {s : List UInt8}, BldN (σ ++ [some [hc zeroH]]) σ' (σ.length + 1) s → σ'[σ.length]? = some (some [hc zeroH]) ∧ Ext σ σ' := fun h => by
      obtain ⟨news, rfl⟩ := h.ext
      exact ⟨by simp, ⟨some [hc zeroH] :: news, by simp⟩⟩
    obtain ⟨σ1, w1, b1⟩ : ∃ σ1, ACallsTo TC 154 [.ptr (σ.length + 1) 0 0, .int .u8 4] (σ ++ [some [hc zeroH]] ++ [some [[AV.bld (σ.length + 1), AV.bnil]]]) .any σ1 ∧ BldN (σ ++ [some [hc zeroH]]) σ1 (σ.length + 1) [4] := b0.byte 4
    rw [List.append_assoc, hc_zeroX] at w1
    repeat' (first | refine SWp.seq ?_ | refine SWp.block ?_ | refine SWp.scope ?_ | refine SWp.condT rfl ?_ | refine SWp.condF rfl ?_ | (refine SWp.condD rfl (fun ht => ?_) (fun ht => ?_) <;> try (exfalso; omega)) | ((first | refine SWp.reg ?_ | refine SWp.skip ?_ | refine SWp.exit ?_ | refine SWp.ret ?_ | (apply callW.mk_pu; (first | exact (fun _ => w1))) | (apply callW.any; (first | exact (w1))) | ((first | apply splitG | apply splitGB | apply splitR | apply splitRB | apply splitE | apply splitEB | apply splitC | apply splitCB) <;> intro ht)); all_goals try simp (disch := first | omega | (simp only [lens, hc_len, hr_len, List.length_reverse, byteEs_len, byteEsC_len, List.length_drop]; first | done | omega)) only [go_sem, Nat.reduceEqDiff, Nat.reduceBEq, Nat.reduceAdd, Nat.reduceMul, Nat.reduceSub, Nat.reduceLeDiff, Int.reduceToNat, Int.reducePow, r1, h5']))
    refine SWp.loop (fun m ρ σ' => ∃ i : Nat, m + i = hs.length ∧ BldN (σ ++ [some [hc zeroH]]) σ' (σ.length + 1) (4 :: catS (hs.take i)) ∧ ρ 2 = .ptr σ.length 0 0 ∧ ρ 3 = .ptr (σ.length + 1) 0 0 ∧ ρ 11 = x ∧ ρ 12 = .int .i64 512 ∧ ρ 13 = .int .i64 i) hs.length ?_ ?_
    · exact ⟨0, by omega, by simpa [catS] using b1, by simp (disch := first | omega | (simp only [lens, hc_len, hr_len, List.length_reverse, byteEs_len, byteEsC_len, List.length_drop]; first | done | omega)) only [go_sem, Nat.reduceEqDiff, Nat.reduceBEq, Nat.reduceAdd, Nat.reduceMul, Nat.reduceSub, Nat.reduceLeDiff, Int.reduceToNat, Int.reducePow], by simp (disch := first | omega | (simp only [lens, hc_len, hr_len, List.length_reverse, byteEs_len, byteEsC_len, List.length_drop]; first | done | omega)) only [go_sem, Nat.reduceEqDiff, Nat.reduceBEq, Nat.reduceAdd, Nat.reduceMul, Nat.reduceSub, Nat.reduceLeDiff, Int.reduceToNat, Int.reducePow], by simp (disch := first | omega | (simp only [lens, hc_len, hr_len, List.length_reverse, byteEs_len, byteEsC_len, List.length_drop]; first | done | omega)) only [go_sem, Nat.reduceEqDiff, Nat.reduceBEq, Nat.reduceAdd, Nat.reduceMul, Nat.reduceSub, Nat.reduceLeDiff, Int.reduceToNat, Int.reducePow], by simp (disch := first | omega | (simp only [lens, hc_len, hr_len, List.length_reverse, byteEs_len, byteEsC_len, List.length_drop]; first | done | omega)) only [go_sem, Nat.reduceEqDiff, Nat.reduceBEq, Nat.reduceAdd, Nat.reduceMul, Nat.reduceSub, Nat.reduceLeDiff, Int.reduceToNat, Int.reducePow], by simp (disch := first | omega | (simp only [lens, hc_len, hr_len, List.length_reverse, byteEs_len, byteEsC_len, List.length_drop]; first | done | omega)) only [go_sem, Nat.reduceEqDiff, Nat.reduceBEq, Nat.reduceAdd, Nat.reduceMul, Nat.reduceSub, Nat.reduceLeDiff, Int.reduceToNat, Int.reducePow]; rfl⟩
    · clear w1 b1 b0
      rintro m ρ σ' ⟨i, hm, hB, q2, q3, q11, q12, q13⟩
      have hcl := catS_len (hs.take i)
      rw [List.length_take] at hcl
      by_cases hi : i < hs.length
      · obtain ⟨e1, rfl⟩ := hx.vsl (by rw [hr_len]; omega)
        have hH := fun σ => codec_Hash_h σ (hd hs i)
        have hst := catS_step hi
        have h32 := (hd hs i).2
        obtain ⟨σ2, w2, b2⟩ := (hB.more [some [hc (hd hs i)]]).write (t := (hd hs i).1) (hash_ne _) (by simp; omega)
        have hi5 : (i : Int) < 512 := by omega
        repeat' (first | refine SWp.seq ?_ | refine SWp.block ?_ | refine SWp.scope ?_ | refine SWp.condT rfl ?_ | refine SWp.condF rfl ?_ | (refine SWp.condD rfl (fun ht => ?_) (fun ht => ?_) <;> try (exfalso; omega)) | ((first | refine SWp.reg ?_ | refine SWp.skip ?_ | refine SWp.exit ?_ | refine SWp.ret ?_ | (apply callW.mk_pu; (first | exact (fun _ => hH _) | exact (fun _ => w2))) | (apply callW.any; (first | exact (hH _) | exact (w2))) | ((first | apply splitG | apply splitGB | apply splitR | apply splitRB | apply splitE | apply splitEB | apply splitC | apply splitCB) <;> intro ht)); all_goals try simp (disch := first | omega | (simp only [lens, hc_len, hr_len, List.length_reverse, byteEs_len, byteEsC_len, List.length_drop]; first | done | omega)) only [go_sem, Nat.reduceEqDiff, Nat.reduceBEq, Nat.reduceAdd, Nat.reduceMul, Nat.reduceSub, Nat.reduceLeDiff, Int.reduceToNat, Int.reducePow, q2, q3, q11, q12, q13, hi5]))
        refine ⟨m - 1, by omega, i + 1, by omega, ?_, by simp⟩
        rw [hst, ← List.cons_append]; exact b2
      · have e : hs.take i = hs := List.take_of_length_le (by omega)
        rw [e] at hB
        have hcl2 := catS_len hs
        obtain ⟨c0, he⟩ := out hB
        obtain ⟨news, w3⟩ := hB.string (by simp) (by simp; omega)
        have hi5 : ¬ (i : Int) < 512 := by omega
        have hS := fun σ => sha_Sum_h σ (4 :: catS hs) (by simp; omega)
        have ha : σ ++ [some [hc zeroH]] ++ news = σ ++ (some [hc zeroH] :: news) := by simp
        rw [ha] at w3
        repeat' (first | refine SWp.seq ?_ | refine SWp.block ?_ | refine SWp.scope ?_ | refine SWp.condT rfl ?_ | refine SWp.condF rfl ?_ | (refine SWp.condD rfl (fun ht => ?_) (fun ht => ?_) <;> try (exfalso; omega)) | ((first | refine SWp.reg ?_ | refine SWp.skip ?_ | refine SWp.exit ?_ | refine SWp.ret ?_ | (apply callW.mk_pu; (first | exact (fun _ => w3) | exact (fun _ => hS _))) | (apply callW.any; (first | exact (w3) | exact (hS _))) | ((first | apply splitG | apply splitGB | apply splitR | apply splitRB | apply splitE | apply splitEB | apply splitC | apply splitCB) <;> intro ht)); all_goals try simp (disch := first | omega | (simp only [lens, hc_len, hr_len, List.length_reverse, byteEs_len, byteEsC_len, List.length_drop]; first | done | omega)) only [go_sem, Nat.reduceEqDiff, Nat.reduceBEq, Nat.reduceAdd, Nat.reduceMul, Nat.reduceSub, Nat.reduceLeDiff, Int.reduceToNat, Int.reducePow, q2, q3, q11, q12, q13, hi5]))
        exact DownV.pure hw (rl_agg_hc _)
  · have h5' : ¬ (hs.length : Int) = 512 := by omega
    rw [if_neg h5]
    repeat' (first | refine SWp.seq ?_ | refine SWp.block ?_ | refine SWp.scope ?_ | refine SWp.condT rfl ?_ | refine SWp.condF rfl ?_ | (refine SWp.condD rfl (fun ht => ?_) (fun ht => ?_) <;> try (exfalso; omega)) | ((first | refine SWp.reg ?_ | refine SWp.skip ?_ | refine SWp.exit ?_ | refine SWp.ret ?_ | ((first | apply splitG | apply splitGB | apply splitR | apply splitRB | apply splitE | apply splitEB | apply splitC | apply splitCB) <;> intro ht)); all_goals try simp (disch := first | omega | (simp only [lens, hc_len, hr_len, List.length_reverse, byteEs_len, byteEsC_len, List.length_drop]; first | done | omega)) only [go_sem, Nat.reduceEqDiff, Nat.reduceBEq, Nat.reduceAdd, Nat.reduceMul, Nat.reduceSub, Nat.reduceLeDiff, Int.reduceToNat, Int.reducePow, r1, h5']))
    exact DownV.pure hw (rl_agg_hc zeroH)
end Am
end Go.Proofs.YthgcooppjhcgcaaDoor
end
section
set_option linter.unusedSimpArgs false
set_option linter.unusedVariables false
/- Lamport: contracts: the reference's Leaf. -/
namespace Go.Proofs.YthgcooppjhcgcaaDoor
namespace Am
attribute [local irreducible] ACallsTo ACallsP
theorem Leaf_h (σ : Store) (hs : List Hash) (x : AV) (hx : RdSl σ 32 (hr hs) x) (hl : hs.length < 1000000) : ACallsTo TC 115 [x] σ (.agg (hc (leafH hs))) σ := by
  obtain ⟨x0, h0, hd⟩ := hx.lend (rlss_hr hs)
  have := ACallsTo.lend glok (Leaf_v [] hs x0 h0 hl) (drs1 hd)
  rwa [show sh σ.length (.agg (hc (leafH hs))) = .agg (hc (leafH hs)) from by simp only [sh, shs_hc], shS_nil, List.append_nil] at this
theorem OwnR.appB {k : Nat} {σ' : Store} {v : AV} {es ys : List (List AV)} (h : OwnR 1 k σ' v es) : aAppB σ' v ys = aApp σ' 1 v ys := by
  rcases h with ⟨rfl, rfl⟩ | ⟨r, _, _, rfl, h⟩ <;> rfl
theorem hc_chunk (h : Hash) : chunk 1 32 (hc h) = byteEs h.1 := by have := chunk_C h.1; rwa [h.2] at this
set_option maxHeartbeats 4000000 in
theorem refLeaf_rd (σ : Store) (hs : List Hash) (r : Nat) (lim : Option Nat) (hg : σ[r]? = some (some (hr hs))) (h5 : hs.length = 512) : ACallsTo TC 117 [.sl r 0 512 lim 32] σ (.agg (hc (leafH hs))) σ := by
  refine ACallsTo.of_body speculumref08_Leaf_ok (by simp) fun hw _ => ?_
  unfold leafH
  rw [if_pos h5]
  have dg := slen hg
  repeat' (first | refine SWp.seq ?_ | refine SWp.block ?_ | refine SWp.scope ?_ | refine SWp.condT rfl ?_ | refine SWp.condF rfl ?_ | (refine SWp.condD rfl (fun ht => ?_) (fun ht => ?_) <;> try (exfalso; omega)) | ((first | refine SWp.reg ?_ | refine SWp.skip ?_ | refine SWp.exit ?_ | refine SWp.ret ?_ | ((first | apply splitG | apply splitGB | apply splitR | apply splitRB | apply splitE | apply splitEB | apply splitC | apply splitCB) <;> intro ht)); all_goals try simp (disch := first | omega | (simp only [lens, hc_len, hr_len, List.length_reverse, byteEs_len, byteEsC_len, List.length_drop]; first | done | omega)) only [go_sem, Nat.reduceEqDiff, Nat.reduceBEq, Nat.reduceAdd, Nat.reduceMul, Nat.reduceSub, Nat.reduceLeDiff, Int.reduceToNat, Int.reducePow]))
  refine SWp.loop (fun m ρ σ' => ∃ (i : Nat) (v : AV), m + i = 512 ∧ Ext σ σ' ∧ σ'[σ.length]? = some (some [hc zeroH]) ∧ σ.length + 1 ≤ σ'.length ∧ ((i = 0 ∧ v = .vsl 1 (byteEs [4]) true) ∨ OwnR 1 (σ.length + 1) σ' v (byteEs (4 :: catS (hs.take i)))) ∧ ρ 0 = .sl r 0 512 lim 32 ∧ ρ 2 = .ptr σ.length 0 0 ∧ ρ 3 = v ∧ ρ 4 = .int .i64 i) 512 ?_ ?_
  · refine ⟨0, .vsl 1 (byteEs [4]) true, by omega, (Ext.refl σ).app, by simp; rfl, by simp, .inl ⟨rfl, rfl⟩, by simp (disch := first | omega | (simp only [lens, hc_len, hr_len, List.length_reverse, byteEs_len, byteEsC_len, List.length_drop]; first | done | omega)) only [go_sem, Nat.reduceEqDiff, Nat.reduceBEq, Nat.reduceAdd, Nat.reduceMul, Nat.reduceSub, Nat.reduceLeDiff, Int.reduceToNat, Int.reducePow], by simp (disch := first | omega | (simp only [lens, hc_len, hr_len, List.length_reverse, byteEs_len, byteEsC_len, List.length_drop]; first | done | omega)) only [go_sem, Nat.reduceEqDiff, Nat.reduceBEq, Nat.reduceAdd, Nat.reduceMul, Nat.reduceSub, Nat.reduceLeDiff, Int.reduceToNat, Int.reducePow], by simp (disch := first | omega | (simp only [lens, hc_len, hr_len, List.length_reverse, byteEs_len, byteEsC_len, List.length_drop]; first | done | omega)) only [go_sem, Nat.reduceEqDiff, Nat.reduceBEq, Nat.reduceAdd, Nat.reduceMul, Nat.reduceSub, Nat.reduceLeDiff, Int.reduceToNat, Int.reducePow]; first | done | rfl, by simp (disch := first | omega | (simp only [lens, hc_len, hr_len, List.length_reverse, byteEs_len, byteEsC_len, List.length_drop]; first | done | omega)) only [go_sem, Nat.reduceEqDiff, Nat.reduceBEq, Nat.reduceAdd, Nat.reduceMul, Nat.reduceSub, Nat.reduceLeDiff, Int.reduceToNat, Int.reducePow]; rfl⟩
  · rintro m ρ σ' ⟨i, v, hm, he, c0, hle, hv, q0, q2, q3, q4⟩
    have hcl := catS_len (hs.take i)
    rw [List.length_take] at hcl
    have hg' : σ'[r]? = some (some (hr hs)) := by
      obtain ⟨y, rfl⟩ := he
      rw [gapp dg]; exact hg
    by_cases hi : i < 512
    · have hgi := hr_get (l := hs) (i := i) (by omega)
      have hst := catS_step (l := hs) (i := i) (by omega)
      have h32 := (hd hs i).2
      have hrw := hc_chunk (hd hs i)
      rcases hv with ⟨rfl, rfl⟩ | hO
      · have h1 : hs.take 1 = [] ++ [hd hs 0] := take_hd (l := hs) (i := 0) (by omega)
        have hcat : byteEs [4] ++ byteEs (hd hs 0).1 = byteEs (4 :: catS (hs.take 1)) := by rw [byteEs_app, h1]; simp [catS]
        repeat' (first | refine SWp.seq ?_ | refine SWp.block ?_ | refine SWp.scope ?_ | refine SWp.condT rfl ?_ | refine SWp.condF rfl ?_ | (refine SWp.condD rfl (fun ht => ?_) (fun ht => ?_) <;> try (exfalso; omega)) | ((first | refine SWp.reg ?_ | refine SWp.skip ?_ | refine SWp.exit ?_ | refine SWp.ret ?_ | ((first | apply splitG | apply splitGB | apply splitR | apply splitRB | apply splitE | apply splitEB | apply splitC | apply splitCB) <;> intro ht)); all_goals try simp (disch := first | omega | (simp only [lens, hc_len, hr_len, List.length_reverse, byteEs_len, byteEsC_len, List.length_drop]; first | done | omega)) only [go_sem, Nat.reduceEqDiff, Nat.reduceBEq, Nat.reduceAdd, Nat.reduceMul, Nat.reduceSub, Nat.reduceLeDiff, Int.reduceToNat, Int.reducePow, q0, q2, q3, q4, hg', hgi, hrw, hcat]))
        refine ⟨m - 1, by omega, 1, _, by omega, he.app, c0, by omega, .inr (.inr ⟨σ'.length, by omega, by simp [byteEs], ?_, by simp⟩), rfl, by simp⟩
        rw [byteEs_len, List.length_cons, catS_len, List.length_take]
        congr 1
        omega
      · obtain ⟨v', σ2, ha, hO2, hk2, hE2, hl2⟩ := hO.app (ys := byteEs (hd hs i).1) hle (by rw [byteEs_len]; omega) (by rw [byteEs_len, byteEs_len, List.length_cons]; omega)
        rw [← hO.appB] at ha
        rw [byteEs_app, List.cons_append, ← hst] at hO2
        have c0' := hk2 σ.length (by omega)
        rw [c0] at c0'
        repeat' (first | refine SWp.seq ?_ | refine SWp.block ?_ | refine SWp.scope ?_ | refine SWp.condT rfl ?_ | refine SWp.condF rfl ?_ | (refine SWp.condD rfl (fun ht => ?_) (fun ht => ?_) <;> try (exfalso; omega)) | ((first | refine SWp.reg ?_ | refine SWp.skip ?_ | refine SWp.exit ?_ | refine SWp.ret ?_ | ((first | apply splitG | apply splitGB | apply splitR | apply splitRB | apply splitE | apply splitEB | apply splitC | apply splitCB) <;> intro ht)); all_goals try simp (disch := first | omega | (simp only [lens, hc_len, hr_len, List.length_reverse, byteEs_len, byteEsC_len, List.length_drop]; first | done | omega)) only [go_sem, Nat.reduceEqDiff, Nat.reduceBEq, Nat.reduceAdd, Nat.reduceMul, Nat.reduceSub, Nat.reduceLeDiff, Int.reduceToNat, Int.reducePow, q0, q2, q3, q4, hg', hgi, hrw, ha]))
        exact ⟨m - 1, by omega, i + 1, v', by omega, hE2 σ (by omega) he, c0', by omega, .inr hO2, by simp⟩
    · obtain rfl : i = 512 := by omega
      rcases hv with ⟨h, _⟩ | hO
      · omega
      · rw [List.take_of_length_le (by omega)] at hO hcl
        have hcl2 := catS_len hs
        have hS := fun σ => ref_Sum_h σ (4 :: catS hs) (by simp; omega)
        have dd0 := slen c0
        rcases hO with ⟨h, _⟩ | ⟨rb, hr1, _, rfl, hgb⟩
        · simp [byteEs] at h
        · rw [byteEs_len] at *
          repeat' (first | refine SWp.seq ?_ | refine SWp.block ?_ | refine SWp.scope ?_ | refine SWp.condT rfl ?_ | refine SWp.condF rfl ?_ | (refine SWp.condD rfl (fun ht => ?_) (fun ht => ?_) <;> try (exfalso; omega)) | ((first | refine SWp.reg ?_ | refine SWp.skip ?_ | refine SWp.exit ?_ | refine SWp.ret ?_ | (apply callW.mk_pu; (first | exact (fun _ => hS _))) | (apply callW.any; (first | exact (hS _))) | ((first | apply splitG | apply splitGB | apply splitR | apply splitRB | apply splitE | apply splitEB | apply splitC | apply splitCB) <;> intro ht)); all_goals try simp (disch := first | omega | (simp only [lens, hc_len, hr_len, List.length_reverse, byteEs_len, byteEsC_len, List.length_drop]; first | done | omega)) only [go_sem, Nat.reduceEqDiff, Nat.reduceBEq, Nat.reduceAdd, Nat.reduceMul, Nat.reduceSub, Nat.reduceLeDiff, Int.reduceToNat, Int.reducePow, q0, q2, q3, q4, hgb, c0]))
          exact Ext.pure hw (he.set (by omega)) (rl_agg_hc _)
end Am
end Go.Proofs.YthgcooppjhcgcaaDoor
end
section
set_option linter.unusedSimpArgs false
set_option linter.unusedVariables false
/- Lamport: contracts: Recover. -/
namespace Go.Proofs.YthgcooppjhcgcaaDoor
namespace Am
def recS (sig d : List UInt8) (i : Nat) (L : List Hash) : List Hash :=
  (L.set (2 * i + bitS d i) (shownH ((sig.take (32 * i + 32)).drop (32 * i)))).set (2 * i + 1 - bitS d i) (toH ((sig.drop (8192 + 32 * i)).take 32))
def recF (sig d : List UInt8) : Nat → List Hash
  | 0 => List.replicate 512 zeroH
  | i + 1 => recS sig d i (recF sig d i)
theorem recF_len (sig d : List UInt8) : ∀ i, (recF sig d i).length = 512
  | 0 => by rw [recF, List.length_replicate]
  | i + 1 => by rw [recF, recS, List.length_set, List.length_set, recF_len sig d i]
theorem bitS_le (s : List UInt8) (i : Int) : bitS s i ≤ 1 := by
  unfold bitS
  split <;> omega
def recV (sig d : List UInt8) : AV := if sig.length = 16384 then .tup [.agg (hc (leafH (recF sig d 256))), .int .i64 0] else .tup [.agg (hc zeroH), .int .i64 10]
theorem hr_zero : List.replicate 512 (hc zeroH) = hr (List.replicate 512 zeroH) := by rw [hr, List.map_replicate]
theorem rl_hi {k : Nat} {h : Hash} {e : Int} : RL k (.tup [.agg (hc h), .int .i64 e]) := by simp only [RL, RLs]; exact ⟨rl_hc h, trivial, trivial⟩
attribute [local irreducible] ACallsTo ACallsP
set_option maxHeartbeats 8000000 in
theorem Recover_to (σ : Store) (sig : List UInt8) (dg : Hash) (hs : sig.length < 1000000) : ACallsTo TC 123 [.str sig, .agg (hc dg)] σ (recV sig dg.1) σ := by
  refine ACallsTo.of_body lamport_Recover_ok (by simp) fun hw _ => ?_
  unfold recV
  by_cases hl : sig.length = 16384
  · have hl' : (sig.length : Int) = 16384 := by omega
    rw [if_pos hl]
    have hC := fun σ => codec_Hash_h σ dg
    have hz := hr_zero
    rw [hc_zeroX] at hz
    repeat' (first | refine SWp.seq ?_ | refine SWp.block ?_ | refine SWp.scope ?_ | refine SWp.condT rfl ?_ | refine SWp.condF rfl ?_ | (refine SWp.condD rfl (fun ht => ?_) (fun ht => ?_) <;> try (exfalso; omega)) | ((first | refine SWp.reg ?_ | refine SWp.skip ?_ | refine SWp.exit ?_ | refine SWp.ret ?_ | (apply callW.mk_pu; (first | exact (fun _ => hC _))) | (apply callW.any; (first | exact (hC _))) | ((first | apply splitG | apply splitGB | apply splitR | apply splitRB | apply splitE | apply splitEB | apply splitC | apply splitCB) <;> intro ht)); all_goals try simp (disch := first | omega | (simp only [lens, hc_len, hr_len, List.length_reverse, byteEs_len, byteEsC_len, List.length_drop, recF_len]; first | done | omega)) only [go_sem, Nat.reduceEqDiff, Nat.reduceBEq, Nat.reduceAdd, Nat.reduceMul, Nat.reduceSub, Nat.reduceLeDiff, Int.reduceToNat, Int.reducePow, hl', hz]))
    refine SWp.loop (fun m ρ σ' => ∃ i : Nat, m + i = 256 ∧ Ext σ σ' ∧ σ'[σ.length + 1]? = some (some [hc zeroH]) ∧ σ'[σ.length + 2]? = some (some (hr (recF sig dg.1 i))) ∧ ρ 0 = .str sig ∧ ρ 4 = .ptr (σ.length + 1) 0 0 ∧ ρ 6 = .str dg.1 ∧ ρ 7 = .sl (σ.length + 2) 0 512 (some 512) 32 ∧ ρ 19 = .int .i64 i) 256 ?_ ?_
    · exact ⟨0, by omega, (Ext.refl σ).app, by rw [gappr (by omega), Nat.add_sub_cancel_left]; rfl, by rw [gappr (by omega), Nat.add_sub_cancel_left]; rfl, by simp (disch := first | omega | (simp only [lens, hc_len, hr_len, List.length_reverse, byteEs_len, byteEsC_len, List.length_drop, recF_len]; first | done | omega)) only [go_sem, Nat.reduceEqDiff, Nat.reduceBEq, Nat.reduceAdd, Nat.reduceMul, Nat.reduceSub, Nat.reduceLeDiff, Int.reduceToNat, Int.reducePow], by simp (disch := first | omega | (simp only [lens, hc_len, hr_len, List.length_reverse, byteEs_len, byteEsC_len, List.length_drop, recF_len]; first | done | omega)) only [go_sem, Nat.reduceEqDiff, Nat.reduceBEq, Nat.reduceAdd, Nat.reduceMul, Nat.reduceSub, Nat.reduceLeDiff, Int.reduceToNat, Int.reducePow], by simp (disch := first | omega | (simp only [lens, hc_len, hr_len, List.length_reverse, byteEs_len, byteEsC_len, List.length_drop, recF_len]; first | done | omega)) only [go_sem, Nat.reduceEqDiff, Nat.reduceBEq, Nat.reduceAdd, Nat.reduceMul, Nat.reduceSub, Nat.reduceLeDiff, Int.reduceToNat, Int.reducePow], by simp (disch := first | omega | (simp only [lens, hc_len, hr_len, List.length_reverse, byteEs_len, byteEsC_len, List.length_drop, recF_len]; first | done | omega)) only [go_sem, Nat.reduceEqDiff, Nat.reduceBEq, Nat.reduceAdd, Nat.reduceMul, Nat.reduceSub, Nat.reduceLeDiff, Int.reduceToNat, Int.reducePow], by simp (disch := first | omega | (simp only [lens, hc_len, hr_len, List.length_reverse, byteEs_len, byteEsC_len, List.length_drop, recF_len]; first | done | omega)) only [go_sem, Nat.reduceEqDiff, Nat.reduceBEq, Nat.reduceAdd, Nat.reduceMul, Nat.reduceSub, Nat.reduceLeDiff, Int.reduceToNat, Int.reducePow]; rfl⟩
    · rintro m ρ σ' ⟨i, hm, he, c1, c2, q0, q4, q6, q7, q19⟩
      have d1 := slen c1
      have d2 := slen c2
      have hrl := recF_len sig dg.1 i
      by_cases hi : i < 256
      · have hi' : (i : Int) < 256 := by omega
        have hdl := dg.2
        have hB := fun σ => bits_Bit_to σ dg.1 i (by omega) (by omega)
        have hb1 := bitS_le dg.1 i
        have hnx : recF sig dg.1 (i + 1) = recS sig dg.1 i (recF sig dg.1 i) := rfl
        unfold recS at hnx
        have hSh := fun σ => shown_to σ ((sig.take (32 * i + 32)).drop (32 * i)) (by rw [List.length_drop, List.length_take]; omega)
        have hU := fun σ => codec_Unhash_to σ (sig.drop (8192 + 32 * i)) (by rw [List.length_drop]; omega)
        rw [unS_some (by rw [List.length_drop]; omega), unV_some] at hU
        generalize recF sig dg.1 i = L at *
        generalize bitS dg.1 i = b at *
        generalize shownH ((sig.take (32 * i + 32)).drop (32 * i)) = A at *
        generalize toH ((sig.drop (8192 + 32 * i)).take 32) = B at *
        have n1 : ((i : Int) * 32).toNat = 32 * i := by omega
        have n2 : (((i : Int) + 1) * 32).toNat = 32 * i + 32 := by omega
        have n3 : ((256 + (i : Int)) * 32).toNat = 8192 + 32 * i := by omega
        have n4 : (2 * (i : Int) + b).toNat = 2 * i + b := by omega
        have n5 : (2 * (i : Int) + 1 - b).toNat = 2 * i + 1 - b := by omega
        have m1 : (L.set (2 * i + b) A).length = 512 := by rw [List.length_set]; exact hrl
        have g1 := hr_get (l := L) (i := 2 * i + b) (by omega)
        have g2 := hr_get (l := L.set (2 * i + b) A) (i := 2 * i + 1 - b) (by omega)
        repeat' (first | refine SWp.seq ?_ | refine SWp.block ?_ | refine SWp.scope ?_ | refine SWp.condT rfl ?_ | refine SWp.condF rfl ?_ | (refine SWp.condD rfl (fun ht => ?_) (fun ht => ?_) <;> try (exfalso; omega)) | ((first | refine SWp.reg ?_ | refine SWp.skip ?_ | refine SWp.exit ?_ | refine SWp.ret ?_ | (apply callW.mk_pu; (first | exact (fun _ => hB _) | exact (fun _ => hSh _) | exact (fun _ => hU _))) | (apply callW.any; (first | exact (hB _) | exact (hSh _) | exact (hU _))) | ((first | apply splitG | apply splitGB | apply splitR | apply splitRB | apply splitE | apply splitEB | apply splitC | apply splitCB) <;> intro ht)); all_goals try simp (disch := first | omega | (simp only [lens, hc_len, hr_len, List.length_reverse, byteEs_len, byteEsC_len, List.length_drop, recF_len]; first | done | omega)) only [go_sem, Nat.reduceEqDiff, Nat.reduceBEq, Nat.reduceAdd, Nat.reduceMul, Nat.reduceSub, Nat.reduceLeDiff, Int.reduceToNat, Int.reducePow, q0, q4, q6, q7, q19, c1, c2, hi', hl', n1, n2, n3, n4, n5, hrl, m1, g1, g2]))
        exact ⟨m - 1, by omega, i + 1, by omega, he.set (by omega), by rw [hnx], by simp⟩
      · have hi' : ¬ (i : Int) < 256 := by omega
        obtain rfl : i = 256 := by omega
        have hL := fun y => Leaf_h (σ' ++ y) (recF sig dg.1 256) (.sl (σ.length + 2) 0 512 (some 512) 32) (.inr ⟨σ.length + 2, 0, some 512, hr (recF sig dg.1 256), by rw [hr_len, hrl], by rw [gapp d2]; exact c2, by rw [hr_len, hrl]; decide, by rw [List.drop_zero, List.take_of_length_le (Nat.le_refl _)]⟩) (by omega)
        have hL0 := hL []
        rw [List.append_nil] at hL0
        repeat' (first | refine SWp.seq ?_ | refine SWp.block ?_ | refine SWp.scope ?_ | refine SWp.condT rfl ?_ | refine SWp.condF rfl ?_ | (refine SWp.condD rfl (fun ht => ?_) (fun ht => ?_) <;> try (exfalso; omega)) | ((first | refine SWp.reg ?_ | refine SWp.skip ?_ | refine SWp.exit ?_ | refine SWp.ret ?_ | (apply callW.mk_pu; (first | exact (fun _ => hL0))) | (apply callW.any; (first | exact (hL0))) | ((first | apply splitG | apply splitGB | apply splitR | apply splitRB | apply splitE | apply splitEB | apply splitC | apply splitCB) <;> intro ht)); all_goals try simp (disch := first | omega | (simp only [lens, hc_len, hr_len, List.length_reverse, byteEs_len, byteEsC_len, List.length_drop, recF_len]; first | done | omega)) only [go_sem, Nat.reduceEqDiff, Nat.reduceBEq, Nat.reduceAdd, Nat.reduceMul, Nat.reduceSub, Nat.reduceLeDiff, Int.reduceToNat, Int.reducePow, q0, q4, q6, q7, q19, c1, c2, hi']))
        exact Ext.pure hw (he.set (by omega)) rl_hi
  · have hl' : ¬ (sig.length : Int) = 16384 := by omega
    rw [if_neg hl]
    repeat' (first | refine SWp.seq ?_ | refine SWp.block ?_ | refine SWp.scope ?_ | refine SWp.condT rfl ?_ | refine SWp.condF rfl ?_ | (refine SWp.condD rfl (fun ht => ?_) (fun ht => ?_) <;> try (exfalso; omega)) | ((first | refine SWp.reg ?_ | refine SWp.skip ?_ | refine SWp.exit ?_ | refine SWp.ret ?_ | ((first | apply splitG | apply splitGB | apply splitR | apply splitRB | apply splitE | apply splitEB | apply splitC | apply splitCB) <;> intro ht)); all_goals try simp (disch := first | omega | (simp only [lens, hc_len, hr_len, List.length_reverse, byteEs_len, byteEsC_len, List.length_drop, recF_len]; first | done | omega)) only [go_sem, Nat.reduceEqDiff, Nat.reduceBEq, Nat.reduceAdd, Nat.reduceMul, Nat.reduceSub, Nat.reduceLeDiff, Int.reduceToNat, Int.reducePow, hl']))
    exact DownV.pure hw (rl_hi (h := zeroH))
set_option maxHeartbeats 8000000 in
theorem refRecover_to (σ : Store) (sig : List UInt8) (dg : Hash) (hs : sig.length < 1000000) : ACallsTo TC 125 [.str sig, .agg (hc dg)] σ (recV sig dg.1) σ := by
  refine ACallsTo.of_body speculumref08_Recover_ok (by simp) fun hw _ => ?_
  unfold recV
  by_cases hl : sig.length = 16384
  · have hl' : (sig.length : Int) = 16384 := by omega
    rw [if_pos hl]
    have hz := hr_zero
    rw [hc_zeroX] at hz
    repeat' (first | refine SWp.seq ?_ | refine SWp.block ?_ | refine SWp.scope ?_ | refine SWp.condT rfl ?_ | refine SWp.condF rfl ?_ | (refine SWp.condD rfl (fun ht => ?_) (fun ht => ?_) <;> try (exfalso; omega)) | ((first | refine SWp.reg ?_ | refine SWp.skip ?_ | refine SWp.exit ?_ | refine SWp.ret ?_ | ((first | apply splitG | apply splitGB | apply splitR | apply splitRB | apply splitE | apply splitEB | apply splitC | apply splitCB) <;> intro ht)); all_goals try simp (disch := first | omega | (simp only [lens, hc_len, hr_len, List.length_reverse, byteEs_len, byteEsC_len, List.length_drop, recF_len]; first | done | omega)) only [go_sem, Nat.reduceEqDiff, Nat.reduceBEq, Nat.reduceAdd, Nat.reduceMul, Nat.reduceSub, Nat.reduceLeDiff, Int.reduceToNat, Int.reducePow, hl', hz]))
    refine SWp.loop (fun m ρ σ' => ∃ i : Nat, m + i = 256 ∧ Ext σ σ' ∧ σ'[σ.length]? = some (some [hc dg]) ∧ σ'[σ.length + 1]? = some (some [hc zeroH]) ∧ σ'[σ.length + 2]? = some (some (hr (recF sig dg.1 i))) ∧ ρ 0 = .str sig ∧ ρ 3 = .ptr σ.length 0 0 ∧ ρ 4 = .ptr (σ.length + 1) 0 0 ∧ ρ 6 = .sl (σ.length + 2) 0 512 (some 512) 32 ∧ ρ 7 = .int .i64 i) 256 ?_ ?_
    · exact ⟨0, by omega, (Ext.refl σ).app, by rw [gappr (by omega), Nat.sub_self]; rfl, by rw [gappr (by omega), Nat.add_sub_cancel_left]; rfl, by rw [gappr (by omega), Nat.add_sub_cancel_left]; rfl, by simp (disch := first | omega | (simp only [lens, hc_len, hr_len, List.length_reverse, byteEs_len, byteEsC_len, List.length_drop, recF_len]; first | done | omega)) only [go_sem, Nat.reduceEqDiff, Nat.reduceBEq, Nat.reduceAdd, Nat.reduceMul, Nat.reduceSub, Nat.reduceLeDiff, Int.reduceToNat, Int.reducePow], by simp (disch := first | omega | (simp only [lens, hc_len, hr_len, List.length_reverse, byteEs_len, byteEsC_len, List.length_drop, recF_len]; first | done | omega)) only [go_sem, Nat.reduceEqDiff, Nat.reduceBEq, Nat.reduceAdd, Nat.reduceMul, Nat.reduceSub, Nat.reduceLeDiff, Int.reduceToNat, Int.reducePow], by simp (disch := first | omega | (simp only [lens, hc_len, hr_len, List.length_reverse, byteEs_len, byteEsC_len, List.length_drop, recF_len]; first | done | omega)) only [go_sem, Nat.reduceEqDiff, Nat.reduceBEq, Nat.reduceAdd, Nat.reduceMul, Nat.reduceSub, Nat.reduceLeDiff, Int.reduceToNat, Int.reducePow], by simp (disch := first | omega | (simp only [lens, hc_len, hr_len, List.length_reverse, byteEs_len, byteEsC_len, List.length_drop, recF_len]; first | done | omega)) only [go_sem, Nat.reduceEqDiff, Nat.reduceBEq, Nat.reduceAdd, Nat.reduceMul, Nat.reduceSub, Nat.reduceLeDiff, Int.reduceToNat, Int.reducePow], by simp (disch := first | omega | (simp only [lens, hc_len, hr_len, List.length_reverse, byteEs_len, byteEsC_len, List.length_drop, recF_len]; first | done | omega)) only [go_sem, Nat.reduceEqDiff, Nat.reduceBEq, Nat.reduceAdd, Nat.reduceMul, Nat.reduceSub, Nat.reduceLeDiff, Int.reduceToNat, Int.reducePow]; rfl⟩
    · rintro m ρ σ' ⟨i, hm, he, c0, c1, c2, q0, q3, q4, q6, q7⟩
      have d0 := slen c0
      have d1 := slen c1
      have d2 := slen c2
      have hrl := recF_len sig dg.1 i
      by_cases hi : i < 256
      · have hi' : (i : Int) < 256 := by omega
        have hdl := dg.2
        have hB := fun σ => speculumref01_Bit_to σ dg.1 i (by omega) (by omega)
        have hb1 := bitS_le dg.1 i
        have hnx : recF sig dg.1 (i + 1) = recS sig dg.1 i (recF sig dg.1 i) := rfl
        unfold recS at hnx
        have hSh : ∀ σ, ACallsTo TC 88 [.str (3 :: (sig.take (32 * i + 32)).drop (32 * i))] σ (.agg (hc (shownH ((sig.take (32 * i + 32)).drop (32 * i))))) σ := fun σ => ref_Sum_h σ _ (by rw [List.length_cons, List.length_drop, List.length_take]; omega)
        have hU := fun σ => ref_Unhash_to σ (sig.drop (8192 + 32 * i)) (by rw [List.length_drop]; omega)
        rw [unS_some (by rw [List.length_drop]; omega), unV_some] at hU
        have hch := hc_chunk dg
        have hsl : ((sig.take (32 * i + 32)).drop (32 * i)).length = 32 := by rw [List.length_drop, List.length_take]; omega
        generalize recF sig dg.1 i = L at *
        generalize bitS dg.1 i = b at *
        generalize shownH ((sig.take (32 * i + 32)).drop (32 * i)) = A at *
        generalize toH ((sig.drop (8192 + 32 * i)).take 32) = B at *
        have n1 : (32 * (i : Int)).toNat = 32 * i := by omega
        have n2 : (32 * (i : Int) + 32).toNat = 32 * i + 32 := by omega
        have n3 : (8192 + 32 * (i : Int)).toNat = 8192 + 32 * i := by omega
        have n4 : (2 * (i : Int) + b).toNat = 2 * i + b := by omega
        have n5 : (2 * (i : Int) + 1 - b).toNat = 2 * i + 1 - b := by omega
        have m1 : (L.set (2 * i + b) A).length = 512 := by rw [List.length_set]; exact hrl
        have g1 := hr_get (l := L) (i := 2 * i + b) (by omega)
        have g2 := hr_get (l := L.set (2 * i + b) A) (i := 2 * i + 1 - b) (by omega)
        repeat' (first | refine SWp.seq ?_ | refine SWp.block ?_ | refine SWp.scope ?_ | refine SWp.condT rfl ?_ | refine SWp.condF rfl ?_ | (refine SWp.condD rfl (fun ht => ?_) (fun ht => ?_) <;> try (exfalso; omega)) | ((first | refine SWp.reg ?_ | refine SWp.skip ?_ | refine SWp.exit ?_ | refine SWp.ret ?_ | (apply callW.mk_pu; (first | exact (fun _ => hB _) | exact (fun _ => hSh _) | exact (fun _ => hU _))) | (apply callW.any; (first | exact (hB _) | exact (hSh _) | exact (hU _))) | ((first | apply splitG | apply splitGB | apply splitR | apply splitRB | apply splitE | apply splitEB | apply splitC | apply splitCB) <;> intro ht)); all_goals try simp (disch := first | omega | (simp only [lens, hc_len, hr_len, List.length_reverse, byteEs_len, byteEsC_len, List.length_drop, recF_len]; first | done | omega)) only [go_sem, Nat.reduceEqDiff, Nat.reduceBEq, Nat.reduceAdd, Nat.reduceMul, Nat.reduceSub, Nat.reduceLeDiff, Int.reduceToNat, Int.reducePow, q0, q3, q4, q6, q7, c0, c1, c2, hi', hl', n1, n2, n3, n4, n5, hrl, m1, g1, g2, hch, hsl]))
        exact ⟨m - 1, by omega, i + 1, by omega, (he.set (by omega)).app, by rw [hnx], by simp⟩
      · have hi' : ¬ (i : Int) < 256 := by omega
        obtain rfl : i = 256 := by omega
        have hL := fun y => refLeaf_rd (σ' ++ y) (recF sig dg.1 256) (σ.length + 2) (some 512) (by rw [gapp d2]; exact c2) hrl
        have hL0 := hL []
        rw [List.append_nil] at hL0
        repeat' (first | refine SWp.seq ?_ | refine SWp.block ?_ | refine SWp.scope ?_ | refine SWp.condT rfl ?_ | refine SWp.condF rfl ?_ | (refine SWp.condD rfl (fun ht => ?_) (fun ht => ?_) <;> try (exfalso; omega)) | ((first | refine SWp.reg ?_ | refine SWp.skip ?_ | refine SWp.exit ?_ | refine SWp.ret ?_ | (apply callW.mk_pu; (first | exact (fun _ => hL0))) | (apply callW.any; (first | exact (hL0))) | ((first | apply splitG | apply splitGB | apply splitR | apply splitRB | apply splitE | apply splitEB | apply splitC | apply splitCB) <;> intro ht)); all_goals try simp (disch := first | omega | (simp only [lens, hc_len, hr_len, List.length_reverse, byteEs_len, byteEsC_len, List.length_drop, recF_len]; first | done | omega)) only [go_sem, Nat.reduceEqDiff, Nat.reduceBEq, Nat.reduceAdd, Nat.reduceMul, Nat.reduceSub, Nat.reduceLeDiff, Int.reduceToNat, Int.reducePow, q0, q3, q4, q6, q7, c0, c1, c2, hi']))
        exact Ext.pure hw (he.set (by omega)) rl_hi
  · have hl' : ¬ (sig.length : Int) = 16384 := by omega
    rw [if_neg hl]
    repeat' (first | refine SWp.seq ?_ | refine SWp.block ?_ | refine SWp.scope ?_ | refine SWp.condT rfl ?_ | refine SWp.condF rfl ?_ | (refine SWp.condD rfl (fun ht => ?_) (fun ht => ?_) <;> try (exfalso; omega)) | ((first | refine SWp.reg ?_ | refine SWp.skip ?_ | refine SWp.exit ?_ | refine SWp.ret ?_ | ((first | apply splitG | apply splitGB | apply splitR | apply splitRB | apply splitE | apply splitEB | apply splitC | apply splitCB) <;> intro ht)); all_goals try simp (disch := first | omega | (simp only [lens, hc_len, hr_len, List.length_reverse, byteEs_len, byteEsC_len, List.length_drop, recF_len]; first | done | omega)) only [go_sem, Nat.reduceEqDiff, Nat.reduceBEq, Nat.reduceAdd, Nat.reduceMul, Nat.reduceSub, Nat.reduceLeDiff, Int.reduceToNat, Int.reducePow, hl']))
    exact DownV.pure hw (rl_hi (h := zeroH))
end Am
end Go.Proofs.YthgcooppjhcgcaaDoor
end
section
set_option linter.unusedSimpArgs false
set_option linter.unusedVariables false
/- Paths: Check: plain, and the program's contract. -/
namespace Go.Proofs.YthgcooppjhcgcaaDoor
namespace Am
def strip : Nat → Nat → Nat → Nat × Nat
  | 0, i, l => (i, l)
  | f + 1, i, l => if i % 2 = 0 ∧ 0 < i then strip f (i / 2) (l / 2) else (i, l)
/-- What is come to, what is left of the last one's number, how many were used. -/
def climb : List Hash → Hash → Nat → Nat → Hash × Nat × Nat
  | [], h, _, l => (h, l, 0)
  | p :: ps, h, i, l => if l = 0 then (h, 0, 0) else
    if i % 2 = 1 ∨ i = l then let r := climb ps (nodeH p h) ((strip 13 i l).1 / 2) ((strip 13 i l).2 / 2); (r.1, r.2.1, r.2.2 + 1)
    else let r := climb ps (nodeH h p) (i / 2) (l / 2); (r.1, r.2.1, r.2.2 + 1)
def climbE (r : Hash × Nat × Nat) (root : Hash) (len : Nat) : Int := if r.2.1 ≠ 0 ∨ r.2.2 ≠ len ∨ r.1 ≠ root then 80 else 0
def chkP (leaf : Hash) (i n : Int) (path : List Hash) (root : Hash) : Int :=
  if n < 1 ∨ 4096 < n ∨ i < 0 ∨ n ≤ i then 2 else climbE (climb path leaf i.toNat (n.toNat - 1)) root path.length
theorem strip_stop {f i l : Nat} (h : ¬ (i % 2 = 0 ∧ 0 < i)) : strip f i l = (i, l) := by
  cases f with
  | zero => rfl
  | succ f => rw [strip, if_neg h]
attribute [local irreducible] ACallsTo ACallsP
set_option maxHeartbeats 16000000 in
theorem Check_v (σ : Store) (leaf : Hash) (i n : Int) (path : List Hash) (x : AV) (root : Hash) (hx : SlV 32 (hr path) x) (hl : path.length < 1000000) (hi : -9223372036854775808 ≤ i ∧ i ≤ 9223372036854775807) (hn : -9223372036854775808 ≤ n ∧ n ≤ 9223372036854775807) :
    ACallsTo TC 124 [.agg (hc leaf), .int .i64 i, .int .i64 n, x, .agg (hc root)] σ (.int .i64 (chkP leaf i n path root)) σ := by
  have r1 := hx.len
  rw [hr_len] at r1
  unfold rLenSl at r1
  unfold chkP
  by_cases hb : n < 1 ∨ 4096 < n ∨ i < 0 ∨ n ≤ i
  · rw [if_pos hb]
    refine ACallsTo.of_body paths_Check_ok (by simp) fun hw _ => ?_
    repeat' (first | refine SWp.seq ?_ | refine SWp.block ?_ | refine SWp.scope ?_ | refine SWp.condT rfl ?_ | refine SWp.condF rfl ?_ | (refine SWp.condD rfl (fun ht => ?_) (fun ht => ?_) <;> try (exfalso; omega)) | ((first | refine SWp.reg ?_ | refine SWp.skip ?_ | refine SWp.exit ?_ | refine SWp.ret ?_ | ((first | apply splitG | apply splitGB | apply splitR | apply splitRB | apply splitE | apply splitEB | apply splitC | apply splitCB) <;> intro ht)); all_goals try simp (disch := first | omega | (simp only [lens, hc_len, hr_len, List.length_reverse, List.length_drop]; first | done | omega)) only [go_sem, Nat.reduceEqDiff, Nat.reduceBEq, Nat.reduceAdd, Nat.reduceMul, Nat.reduceSub, Nat.reduceLeDiff, Int.reduceToNat, Int.reducePow, r1]))
    all_goals exact DownV.pure hw (rlB_ok _ rfl)
  · rw [if_neg hb]
    obtain ⟨i, rfl⟩ : ∃ k : Nat, i = k := ⟨i.toNat, by omega⟩
    obtain ⟨l, rfl⟩ : ∃ l : Nat, n = ((l + 1 : Nat) : Int) := ⟨n.toNat - 1, by omega⟩
    rw [Int.toNat_natCast, Int.toNat_natCast, Nat.add_sub_cancel]
    have hl1 : ((l + 1 : Nat) : Int) - 1 = (l : Int) := by omega
    refine ACallsTo.of_body paths_Check_ok (by simp) fun hw _ => ?_
    repeat' (first | refine SWp.seq ?_ | refine SWp.block ?_ | refine SWp.scope ?_ | refine SWp.condT rfl ?_ | refine SWp.condF rfl ?_ | (refine SWp.condD rfl (fun ht => ?_) (fun ht => ?_) <;> try (exfalso; omega)) | ((first | refine SWp.reg ?_ | refine SWp.skip ?_ | refine SWp.exit ?_ | refine SWp.ret ?_ | ((first | apply splitG | apply splitGB | apply splitR | apply splitRB | apply splitE | apply splitEB | apply splitC | apply splitCB) <;> intro ht)); all_goals try simp (disch := first | omega | (simp only [lens, hc_len, hr_len, List.length_reverse, List.length_drop]; first | done | omega)) only [go_sem, Nat.reduceEqDiff, Nat.reduceBEq, Nat.reduceAdd, Nat.reduceMul, Nat.reduceSub, Nat.reduceLeDiff, Int.reduceToNat, Int.reducePow, r1, hl1]))
    obtain ⟨R, hR⟩ : ∃ R, climb path leaf i l = R := ⟨_, rfl⟩
    rw [hR]
    refine SWp.loop (fun m ρ σ' => ∃ (k i' l' : Nat) (h : Hash), m + k = path.length ∧ Ext σ σ' ∧ i' ≤ l' ∧ l' < 4096 ∧ R = ((climb (path.drop k) h i' l').1, (climb (path.drop k) h i' l').2.1, (climb (path.drop k) h i' l').2.2 + k) ∧ σ'[σ.length]? = some (some [hc h]) ∧ σ'[σ.length + 1]? = some (some [hc root]) ∧
      ρ 1 = .int .i64 i' ∧ ρ 3 = x ∧ ρ 5 = .ptr σ.length 0 0 ∧ ρ 9 = .ptr (σ.length + 1) 0 0 ∧ ρ 11 = .int .i64 l' ∧ ρ 12 = .int .i64 k ∧ ρ 32 = x ∧ ρ 33 = .int .i64 path.length ∧ ρ 34 = .int .i64 k) path.length ?_ ?_
    · exact ⟨0, i, l, leaf, by omega, (Ext.refl σ).app, by omega, by omega, by rw [List.drop_zero, hR]; rfl, by simp, by simp, by simp (disch := first | omega | (simp only [lens, hc_len, hr_len, List.length_reverse, List.length_drop]; first | done | omega)) only [go_sem, Nat.reduceEqDiff, Nat.reduceBEq, Nat.reduceAdd, Nat.reduceMul, Nat.reduceSub, Nat.reduceLeDiff, Int.reduceToNat, Int.reducePow], by simp (disch := first | omega | (simp only [lens, hc_len, hr_len, List.length_reverse, List.length_drop]; first | done | omega)) only [go_sem, Nat.reduceEqDiff, Nat.reduceBEq, Nat.reduceAdd, Nat.reduceMul, Nat.reduceSub, Nat.reduceLeDiff, Int.reduceToNat, Int.reducePow], by simp (disch := first | omega | (simp only [lens, hc_len, hr_len, List.length_reverse, List.length_drop]; first | done | omega)) only [go_sem, Nat.reduceEqDiff, Nat.reduceBEq, Nat.reduceAdd, Nat.reduceMul, Nat.reduceSub, Nat.reduceLeDiff, Int.reduceToNat, Int.reducePow], by simp (disch := first | omega | (simp only [lens, hc_len, hr_len, List.length_reverse, List.length_drop]; first | done | omega)) only [go_sem, Nat.reduceEqDiff, Nat.reduceBEq, Nat.reduceAdd, Nat.reduceMul, Nat.reduceSub, Nat.reduceLeDiff, Int.reduceToNat, Int.reducePow], by simp (disch := first | omega | (simp only [lens, hc_len, hr_len, List.length_reverse, List.length_drop]; first | done | omega)) only [go_sem, Nat.reduceEqDiff, Nat.reduceBEq, Nat.reduceAdd, Nat.reduceMul, Nat.reduceSub, Nat.reduceLeDiff, Int.reduceToNat, Int.reducePow], by simp (disch := first | omega | (simp only [lens, hc_len, hr_len, List.length_reverse, List.length_drop]; first | done | omega)) only [go_sem, Nat.reduceEqDiff, Nat.reduceBEq, Nat.reduceAdd, Nat.reduceMul, Nat.reduceSub, Nat.reduceLeDiff, Int.reduceToNat, Int.reducePow]; rfl, by simp (disch := first | omega | (simp only [lens, hc_len, hr_len, List.length_reverse, List.length_drop]; first | done | omega)) only [go_sem, Nat.reduceEqDiff, Nat.reduceBEq, Nat.reduceAdd, Nat.reduceMul, Nat.reduceSub, Nat.reduceLeDiff, Int.reduceToNat, Int.reducePow], by simp (disch := first | omega | (simp only [lens, hc_len, hr_len, List.length_reverse, List.length_drop]; first | done | omega)) only [go_sem, Nat.reduceEqDiff, Nat.reduceBEq, Nat.reduceAdd, Nat.reduceMul, Nat.reduceSub, Nat.reduceLeDiff, Int.reduceToNat, Int.reducePow, r1], by simp (disch := first | omega | (simp only [lens, hc_len, hr_len, List.length_reverse, List.length_drop]; first | done | omega)) only [go_sem, Nat.reduceEqDiff, Nat.reduceBEq, Nat.reduceAdd, Nat.reduceMul, Nat.reduceSub, Nat.reduceLeDiff, Int.reduceToNat, Int.reducePow]; rfl⟩
    · clear hR
      rintro m ρ σ' ⟨k, i', l', h, hm, he, hil, hl4, hR, c0, c1, q1, q3, q5, q9, q11, q12, q32, q33, q34⟩
      have d0 := slen c0
      have d1 := slen c1
      by_cases hk : k < path.length
      · have hdr : path.drop k = hd path k :: path.drop (k + 1) := by
          rw [List.drop_eq_getElem_cons hk, hd_get hk]
        rw [hdr] at hR
        obtain ⟨ex, rfl⟩ := hx.vsl (by rw [hr_len]; omega)
        by_cases hl0 : l' = 0
        · subst hl0
          simp only [climb, if_true] at hR
          subst hR
          repeat' (first | refine SWp.seq ?_ | refine SWp.block ?_ | refine SWp.scope ?_ | refine SWp.condT rfl ?_ | refine SWp.condF rfl ?_ | (refine SWp.condD rfl (fun ht => ?_) (fun ht => ?_) <;> try (exfalso; omega)) | ((first | refine SWp.reg ?_ | refine SWp.skip ?_ | refine SWp.exit ?_ | refine SWp.ret ?_ | ((first | apply splitG | apply splitGB | apply splitR | apply splitRB | apply splitE | apply splitEB | apply splitC | apply splitCB) <;> intro ht)); all_goals try simp (disch := first | omega | (simp only [lens, hc_len, hr_len, List.length_reverse, List.length_drop]; first | done | omega)) only [go_sem, Nat.reduceEqDiff, Nat.reduceBEq, Nat.reduceAdd, Nat.reduceMul, Nat.reduceSub, Nat.reduceLeDiff, Int.reduceToNat, Int.reducePow, q1, q3, q5, q9, q11, q12, q32, q33, q34, c0, c1]))
          have hE : climbE (h, 0, 0 + k) root path.length = 80 := by
            unfold climbE
            rw [if_pos (.inr (.inl (by show 0 + k ≠ _; omega)))]
          rw [Nat.zero_add] at hE
          rw [hE]
          exact Ext.pure hw he.app (rlB_ok _ rfl)
        · have hl0' : ¬ (l' : Int) = 0 := by omega
          have t1 : (i' : Int) / 2 = ((i' / 2 : Nat) : Int) := by simp
          have t2 : (l' : Int) / 2 = ((l' / 2 : Nat) : Int) := by simp
          by_cases hcc : i' % 2 = 1 ∨ i' = l'
          · simp only [climb] at hR
            rw [if_neg hl0, if_pos hcc] at hR
            have hN := fun σ => trees_Node_h σ (hd path k) h
            generalize nodeH (hd path k) h = h2 at *
            rcases Nat.mod_two_eq_zero_or_one i' with hp | hp
            · have hp' : (i' : Int) % 2 = 0 := by omega
              have hil2 : (i' : Int) = l' := by omega
              have hil3 : i' = l' := by omega
              repeat' (first | refine SWp.seq ?_ | refine SWp.block ?_ | refine SWp.scope ?_ | refine SWp.condT rfl ?_ | refine SWp.condF rfl ?_ | (refine SWp.condD rfl (fun ht => ?_) (fun ht => ?_) <;> try (exfalso; omega)) | ((first | refine SWp.reg ?_ | refine SWp.skip ?_ | refine SWp.exit ?_ | refine SWp.ret ?_ | (apply callW.mk_pu; (first | exact (fun _ => hN _))) | (apply callW.any; (first | exact (hN _))) | ((first | apply splitG | apply splitGB | apply splitR | apply splitRB | apply splitE | apply splitEB | apply splitC | apply splitCB) <;> intro ht)); all_goals try simp (disch := first | omega | (simp only [lens, hc_len, hr_len, List.length_reverse, List.length_drop]; first | done | omega)) only [go_sem, Nat.reduceEqDiff, Nat.reduceBEq, Nat.reduceAdd, Nat.reduceMul, Nat.reduceSub, Nat.reduceLeDiff, Int.reduceToNat, Int.reducePow, q1, q3, q5, q9, q11, q12, q32, q33, q34, c0, c1, hl0', hp', hil2]))
              refine SWp.loop (fun m2 ρ2 σ2 => ∃ (i2 l2 f : Nat), m2 = i2 ∧ σ2 = σ'.set σ.length (some [hc h2]) ++ [some [hc (hd path k)]] ∧ strip f i2 l2 = strip 13 i' l' ∧ i2 < 2 ^ f ∧ i2 ≤ l2 ∧ l2 ≤ l' ∧ ρ2 1 = .int .i64 i2 ∧ ρ2 3 = .vsl 32 (hr path) ex ∧ ρ2 5 = .ptr σ.length 0 0 ∧ ρ2 9 = .ptr (σ.length + 1) 0 0 ∧ ρ2 11 = .int .i64 l2 ∧ ρ2 12 = .int .i64 k ∧ ρ2 32 = .vsl 32 (hr path) ex ∧ ρ2 33 = .int .i64 path.length ∧ ρ2 34 = .int .i64 k) i' ?_ ?_
              · exact ⟨i', l', 13, rfl, rfl, rfl, by omega, hil, Nat.le_refl _, by simp (disch := first | omega | (simp only [lens, hc_len, hr_len, List.length_reverse, List.length_drop]; first | done | omega)) only [go_sem, Nat.reduceEqDiff, Nat.reduceBEq, Nat.reduceAdd, Nat.reduceMul, Nat.reduceSub, Nat.reduceLeDiff, Int.reduceToNat, Int.reducePow, q1], by simp (disch := first | omega | (simp only [lens, hc_len, hr_len, List.length_reverse, List.length_drop]; first | done | omega)) only [go_sem, Nat.reduceEqDiff, Nat.reduceBEq, Nat.reduceAdd, Nat.reduceMul, Nat.reduceSub, Nat.reduceLeDiff, Int.reduceToNat, Int.reducePow, q3], by simp (disch := first | omega | (simp only [lens, hc_len, hr_len, List.length_reverse, List.length_drop]; first | done | omega)) only [go_sem, Nat.reduceEqDiff, Nat.reduceBEq, Nat.reduceAdd, Nat.reduceMul, Nat.reduceSub, Nat.reduceLeDiff, Int.reduceToNat, Int.reducePow, q5], by simp (disch := first | omega | (simp only [lens, hc_len, hr_len, List.length_reverse, List.length_drop]; first | done | omega)) only [go_sem, Nat.reduceEqDiff, Nat.reduceBEq, Nat.reduceAdd, Nat.reduceMul, Nat.reduceSub, Nat.reduceLeDiff, Int.reduceToNat, Int.reducePow, q9], by simp (disch := first | omega | (simp only [lens, hc_len, hr_len, List.length_reverse, List.length_drop]; first | done | omega)) only [go_sem, Nat.reduceEqDiff, Nat.reduceBEq, Nat.reduceAdd, Nat.reduceMul, Nat.reduceSub, Nat.reduceLeDiff, Int.reduceToNat, Int.reducePow, q11], by simp (disch := first | omega | (simp only [lens, hc_len, hr_len, List.length_reverse, List.length_drop]; first | done | omega)) only [go_sem, Nat.reduceEqDiff, Nat.reduceBEq, Nat.reduceAdd, Nat.reduceMul, Nat.reduceSub, Nat.reduceLeDiff, Int.reduceToNat, Int.reducePow, q12], by simp (disch := first | omega | (simp only [lens, hc_len, hr_len, List.length_reverse, List.length_drop]; first | done | omega)) only [go_sem, Nat.reduceEqDiff, Nat.reduceBEq, Nat.reduceAdd, Nat.reduceMul, Nat.reduceSub, Nat.reduceLeDiff, Int.reduceToNat, Int.reducePow, q32], by simp (disch := first | omega | (simp only [lens, hc_len, hr_len, List.length_reverse, List.length_drop]; first | done | omega)) only [go_sem, Nat.reduceEqDiff, Nat.reduceBEq, Nat.reduceAdd, Nat.reduceMul, Nat.reduceSub, Nat.reduceLeDiff, Int.reduceToNat, Int.reducePow, q33], by simp (disch := first | omega | (simp only [lens, hc_len, hr_len, List.length_reverse, List.length_drop]; first | done | omega)) only [go_sem, Nat.reduceEqDiff, Nat.reduceBEq, Nat.reduceAdd, Nat.reduceMul, Nat.reduceSub, Nat.reduceLeDiff, Int.reduceToNat, Int.reducePow, q34]⟩
              · rintro m2 ρ2 σ2 ⟨i2, l2, f, rfl, rfl, hst, hf, hil2, hll, p1, p3, p5, p9, p11, p12, p32, p33, p34⟩
                have t3 : (m2 : Int) / 2 = ((m2 / 2 : Nat) : Int) := by simp
                have t4 : (l2 : Int) / 2 = ((l2 / 2 : Nat) : Int) := by simp
                clear q1 q3 q5 q9 q11 q12 q32 q33 q34
                by_cases hc2 : m2 % 2 = 0 ∧ 0 < m2
                · have u1 : (m2 : Int) % 2 = 0 := by omega
                  have u2 : (m2 : Int) > 0 := by omega
                  cases f with
                  | zero => simp at hf; omega
                  | succ f =>
                    rw [strip, if_pos hc2] at hst
                    rw [Nat.pow_succ] at hf
                    repeat' (first | refine SWp.seq ?_ | refine SWp.block ?_ | refine SWp.scope ?_ | refine SWp.condT rfl ?_ | refine SWp.condF rfl ?_ | (refine SWp.condD rfl (fun ht => ?_) (fun ht => ?_) <;> try (exfalso; omega)) | ((first | refine SWp.reg ?_ | refine SWp.skip ?_ | refine SWp.exit ?_ | refine SWp.ret ?_ | ((first | apply splitG | apply splitGB | apply splitR | apply splitRB | apply splitE | apply splitEB | apply splitC | apply splitCB) <;> intro ht)); all_goals try simp (disch := first | omega | (simp only [lens, hc_len, hr_len, List.length_reverse, List.length_drop]; first | done | omega)) only [go_sem, Nat.reduceEqDiff, Nat.reduceBEq, Nat.reduceAdd, Nat.reduceMul, Nat.reduceSub, Nat.reduceLeDiff, Int.reduceToNat, Int.reducePow, p1, p3, p5, p9, p11, p12, p32, p33, p34, u1, u2, t3, t4]))
                    exact ⟨m2 / 2, by omega, m2 / 2, l2 / 2, f, rfl, hst, by omega, by omega, by omega, by simp⟩
                · rw [strip_stop hc2] at hst
                  rw [← hst] at hR
                  rcases Nat.eq_zero_or_pos m2 with hz | hz
                  · subst hz
                    repeat' (first | refine SWp.seq ?_ | refine SWp.block ?_ | refine SWp.scope ?_ | refine SWp.condT rfl ?_ | refine SWp.condF rfl ?_ | (refine SWp.condD rfl (fun ht => ?_) (fun ht => ?_) <;> try (exfalso; omega)) | ((first | refine SWp.reg ?_ | refine SWp.skip ?_ | refine SWp.exit ?_ | refine SWp.ret ?_ | ((first | apply splitG | apply splitGB | apply splitR | apply splitRB | apply splitE | apply splitEB | apply splitC | apply splitCB) <;> intro ht)); all_goals try simp (disch := first | omega | (simp only [lens, hc_len, hr_len, List.length_reverse, List.length_drop]; first | done | omega)) only [go_sem, Nat.reduceEqDiff, Nat.reduceBEq, Nat.reduceAdd, Nat.reduceMul, Nat.reduceSub, Nat.reduceLeDiff, Int.reduceToNat, Int.reducePow, p1, p3, p5, p9, p11, p12, p32, p33, p34, t3, t4]))
                    exact ⟨m - 1, by omega, k + 1, 0, l2 / 2, h2, by omega, (he.set (by omega)).app, by omega, by omega, by rw [hR]; simp [Nat.add_assoc, Nat.add_comm 1 k], by simp [c1]⟩
                  · have u1 : ¬ (m2 : Int) % 2 = 0 := by omega
                    repeat' (first | refine SWp.seq ?_ | refine SWp.block ?_ | refine SWp.scope ?_ | refine SWp.condT rfl ?_ | refine SWp.condF rfl ?_ | (refine SWp.condD rfl (fun ht => ?_) (fun ht => ?_) <;> try (exfalso; omega)) | ((first | refine SWp.reg ?_ | refine SWp.skip ?_ | refine SWp.exit ?_ | refine SWp.ret ?_ | ((first | apply splitG | apply splitGB | apply splitR | apply splitRB | apply splitE | apply splitEB | apply splitC | apply splitCB) <;> intro ht)); all_goals try simp (disch := first | omega | (simp only [lens, hc_len, hr_len, List.length_reverse, List.length_drop]; first | done | omega)) only [go_sem, Nat.reduceEqDiff, Nat.reduceBEq, Nat.reduceAdd, Nat.reduceMul, Nat.reduceSub, Nat.reduceLeDiff, Int.reduceToNat, Int.reducePow, p1, p3, p5, p9, p11, p12, p32, p33, p34, u1, t3, t4]))
                    exact ⟨m - 1, by omega, k + 1, m2 / 2, l2 / 2, h2, by omega, (he.set (by omega)).app, by omega, by omega, by rw [hR]; simp [Nat.add_assoc, Nat.add_comm 1 k], by simp [c1]⟩
            · have hp' : (i' : Int) % 2 = 1 := by omega
              repeat' (first | refine SWp.seq ?_ | refine SWp.block ?_ | refine SWp.scope ?_ | refine SWp.condT rfl ?_ | refine SWp.condF rfl ?_ | (refine SWp.condD rfl (fun ht => ?_) (fun ht => ?_) <;> try (exfalso; omega)) | ((first | refine SWp.reg ?_ | refine SWp.skip ?_ | refine SWp.exit ?_ | refine SWp.ret ?_ | (apply callW.mk_pu; (first | exact (fun _ => hN _))) | (apply callW.any; (first | exact (hN _))) | ((first | apply splitG | apply splitGB | apply splitR | apply splitRB | apply splitE | apply splitEB | apply splitC | apply splitCB) <;> intro ht)); all_goals try simp (disch := first | omega | (simp only [lens, hc_len, hr_len, List.length_reverse, List.length_drop]; first | done | omega)) only [go_sem, Nat.reduceEqDiff, Nat.reduceBEq, Nat.reduceAdd, Nat.reduceMul, Nat.reduceSub, Nat.reduceLeDiff, Int.reduceToNat, Int.reducePow, q1, q3, q5, q9, q11, q12, q32, q33, q34, c0, c1, hl0', hp']))
              refine SWp.loop (fun m2 ρ2 σ2 => ∃ (i2 l2 f : Nat), m2 = i2 ∧ σ2 = σ'.set σ.length (some [hc h2]) ++ [some [hc (hd path k)]] ∧ strip f i2 l2 = strip 13 i' l' ∧ i2 < 2 ^ f ∧ i2 ≤ l2 ∧ l2 ≤ l' ∧ ρ2 1 = .int .i64 i2 ∧ ρ2 3 = .vsl 32 (hr path) ex ∧ ρ2 5 = .ptr σ.length 0 0 ∧ ρ2 9 = .ptr (σ.length + 1) 0 0 ∧ ρ2 11 = .int .i64 l2 ∧ ρ2 12 = .int .i64 k ∧ ρ2 32 = .vsl 32 (hr path) ex ∧ ρ2 33 = .int .i64 path.length ∧ ρ2 34 = .int .i64 k) i' ?_ ?_
              · exact ⟨i', l', 13, rfl, rfl, rfl, by omega, hil, Nat.le_refl _, by simp (disch := first | omega | (simp only [lens, hc_len, hr_len, List.length_reverse, List.length_drop]; first | done | omega)) only [go_sem, Nat.reduceEqDiff, Nat.reduceBEq, Nat.reduceAdd, Nat.reduceMul, Nat.reduceSub, Nat.reduceLeDiff, Int.reduceToNat, Int.reducePow, q1], by simp (disch := first | omega | (simp only [lens, hc_len, hr_len, List.length_reverse, List.length_drop]; first | done | omega)) only [go_sem, Nat.reduceEqDiff, Nat.reduceBEq, Nat.reduceAdd, Nat.reduceMul, Nat.reduceSub, Nat.reduceLeDiff, Int.reduceToNat, Int.reducePow, q3], by simp (disch := first | omega | (simp only [lens, hc_len, hr_len, List.length_reverse, List.length_drop]; first | done | omega)) only [go_sem, Nat.reduceEqDiff, Nat.reduceBEq, Nat.reduceAdd, Nat.reduceMul, Nat.reduceSub, Nat.reduceLeDiff, Int.reduceToNat, Int.reducePow, q5], by simp (disch := first | omega | (simp only [lens, hc_len, hr_len, List.length_reverse, List.length_drop]; first | done | omega)) only [go_sem, Nat.reduceEqDiff, Nat.reduceBEq, Nat.reduceAdd, Nat.reduceMul, Nat.reduceSub, Nat.reduceLeDiff, Int.reduceToNat, Int.reducePow, q9], by simp (disch := first | omega | (simp only [lens, hc_len, hr_len, List.length_reverse, List.length_drop]; first | done | omega)) only [go_sem, Nat.reduceEqDiff, Nat.reduceBEq, Nat.reduceAdd, Nat.reduceMul, Nat.reduceSub, Nat.reduceLeDiff, Int.reduceToNat, Int.reducePow, q11], by simp (disch := first | omega | (simp only [lens, hc_len, hr_len, List.length_reverse, List.length_drop]; first | done | omega)) only [go_sem, Nat.reduceEqDiff, Nat.reduceBEq, Nat.reduceAdd, Nat.reduceMul, Nat.reduceSub, Nat.reduceLeDiff, Int.reduceToNat, Int.reducePow, q12], by simp (disch := first | omega | (simp only [lens, hc_len, hr_len, List.length_reverse, List.length_drop]; first | done | omega)) only [go_sem, Nat.reduceEqDiff, Nat.reduceBEq, Nat.reduceAdd, Nat.reduceMul, Nat.reduceSub, Nat.reduceLeDiff, Int.reduceToNat, Int.reducePow, q32], by simp (disch := first | omega | (simp only [lens, hc_len, hr_len, List.length_reverse, List.length_drop]; first | done | omega)) only [go_sem, Nat.reduceEqDiff, Nat.reduceBEq, Nat.reduceAdd, Nat.reduceMul, Nat.reduceSub, Nat.reduceLeDiff, Int.reduceToNat, Int.reducePow, q33], by simp (disch := first | omega | (simp only [lens, hc_len, hr_len, List.length_reverse, List.length_drop]; first | done | omega)) only [go_sem, Nat.reduceEqDiff, Nat.reduceBEq, Nat.reduceAdd, Nat.reduceMul, Nat.reduceSub, Nat.reduceLeDiff, Int.reduceToNat, Int.reducePow, q34]⟩
              · rintro m2 ρ2 σ2 ⟨i2, l2, f, rfl, rfl, hst, hf, hil2, hll, p1, p3, p5, p9, p11, p12, p32, p33, p34⟩
                have t3 : (m2 : Int) / 2 = ((m2 / 2 : Nat) : Int) := by simp
                have t4 : (l2 : Int) / 2 = ((l2 / 2 : Nat) : Int) := by simp
                clear q1 q3 q5 q9 q11 q12 q32 q33 q34
                by_cases hc2 : m2 % 2 = 0 ∧ 0 < m2
                · have u1 : (m2 : Int) % 2 = 0 := by omega
                  have u2 : (m2 : Int) > 0 := by omega
                  cases f with
                  | zero => simp at hf; omega
                  | succ f =>
                    rw [strip, if_pos hc2] at hst
                    rw [Nat.pow_succ] at hf
                    repeat' (first | refine SWp.seq ?_ | refine SWp.block ?_ | refine SWp.scope ?_ | refine SWp.condT rfl ?_ | refine SWp.condF rfl ?_ | (refine SWp.condD rfl (fun ht => ?_) (fun ht => ?_) <;> try (exfalso; omega)) | ((first | refine SWp.reg ?_ | refine SWp.skip ?_ | refine SWp.exit ?_ | refine SWp.ret ?_ | ((first | apply splitG | apply splitGB | apply splitR | apply splitRB | apply splitE | apply splitEB | apply splitC | apply splitCB) <;> intro ht)); all_goals try simp (disch := first | omega | (simp only [lens, hc_len, hr_len, List.length_reverse, List.length_drop]; first | done | omega)) only [go_sem, Nat.reduceEqDiff, Nat.reduceBEq, Nat.reduceAdd, Nat.reduceMul, Nat.reduceSub, Nat.reduceLeDiff, Int.reduceToNat, Int.reducePow, p1, p3, p5, p9, p11, p12, p32, p33, p34, u1, u2, t3, t4]))
                    exact ⟨m2 / 2, by omega, m2 / 2, l2 / 2, f, rfl, hst, by omega, by omega, by omega, by simp⟩
                · rw [strip_stop hc2] at hst
                  rw [← hst] at hR
                  rcases Nat.eq_zero_or_pos m2 with hz | hz
                  · subst hz
                    repeat' (first | refine SWp.seq ?_ | refine SWp.block ?_ | refine SWp.scope ?_ | refine SWp.condT rfl ?_ | refine SWp.condF rfl ?_ | (refine SWp.condD rfl (fun ht => ?_) (fun ht => ?_) <;> try (exfalso; omega)) | ((first | refine SWp.reg ?_ | refine SWp.skip ?_ | refine SWp.exit ?_ | refine SWp.ret ?_ | ((first | apply splitG | apply splitGB | apply splitR | apply splitRB | apply splitE | apply splitEB | apply splitC | apply splitCB) <;> intro ht)); all_goals try simp (disch := first | omega | (simp only [lens, hc_len, hr_len, List.length_reverse, List.length_drop]; first | done | omega)) only [go_sem, Nat.reduceEqDiff, Nat.reduceBEq, Nat.reduceAdd, Nat.reduceMul, Nat.reduceSub, Nat.reduceLeDiff, Int.reduceToNat, Int.reducePow, p1, p3, p5, p9, p11, p12, p32, p33, p34, t3, t4]))
                    exact ⟨m - 1, by omega, k + 1, 0, l2 / 2, h2, by omega, (he.set (by omega)).app, by omega, by omega, by rw [hR]; simp [Nat.add_assoc, Nat.add_comm 1 k], by simp [c1]⟩
                  · have u1 : ¬ (m2 : Int) % 2 = 0 := by omega
                    repeat' (first | refine SWp.seq ?_ | refine SWp.block ?_ | refine SWp.scope ?_ | refine SWp.condT rfl ?_ | refine SWp.condF rfl ?_ | (refine SWp.condD rfl (fun ht => ?_) (fun ht => ?_) <;> try (exfalso; omega)) | ((first | refine SWp.reg ?_ | refine SWp.skip ?_ | refine SWp.exit ?_ | refine SWp.ret ?_ | ((first | apply splitG | apply splitGB | apply splitR | apply splitRB | apply splitE | apply splitEB | apply splitC | apply splitCB) <;> intro ht)); all_goals try simp (disch := first | omega | (simp only [lens, hc_len, hr_len, List.length_reverse, List.length_drop]; first | done | omega)) only [go_sem, Nat.reduceEqDiff, Nat.reduceBEq, Nat.reduceAdd, Nat.reduceMul, Nat.reduceSub, Nat.reduceLeDiff, Int.reduceToNat, Int.reducePow, p1, p3, p5, p9, p11, p12, p32, p33, p34, u1, t3, t4]))
                    exact ⟨m - 1, by omega, k + 1, m2 / 2, l2 / 2, h2, by omega, (he.set (by omega)).app, by omega, by omega, by rw [hR]; simp [Nat.add_assoc, Nat.add_comm 1 k], by simp [c1]⟩
          · simp only [climb] at hR
            rw [if_neg hl0, if_neg hcc] at hR
            have hN := fun σ => trees_Node_h σ h (hd path k)
            generalize nodeH h (hd path k) = h2 at *
            have hp' : (i' : Int) % 2 = 0 := by omega
            have hne : ¬ (i' : Int) = l' := by omega
            repeat' (first | refine SWp.seq ?_ | refine SWp.block ?_ | refine SWp.scope ?_ | refine SWp.condT rfl ?_ | refine SWp.condF rfl ?_ | (refine SWp.condD rfl (fun ht => ?_) (fun ht => ?_) <;> try (exfalso; omega)) | ((first | refine SWp.reg ?_ | refine SWp.skip ?_ | refine SWp.exit ?_ | refine SWp.ret ?_ | (apply callW.mk_pu; (first | exact (fun _ => hN _))) | (apply callW.any; (first | exact (hN _))) | ((first | apply splitG | apply splitGB | apply splitR | apply splitRB | apply splitE | apply splitEB | apply splitC | apply splitCB) <;> intro ht)); all_goals try simp (disch := first | omega | (simp only [lens, hc_len, hr_len, List.length_reverse, List.length_drop]; first | done | omega)) only [go_sem, Nat.reduceEqDiff, Nat.reduceBEq, Nat.reduceAdd, Nat.reduceMul, Nat.reduceSub, Nat.reduceLeDiff, Int.reduceToNat, Int.reducePow, q1, q3, q5, q9, q11, q12, q32, q33, q34, c0, c1, hl0', hp', hne, t1, t2]))
            exact ⟨m - 1, by omega, k + 1, i' / 2, l' / 2, h2, by omega, (he.set (by omega)).app, by omega, by omega, by rw [hR]; simp [Nat.add_assoc, Nat.add_comm 1 k], by simp [c1]⟩
      · obtain rfl : k = path.length := by omega
        rw [List.drop_of_length_le (Nat.le_refl _)] at hR
        simp only [climb, Nat.zero_add] at hR
        subst hR
        unfold climbE
        by_cases h1 : l' = 0
        · subst h1
          by_cases h2 : h = root
          · subst h2
            rw [if_neg (by simp)]
            repeat' (first | refine SWp.seq ?_ | refine SWp.block ?_ | refine SWp.scope ?_ | refine SWp.condT rfl ?_ | refine SWp.condF rfl ?_ | (refine SWp.condD rfl (fun ht => ?_) (fun ht => ?_) <;> try (exfalso; omega)) | ((first | refine SWp.reg ?_ | refine SWp.skip ?_ | refine SWp.exit ?_ | refine SWp.ret ?_ | ((first | apply splitG | apply splitGB | apply splitR | apply splitRB | apply splitE | apply splitEB | apply splitC | apply splitCB) <;> intro ht)); all_goals try simp (disch := first | omega | (simp only [lens, hc_len, hr_len, List.length_reverse, List.length_drop]; first | done | omega)) only [go_sem, Nat.reduceEqDiff, Nat.reduceBEq, Nat.reduceAdd, Nat.reduceMul, Nat.reduceSub, Nat.reduceLeDiff, Int.reduceToNat, Int.reducePow, q1, q3, q5, q9, q11, q12, q32, q33, q34, c0, c1, r1]))
            exact Ext.pure hw he (rlB_ok _ rfl)
          · rw [if_pos (.inr (.inr h2))]
            repeat' (first | refine SWp.seq ?_ | refine SWp.block ?_ | refine SWp.scope ?_ | refine SWp.condT rfl ?_ | refine SWp.condF rfl ?_ | (refine SWp.condD rfl (fun ht => ?_) (fun ht => ?_) <;> try (exfalso; omega)) | ((first | refine SWp.reg ?_ | refine SWp.skip ?_ | refine SWp.exit ?_ | refine SWp.ret ?_ | ((first | apply splitG | apply splitGB | apply splitR | apply splitRB | apply splitE | apply splitEB | apply splitC | apply splitCB) <;> intro ht)); all_goals try simp (disch := first | omega | (simp only [lens, hc_len, hr_len, List.length_reverse, List.length_drop]; first | done | omega)) only [go_sem, Nat.reduceEqDiff, Nat.reduceBEq, Nat.reduceAdd, Nat.reduceMul, Nat.reduceSub, Nat.reduceLeDiff, Int.reduceToNat, Int.reducePow, q1, q3, q5, q9, q11, q12, q32, q33, q34, c0, c1, r1, h2]))
            exact Ext.pure hw he (rlB_ok _ rfl)
        · rw [if_pos (.inl h1)]
          have hl0' : ¬ (l' : Int) = 0 := by omega
          repeat' (first | refine SWp.seq ?_ | refine SWp.block ?_ | refine SWp.scope ?_ | refine SWp.condT rfl ?_ | refine SWp.condF rfl ?_ | (refine SWp.condD rfl (fun ht => ?_) (fun ht => ?_) <;> try (exfalso; omega)) | ((first | refine SWp.reg ?_ | refine SWp.skip ?_ | refine SWp.exit ?_ | refine SWp.ret ?_ | ((first | apply splitG | apply splitGB | apply splitR | apply splitRB | apply splitE | apply splitEB | apply splitC | apply splitCB) <;> intro ht)); all_goals try simp (disch := first | omega | (simp only [lens, hc_len, hr_len, List.length_reverse, List.length_drop]; first | done | omega)) only [go_sem, Nat.reduceEqDiff, Nat.reduceBEq, Nat.reduceAdd, Nat.reduceMul, Nat.reduceSub, Nat.reduceLeDiff, Int.reduceToNat, Int.reducePow, q1, q3, q5, q9, q11, q12, q32, q33, q34, c0, c1, r1, hl0']))
          exact Ext.pure hw he (rlB_ok _ rfl)
end Am
end Go.Proofs.YthgcooppjhcgcaaDoor
end
section
set_option linter.unusedSimpArgs false
set_option linter.unusedVariables false
/- Paths: the reference's Check; both say the same of eight. -/
namespace Go.Proofs.YthgcooppjhcgcaaDoor
namespace Am
/-- Of a path turned round. -/
def comeS : List Hash → Hash → Nat → Nat → Hash × Bool
  | [], h, _, n => (h, decide (n = 1))
  | x :: rs, h, i, n => if n = 1 then (h, false) else
    if i < splitS n then (nodeH (comeS rs h i (splitS n)).1 x, (comeS rs h i (splitS n)).2)
    else (nodeH x (comeS rs h (i - splitS n) (n - splitS n)).1, (comeS rs h (i - splitS n) (n - splitS n)).2)
def chkR (leaf : Hash) (i n : Int) (path : List Hash) (root : Hash) : Int :=
  if n < 1 ∨ 4096 < n ∨ i < 0 ∨ n ≤ i then 2 else if (comeS path.reverse leaf i.toNat n.toNat).2 = false ∨ (comeS path.reverse leaf i.toNat n.toNat).1 ≠ root then 80 else 0
theorem rl_hb {k : Nat} {h : Hash} {b : Bool} : RL k (.tup [.agg (hc h), .bool b]) := by simp only [RL, RLs]; exact ⟨rl_hc h, trivial, trivial⟩
theorem rev_last {P : List Hash} {m : Nat} (h : P.length = m + 1) : P.reverse = hd P m :: (P.take m).reverse := by
  have e : P = P.take m ++ [hd P m] := by rw [← take_hd (by omega), List.take_of_length_le (by omega)]
  conv => lhs; rw [e]
  rw [List.reverse_append, List.reverse_singleton, List.singleton_append]
attribute [local irreducible] ACallsTo ACallsP
set_option maxHeartbeats 16000000 in
theorem come_v : ∀ (f : Nat) (σ : Store) (leaf : Hash) (i n : Nat) (P : List Hash) (x : AV), P.length ≤ f → SlV 32 (hr P) x → P.length < 1000000 → 1 ≤ n → n ≤ 4096 → i < n →
    ACallsTo TC 161 [.agg (hc leaf), .int .i64 i, .int .i64 n, x] σ (.tup [.agg (hc (comeS P.reverse leaf i n).1), .bool (comeS P.reverse leaf i n).2]) σ := by
  intro f
  induction f with
  | zero =>
    intro σ leaf i n P x hf hx hl h1 h4 hi
    obtain rfl : P = [] := List.eq_nil_of_length_eq_zero (by omega)
    have r1 := hx.len
    rw [hr_len] at r1
    unfold rLenSl at r1
    simp only [List.reverse_nil, comeS]
    refine ACallsTo.of_body speculumref06_come_ok (by simp) fun hw _ => ?_
    by_cases hn : n = 1
    · subst hn
      repeat' (first | refine SWp.seq ?_ | refine SWp.block ?_ | refine SWp.scope ?_ | refine SWp.condT rfl ?_ | refine SWp.condF rfl ?_ | (refine SWp.condD rfl (fun ht => ?_) (fun ht => ?_) <;> try (exfalso; omega)) | ((first | refine SWp.reg ?_ | refine SWp.skip ?_ | refine SWp.exit ?_ | refine SWp.ret ?_ | ((first | apply splitG | apply splitGB | apply splitR | apply splitRB | apply splitE | apply splitEB | apply splitC | apply splitCB) <;> intro ht)); all_goals try simp (disch := first | omega | (simp only [lens, hc_len, hr_len, List.length_reverse, List.length_drop]; first | done | omega)) only [go_sem, Nat.reduceEqDiff, Nat.reduceBEq, Nat.reduceAdd, Nat.reduceMul, Nat.reduceSub, Nat.reduceLeDiff, Int.reduceToNat, Int.reducePow, r1]))
      exact DownV.pure hw rl_hb
    · have hn' : ¬ (n : Int) = 1 := by omega
      rw [decide_eq_false hn]
      repeat' (first | refine SWp.seq ?_ | refine SWp.block ?_ | refine SWp.scope ?_ | refine SWp.condT rfl ?_ | refine SWp.condF rfl ?_ | (refine SWp.condD rfl (fun ht => ?_) (fun ht => ?_) <;> try (exfalso; omega)) | ((first | refine SWp.reg ?_ | refine SWp.skip ?_ | refine SWp.exit ?_ | refine SWp.ret ?_ | ((first | apply splitG | apply splitGB | apply splitR | apply splitRB | apply splitE | apply splitEB | apply splitC | apply splitCB) <;> intro ht)); all_goals try simp (disch := first | omega | (simp only [lens, hc_len, hr_len, List.length_reverse, List.length_drop]; first | done | omega)) only [go_sem, Nat.reduceEqDiff, Nat.reduceBEq, Nat.reduceAdd, Nat.reduceMul, Nat.reduceSub, Nat.reduceLeDiff, Int.reduceToNat, Int.reducePow, r1, hn']))
      exact DownV.pure hw rl_hb
  | succ f ih =>
    intro σ leaf i n P x hf hx hl h1 h4 hi
    have r1 := hx.len
    rw [hr_len] at r1
    unfold rLenSl at r1
    rcases Nat.eq_zero_or_pos P.length with h0 | hpos
    · exact ih σ leaf i n P x (by omega) hx hl h1 h4 hi
    · obtain ⟨m, hm⟩ : ∃ m, P.length = m + 1 := ⟨P.length - 1, by omega⟩
      obtain ⟨ex, rfl⟩ := hx.vsl (by rw [hr_len]; omega)
      rw [rev_last hm]
      simp only [comeS]
      refine ACallsTo.of_body speculumref06_come_ok (by simp) fun hw _ => ?_
      have hz : ¬ (P.length : Int) = 0 := by omega
      by_cases hn : n = 1
      · subst hn
        simp only [if_true]
        repeat' (first | refine SWp.seq ?_ | refine SWp.block ?_ | refine SWp.scope ?_ | refine SWp.condT rfl ?_ | refine SWp.condF rfl ?_ | (refine SWp.condD rfl (fun ht => ?_) (fun ht => ?_) <;> try (exfalso; omega)) | ((first | refine SWp.reg ?_ | refine SWp.skip ?_ | refine SWp.exit ?_ | refine SWp.ret ?_ | ((first | apply splitG | apply splitGB | apply splitR | apply splitRB | apply splitE | apply splitEB | apply splitC | apply splitCB) <;> intro ht)); all_goals try simp (disch := first | omega | (simp only [lens, hc_len, hr_len, List.length_reverse, List.length_drop]; first | done | omega)) only [go_sem, Nat.reduceEqDiff, Nat.reduceBEq, Nat.reduceAdd, Nat.reduceMul, Nat.reduceSub, Nat.reduceLeDiff, Int.reduceToNat, Int.reducePow, r1, hz]))
        exact DownV.pure hw rl_hb
      · rw [if_neg hn]
        have hn' : ¬ (n : Int) = 1 := by omega
        have hm1 : (P.length : Int) - 1 = (m : Int) := by omega
        have hmm : ((m : Nat) : Int).toNat = m := rfl
        have hS := fun σ => ref_Split_to σ n (by omega)
        obtain ⟨s1, s2⟩ : 1 ≤ splitS n ∧ splitS n < n := ⟨(split_spec (by omega)).2.2, (split_spec (by omega)).1⟩
        generalize splitS n = s at *
        by_cases his : i < s
        · rw [if_pos his]
          have his' : (i : Int) < s := by omega
          have hI := fun σ t => ih σ leaf i s (P.take m) (.vsl 32 (hr (P.take m)) t) (by rw [List.length_take]; omega) (.inr ⟨t, rfl⟩) (by rw [List.length_take]; omega) s1 (by omega) his
          have hN := fun σ => ref_Node_h σ (comeS (P.take m).reverse leaf i s).1 (hd P m)
          generalize comeS (P.take m).reverse leaf i s = r at *
          repeat' (first | refine SWp.seq ?_ | refine SWp.block ?_ | refine SWp.scope ?_ | refine SWp.condT rfl ?_ | refine SWp.condF rfl ?_ | (refine SWp.condD rfl (fun ht => ?_) (fun ht => ?_) <;> try (exfalso; omega)) | ((first | refine SWp.reg ?_ | refine SWp.skip ?_ | refine SWp.exit ?_ | refine SWp.ret ?_ | ((first | apply splitG | apply splitGB | apply splitR | apply splitRB | apply splitE | apply splitEB | apply splitC | apply splitCB) <;> intro ht)); all_goals try simp (disch := first | omega | (simp only [lens, hc_len, hr_len, List.length_reverse, List.length_drop]; first | done | omega)) only [go_sem, Nat.reduceEqDiff, Nat.reduceBEq, Nat.reduceAdd, Nat.reduceMul, Nat.reduceSub, Nat.reduceLeDiff, Int.reduceToNat, Int.reducePow, r1, hz, hn']))
          refine SWp.reg2 ?_ ?_
          · simp (disch := first | omega | (simp only [lens, hc_len, hr_len, List.length_reverse, List.length_drop]; first | done | omega)) only [go_sem, Nat.reduceEqDiff, Nat.reduceBEq, Nat.reduceAdd, Nat.reduceMul, Nat.reduceSub, Nat.reduceLeDiff, Int.reduceToNat, Int.reducePow, r1, hz, hn', hm1, hmm]
            repeat' (first | refine SWp.seq ?_ | refine SWp.block ?_ | refine SWp.scope ?_ | refine SWp.condT rfl ?_ | refine SWp.condF rfl ?_ | (refine SWp.condD rfl (fun ht => ?_) (fun ht => ?_) <;> try (exfalso; omega)) | ((first | refine SWp.reg ?_ | refine SWp.skip ?_ | refine SWp.exit ?_ | refine SWp.ret ?_ | (apply callW.mk_pu; (first | exact (fun _ => hS _) | exact (fun _ => hI _ _) | exact (fun _ => hN _))) | (apply callW.any; (first | exact (hS _) | exact (hI _ _) | exact (hN _))) | ((first | apply splitG | apply splitGB | apply splitR | apply splitRB | apply splitE | apply splitEB | apply splitC | apply splitCB) <;> intro ht)); all_goals try simp (disch := first | omega | (simp only [lens, hc_len, hr_len, List.length_reverse, List.length_drop]; first | done | omega)) only [go_sem, Nat.reduceEqDiff, Nat.reduceBEq, Nat.reduceAdd, Nat.reduceMul, Nat.reduceSub, Nat.reduceLeDiff, Int.reduceToNat, Int.reducePow, r1, hz, hn', hm1, hmm, his']))
            exact DownV.pure hw rl_hb
          · simp (disch := first | omega | (simp only [lens, hc_len, hr_len, List.length_reverse, List.length_drop]; first | done | omega)) only [go_sem, Nat.reduceEqDiff, Nat.reduceBEq, Nat.reduceAdd, Nat.reduceMul, Nat.reduceSub, Nat.reduceLeDiff, Int.reduceToNat, Int.reducePow, r1, hz, hn', hm1, hmm]
            repeat' (first | refine SWp.seq ?_ | refine SWp.block ?_ | refine SWp.scope ?_ | refine SWp.condT rfl ?_ | refine SWp.condF rfl ?_ | (refine SWp.condD rfl (fun ht => ?_) (fun ht => ?_) <;> try (exfalso; omega)) | ((first | refine SWp.reg ?_ | refine SWp.skip ?_ | refine SWp.exit ?_ | refine SWp.ret ?_ | (apply callW.mk_pu; (first | exact (fun _ => hS _) | exact (fun _ => hI _ _) | exact (fun _ => hN _))) | (apply callW.any; (first | exact (hS _) | exact (hI _ _) | exact (hN _))) | ((first | apply splitG | apply splitGB | apply splitR | apply splitRB | apply splitE | apply splitEB | apply splitC | apply splitCB) <;> intro ht)); all_goals try simp (disch := first | omega | (simp only [lens, hc_len, hr_len, List.length_reverse, List.length_drop]; first | done | omega)) only [go_sem, Nat.reduceEqDiff, Nat.reduceBEq, Nat.reduceAdd, Nat.reduceMul, Nat.reduceSub, Nat.reduceLeDiff, Int.reduceToNat, Int.reducePow, r1, hz, hn', hm1, hmm, his']))
            exact DownV.pure hw rl_hb
        · rw [if_neg his]
          have his' : ¬ (i : Int) < s := by omega
          have hI := fun σ t => ih σ leaf (i - s) (n - s) (P.take m) (.vsl 32 (hr (P.take m)) t) (by rw [List.length_take]; omega) (.inr ⟨t, rfl⟩) (by rw [List.length_take]; omega) (by omega) (by omega) (by omega)
          have hN := fun σ => ref_Node_h σ (hd P m) (comeS (P.take m).reverse leaf (i - s) (n - s)).1
          have e1 : (i : Int) - s = ((i - s : Nat) : Int) := by omega
          have e2 : (n : Int) - s = ((n - s : Nat) : Int) := by omega
          generalize comeS (P.take m).reverse leaf (i - s) (n - s) = r at *
          repeat' (first | refine SWp.seq ?_ | refine SWp.block ?_ | refine SWp.scope ?_ | refine SWp.condT rfl ?_ | refine SWp.condF rfl ?_ | (refine SWp.condD rfl (fun ht => ?_) (fun ht => ?_) <;> try (exfalso; omega)) | ((first | refine SWp.reg ?_ | refine SWp.skip ?_ | refine SWp.exit ?_ | refine SWp.ret ?_ | ((first | apply splitG | apply splitGB | apply splitR | apply splitRB | apply splitE | apply splitEB | apply splitC | apply splitCB) <;> intro ht)); all_goals try simp (disch := first | omega | (simp only [lens, hc_len, hr_len, List.length_reverse, List.length_drop]; first | done | omega)) only [go_sem, Nat.reduceEqDiff, Nat.reduceBEq, Nat.reduceAdd, Nat.reduceMul, Nat.reduceSub, Nat.reduceLeDiff, Int.reduceToNat, Int.reducePow, r1, hz, hn']))
          refine SWp.reg2 ?_ ?_
          · simp (disch := first | omega | (simp only [lens, hc_len, hr_len, List.length_reverse, List.length_drop]; first | done | omega)) only [go_sem, Nat.reduceEqDiff, Nat.reduceBEq, Nat.reduceAdd, Nat.reduceMul, Nat.reduceSub, Nat.reduceLeDiff, Int.reduceToNat, Int.reducePow, r1, hz, hn', hm1, hmm]
            repeat' (first | refine SWp.seq ?_ | refine SWp.block ?_ | refine SWp.scope ?_ | refine SWp.condT rfl ?_ | refine SWp.condF rfl ?_ | (refine SWp.condD rfl (fun ht => ?_) (fun ht => ?_) <;> try (exfalso; omega)) | ((first | refine SWp.reg ?_ | refine SWp.skip ?_ | refine SWp.exit ?_ | refine SWp.ret ?_ | (apply callW.mk_pu; (first | exact (fun _ => hS _) | exact (fun _ => hI _ _) | exact (fun _ => hN _))) | (apply callW.any; (first | exact (hS _) | exact (hI _ _) | exact (hN _))) | ((first | apply splitG | apply splitGB | apply splitR | apply splitRB | apply splitE | apply splitEB | apply splitC | apply splitCB) <;> intro ht)); all_goals try simp (disch := first | omega | (simp only [lens, hc_len, hr_len, List.length_reverse, List.length_drop]; first | done | omega)) only [go_sem, Nat.reduceEqDiff, Nat.reduceBEq, Nat.reduceAdd, Nat.reduceMul, Nat.reduceSub, Nat.reduceLeDiff, Int.reduceToNat, Int.reducePow, r1, hz, hn', hm1, hmm, his', e1, e2]))
            exact DownV.pure hw rl_hb
          · simp (disch := first | omega | (simp only [lens, hc_len, hr_len, List.length_reverse, List.length_drop]; first | done | omega)) only [go_sem, Nat.reduceEqDiff, Nat.reduceBEq, Nat.reduceAdd, Nat.reduceMul, Nat.reduceSub, Nat.reduceLeDiff, Int.reduceToNat, Int.reducePow, r1, hz, hn', hm1, hmm]
            repeat' (first | refine SWp.seq ?_ | refine SWp.block ?_ | refine SWp.scope ?_ | refine SWp.condT rfl ?_ | refine SWp.condF rfl ?_ | (refine SWp.condD rfl (fun ht => ?_) (fun ht => ?_) <;> try (exfalso; omega)) | ((first | refine SWp.reg ?_ | refine SWp.skip ?_ | refine SWp.exit ?_ | refine SWp.ret ?_ | (apply callW.mk_pu; (first | exact (fun _ => hS _) | exact (fun _ => hI _ _) | exact (fun _ => hN _))) | (apply callW.any; (first | exact (hS _) | exact (hI _ _) | exact (hN _))) | ((first | apply splitG | apply splitGB | apply splitR | apply splitRB | apply splitE | apply splitEB | apply splitC | apply splitCB) <;> intro ht)); all_goals try simp (disch := first | omega | (simp only [lens, hc_len, hr_len, List.length_reverse, List.length_drop]; first | done | omega)) only [go_sem, Nat.reduceEqDiff, Nat.reduceBEq, Nat.reduceAdd, Nat.reduceMul, Nat.reduceSub, Nat.reduceLeDiff, Int.reduceToNat, Int.reducePow, r1, hz, hn', hm1, hmm, his', e1, e2]))
            exact DownV.pure hw rl_hb
end Am
end Go.Proofs.YthgcooppjhcgcaaDoor
end
section
set_option linter.unusedSimpArgs false
set_option linter.unusedVariables false
/- Paths: the reference's Check; both say the same of eight. -/
namespace Go.Proofs.YthgcooppjhcgcaaDoor
namespace Am
theorem spl8 : splitS 8 = 4 := split_pow2 2
theorem spl4 : splitS 4 = 2 := split_pow2 1
theorem spl2 : splitS 2 = 1 := split_pow2 0
theorem climb8_bad {i : Nat} (hi : i < 8) (leaf root : Hash) : ∀ (path : List Hash), path.length ≠ 3 → climbE (climb path leaf i 7) root path.length = 80 := by
  have : i = 0 ∨ i = 1 ∨ i = 2 ∨ i = 3 ∨ i = 4 ∨ i = 5 ∨ i = 6 ∨ i = 7 := by omega
  intro path h
  match path, h with
  | [], _ => rcases this with rfl | rfl | rfl | rfl | rfl | rfl | rfl | rfl <;> simp [climb, climbE]
  | [a], _ => rcases this with rfl | rfl | rfl | rfl | rfl | rfl | rfl | rfl <;> simp [climb, climbE, strip]
  | [a, b], _ => rcases this with rfl | rfl | rfl | rfl | rfl | rfl | rfl | rfl <;> simp [climb, climbE, strip]
  | a :: b :: c :: d :: r, _ => rcases this with rfl | rfl | rfl | rfl | rfl | rfl | rfl | rfl <;> simp [climb, climbE, strip]
theorem come8_bad {i : Nat} (hi : i < 8) (leaf : Hash) : ∀ (rp : List Hash), rp.length ≠ 3 → (comeS rp leaf i 8).2 = false := by
  have : i = 0 ∨ i = 1 ∨ i = 2 ∨ i = 3 ∨ i = 4 ∨ i = 5 ∨ i = 6 ∨ i = 7 := by omega
  intro path h
  match path, h with
  | [], _ => simp [comeS]
  | [a], _ => rcases this with rfl | rfl | rfl | rfl | rfl | rfl | rfl | rfl <;> simp [comeS, spl8]
  | [a, b], _ => rcases this with rfl | rfl | rfl | rfl | rfl | rfl | rfl | rfl <;> simp [comeS, spl8, spl4]
  | a :: b :: c :: d :: r, _ => rcases this with rfl | rfl | rfl | rfl | rfl | rfl | rfl | rfl <;> simp [comeS, spl8, spl4, spl2]
/-- Of eight both say the same. -/
theorem chk8 (leaf : Hash) (i : Int) (path : List Hash) (root : Hash) : chkP leaf i 8 path root = chkR leaf i 8 path root := by
  unfold chkP chkR
  by_cases h : (8 : Int) < 1 ∨ (4096 : Int) < 8 ∨ i < 0 ∨ 8 ≤ i
  · rw [if_pos h, if_pos h]
  · rw [if_neg h, if_neg h]
    obtain ⟨i, rfl⟩ : ∃ k : Nat, i = k := ⟨i.toNat, by omega⟩
    have hi : i < 8 := by omega
    rw [Int.toNat_natCast, show (8 : Int).toNat - 1 = 7 from rfl, show (8 : Int).toNat = 8 from rfl]
    by_cases h3 : path.length = 3
    · match path, h3 with
      | [a, b, c], _ =>
        have : i = 0 ∨ i = 1 ∨ i = 2 ∨ i = 3 ∨ i = 4 ∨ i = 5 ∨ i = 6 ∨ i = 7 := by omega
        rcases this with rfl | rfl | rfl | rfl | rfl | rfl | rfl | rfl <;> simp [climb, climbE, strip, comeS, spl8, spl4, spl2]
    · rw [climb8_bad hi leaf root path h3, come8_bad hi leaf path.reverse (by rw [List.length_reverse]; exact h3), if_pos (.inl rfl)]
attribute [local irreducible] ACallsTo ACallsP
set_option maxHeartbeats 4000000 in
theorem refCheck_v (σ : Store) (leaf : Hash) (i n : Int) (path : List Hash) (x : AV) (root : Hash) (hx : SlV 32 (hr path) x) (hl : path.length < 1000000) (hi : -9223372036854775808 ≤ i ∧ i ≤ 9223372036854775807) (hn : -9223372036854775808 ≤ n ∧ n ≤ 9223372036854775807) :
    ACallsTo TC 126 [.agg (hc leaf), .int .i64 i, .int .i64 n, x, .agg (hc root)] σ (.int .i64 (chkR leaf i n path root)) σ := by
  have r1 := hx.len
  rw [hr_len] at r1
  unfold rLenSl at r1
  unfold chkR
  by_cases hb : n < 1 ∨ 4096 < n ∨ i < 0 ∨ n ≤ i
  · rw [if_pos hb]
    refine ACallsTo.of_body speculumref06_Check_ok (by simp) fun hw _ => ?_
    repeat' (first | refine SWp.seq ?_ | refine SWp.block ?_ | refine SWp.scope ?_ | refine SWp.condT rfl ?_ | refine SWp.condF rfl ?_ | (refine SWp.condD rfl (fun ht => ?_) (fun ht => ?_) <;> try (exfalso; omega)) | ((first | refine SWp.reg ?_ | refine SWp.skip ?_ | refine SWp.exit ?_ | refine SWp.ret ?_ | ((first | apply splitG | apply splitGB | apply splitR | apply splitRB | apply splitE | apply splitEB | apply splitC | apply splitCB) <;> intro ht)); all_goals try simp (disch := first | omega | (simp only [lens, hc_len, hr_len, List.length_reverse, List.length_drop]; first | done | omega)) only [go_sem, Nat.reduceEqDiff, Nat.reduceBEq, Nat.reduceAdd, Nat.reduceMul, Nat.reduceSub, Nat.reduceLeDiff, Int.reduceToNat, Int.reducePow, r1]))
    all_goals exact DownV.pure hw (rlB_ok _ rfl)
  · rw [if_neg hb]
    obtain ⟨i, rfl⟩ : ∃ k : Nat, i = k := ⟨i.toNat, by omega⟩
    obtain ⟨n, rfl⟩ : ∃ l : Nat, n = (l : Int) := ⟨n.toNat, by omega⟩
    rw [Int.toNat_natCast, Int.toNat_natCast]
    have hC := fun σ => come_v path.length σ leaf i n path x (Nat.le_refl _) hx hl (by omega) (by omega) (by omega)
    generalize comeS path.reverse leaf i n = r at *
    obtain ⟨h, b⟩ := r
    refine ACallsTo.of_body speculumref06_Check_ok (by simp) fun hw _ => ?_
    cases b with
    | false =>
      rw [if_pos (.inl rfl)]
      repeat' (first | refine SWp.seq ?_ | refine SWp.block ?_ | refine SWp.scope ?_ | refine SWp.condT rfl ?_ | refine SWp.condF rfl ?_ | (refine SWp.condD rfl (fun ht => ?_) (fun ht => ?_) <;> try (exfalso; omega)) | ((first | refine SWp.reg ?_ | refine SWp.skip ?_ | refine SWp.exit ?_ | refine SWp.ret ?_ | (apply callW.mk_pu; (first | exact (fun _ => hC _))) | (apply callW.any; (first | exact (hC _))) | ((first | apply splitG | apply splitGB | apply splitR | apply splitRB | apply splitE | apply splitEB | apply splitC | apply splitCB) <;> intro ht)); all_goals try simp (disch := first | omega | (simp only [lens, hc_len, hr_len, List.length_reverse, List.length_drop]; first | done | omega)) only [go_sem, Nat.reduceEqDiff, Nat.reduceBEq, Nat.reduceAdd, Nat.reduceMul, Nat.reduceSub, Nat.reduceLeDiff, Int.reduceToNat, Int.reducePow, r1]))
      exact DownV.pure hw (rlB_ok _ rfl)
    | true =>
      by_cases hr : h = root
      · subst hr
        rw [if_neg (by simp)]
        repeat' (first | refine SWp.seq ?_ | refine SWp.block ?_ | refine SWp.scope ?_ | refine SWp.condT rfl ?_ | refine SWp.condF rfl ?_ | (refine SWp.condD rfl (fun ht => ?_) (fun ht => ?_) <;> try (exfalso; omega)) | ((first | refine SWp.reg ?_ | refine SWp.skip ?_ | refine SWp.exit ?_ | refine SWp.ret ?_ | (apply callW.mk_pu; (first | exact (fun _ => hC _))) | (apply callW.any; (first | exact (hC _))) | ((first | apply splitG | apply splitGB | apply splitR | apply splitRB | apply splitE | apply splitEB | apply splitC | apply splitCB) <;> intro ht)); all_goals try simp (disch := first | omega | (simp only [lens, hc_len, hr_len, List.length_reverse, List.length_drop]; first | done | omega)) only [go_sem, Nat.reduceEqDiff, Nat.reduceBEq, Nat.reduceAdd, Nat.reduceMul, Nat.reduceSub, Nat.reduceLeDiff, Int.reduceToNat, Int.reducePow, r1]))
        exact DownV.pure hw (rlB_ok _ rfl)
      · rw [if_pos (.inr hr)]
        repeat' (first | refine SWp.seq ?_ | refine SWp.block ?_ | refine SWp.scope ?_ | refine SWp.condT rfl ?_ | refine SWp.condF rfl ?_ | (refine SWp.condD rfl (fun ht => ?_) (fun ht => ?_) <;> try (exfalso; omega)) | ((first | refine SWp.reg ?_ | refine SWp.skip ?_ | refine SWp.exit ?_ | refine SWp.ret ?_ | (apply callW.mk_pu; (first | exact (fun _ => hC _))) | (apply callW.any; (first | exact (hC _))) | ((first | apply splitG | apply splitGB | apply splitR | apply splitRB | apply splitE | apply splitEB | apply splitC | apply splitCB) <;> intro ht)); all_goals try simp (disch := first | omega | (simp only [lens, hc_len, hr_len, List.length_reverse, List.length_drop]; first | done | omega)) only [go_sem, Nat.reduceEqDiff, Nat.reduceBEq, Nat.reduceAdd, Nat.reduceMul, Nat.reduceSub, Nat.reduceLeDiff, Int.reduceToNat, Int.reducePow, r1, hr]))
        exact DownV.pure hw (rlB_ok _ rfl)
end Am
end Go.Proofs.YthgcooppjhcgcaaDoor
end
section
set_option linter.unusedSimpArgs false
set_option linter.unusedVariables false
/- Keytree: contracts: Verify. -/
namespace Go.Proofs.YthgcooppjhcgcaaDoor
namespace Am
def verI (root dg : Hash) (i : Int) (sig : List UInt8) (path : List Hash) : Int :=
  if i < 0 ∨ 8 ≤ i then 2 else if sig.length = 16384 then (if chkP (leafH (recF sig dg.1 256)) i 8 path root = 0 then 0 else 81) else 81
theorem RdSl.cells {σ : Store} {sz : Nat} {es : List (List AV)} {x : AV} (h : RdSl σ sz es x) : cellsOf x = some [x] := by
  rcases h with h | ⟨r, off, lim, o, rfl, _⟩
  · exact slv_cells h
  · rfl
attribute [local irreducible] ACallsTo ACallsP
theorem Check_h (σ : Store) (leaf : Hash) (i n : Int) (path : List Hash) (x : AV) (root : Hash) (hx : RdSl σ 32 (hr path) x) (hl : path.length < 1000000) (hi : -9223372036854775808 ≤ i ∧ i ≤ 9223372036854775807) (hn : -9223372036854775808 ≤ n ∧ n ≤ 9223372036854775807) :
    ACallsTo TC 124 [.agg (hc leaf), .int .i64 i, .int .i64 n, x, .agg (hc root)] σ (.int .i64 (chkP leaf i n path root)) σ := by
  obtain ⟨x0, h0, hd⟩ := hx.lend (rlss_hr path)
  have hi' : ∀ i : Int, RL 0 (.int .i64 i) := fun i => by simp [RL]
  have := ACallsTo.lend glok (Check_v [] leaf i n path x0 root h0 hl hi hn) (drsc (rl0 (rl_agg_hc leaf) σ) (drsc (rl0 (hi' i) σ) (drsc (rl0 (hi' n) σ) (drsc hd (drs1 (rl0 (rl_agg_hc root) σ))))))
  rwa [show sh σ.length (.int .i64 (chkP leaf i n path root)) = .int .i64 (chkP leaf i n path root) from rfl, shS_nil, List.append_nil] at this
theorem refCheck_h (σ : Store) (leaf : Hash) (i n : Int) (path : List Hash) (x : AV) (root : Hash) (hx : RdSl σ 32 (hr path) x) (hl : path.length < 1000000) (hi : -9223372036854775808 ≤ i ∧ i ≤ 9223372036854775807) (hn : -9223372036854775808 ≤ n ∧ n ≤ 9223372036854775807) :
    ACallsTo TC 126 [.agg (hc leaf), .int .i64 i, .int .i64 n, x, .agg (hc root)] σ (.int .i64 (chkR leaf i n path root)) σ := by
  obtain ⟨x0, h0, hd⟩ := hx.lend (rlss_hr path)
  have hi' : ∀ i : Int, RL 0 (.int .i64 i) := fun i => by simp [RL]
  have := ACallsTo.lend glok (refCheck_v [] leaf i n path x0 root h0 hl hi hn) (drsc (rl0 (rl_agg_hc leaf) σ) (drsc (rl0 (hi' i) σ) (drsc (rl0 (hi' n) σ) (drsc hd (drs1 (rl0 (rl_agg_hc root) σ))))))
  rwa [show sh σ.length (.int .i64 (chkR leaf i n path root)) = .int .i64 (chkR leaf i n path root) from rfl, shS_nil, List.append_nil] at this
set_option maxHeartbeats 4000000 in
theorem Verify_to (σ : Store) (root dg : Hash) (i : Int) (sig : List UInt8) (path : List Hash) (x : AV) (hx : RdSl σ 32 (hr path) x) (hl : path.length < 1000000) (hs : sig.length < 1000000) (hi : -9223372036854775808 ≤ i ∧ i ≤ 9223372036854775807) :
    ACallsTo TC 47 [.agg (hc root), .agg (hc dg), .agg [.int .i64 i, .str sig, x]] σ (.int .i64 (verI root dg i sig path)) σ := by
  have xc := hx.cells
  unfold cellsOf at xc
  have hR := fun σ => Recover_to σ sig dg hs
  have hC := fun y => Check_h (σ ++ y) (leafH (recF sig dg.1 256)) i 8 path x root hx.app hl hi (by omega)
  unfold verI
  unfold recV at hR
  refine ACallsTo.of_body keytree_Verify_ok (by simp) fun hw _ => ?_
  by_cases hb : i < 0 ∨ 8 ≤ i
  · rw [if_pos hb]
    repeat' (first | refine SWp.seq ?_ | refine SWp.block ?_ | refine SWp.scope ?_ | refine SWp.condT rfl ?_ | refine SWp.condF rfl ?_ | (refine SWp.condD rfl (fun ht => ?_) (fun ht => ?_) <;> try (exfalso; omega)) | ((first | refine SWp.reg ?_ | refine SWp.skip ?_ | refine SWp.exit ?_ | refine SWp.ret ?_ | ((first | apply splitG | apply splitGB | apply splitR | apply splitRB | apply splitE | apply splitEB | apply splitC | apply splitCB) <;> intro ht)); all_goals try simp (disch := first | omega | (simp only [lens, hc_len, hr_len, List.length_reverse]; first | done | omega)) only [go_sem, Nat.reduceEqDiff, Nat.reduceBEq, Nat.reduceAdd, Nat.reduceMul, Nat.reduceSub, Nat.reduceLeDiff, Int.reduceToNat, Int.reducePow, xc]))
    all_goals exact DownV.pure hw (rlB_ok _ rfl)
  · rw [if_neg hb]
    by_cases h16 : sig.length = 16384
    · rw [if_pos h16]
      rw [if_pos h16] at hR
      generalize leafH (recF sig dg.1 256) = L at *
      generalize chkP L i 8 path root = c at *
      by_cases h0 : c = 0
      · subst h0
        rw [if_pos rfl]
        repeat' (first | refine SWp.seq ?_ | refine SWp.block ?_ | refine SWp.scope ?_ | refine SWp.condT rfl ?_ | refine SWp.condF rfl ?_ | (refine SWp.condD rfl (fun ht => ?_) (fun ht => ?_) <;> try (exfalso; omega)) | ((first | refine SWp.reg ?_ | refine SWp.skip ?_ | refine SWp.exit ?_ | refine SWp.ret ?_ | (apply callW.mk_pu; (first | exact (fun _ => hR _) | exact (fun _ => hC _))) | (apply callW.any; (first | exact (hR _) | exact (hC _))) | ((first | apply splitG | apply splitGB | apply splitR | apply splitRB | apply splitE | apply splitEB | apply splitC | apply splitCB) <;> intro ht)); all_goals try simp (disch := first | omega | (simp only [lens, hc_len, hr_len, List.length_reverse]; first | done | omega)) only [go_sem, Nat.reduceEqDiff, Nat.reduceBEq, Nat.reduceAdd, Nat.reduceMul, Nat.reduceSub, Nat.reduceLeDiff, Int.reduceToNat, Int.reducePow, xc]))
        all_goals exact DownV.pure hw (rlB_ok _ rfl)
      · rw [if_neg h0]
        repeat' (first | refine SWp.seq ?_ | refine SWp.block ?_ | refine SWp.scope ?_ | refine SWp.condT rfl ?_ | refine SWp.condF rfl ?_ | (refine SWp.condD rfl (fun ht => ?_) (fun ht => ?_) <;> try (exfalso; omega)) | ((first | refine SWp.reg ?_ | refine SWp.skip ?_ | refine SWp.exit ?_ | refine SWp.ret ?_ | (apply callW.mk_pu; (first | exact (fun _ => hR _) | exact (fun _ => hC _))) | (apply callW.any; (first | exact (hR _) | exact (hC _))) | ((first | apply splitG | apply splitGB | apply splitR | apply splitRB | apply splitE | apply splitEB | apply splitC | apply splitCB) <;> intro ht)); all_goals try simp (disch := first | omega | (simp only [lens, hc_len, hr_len, List.length_reverse]; first | done | omega)) only [go_sem, Nat.reduceEqDiff, Nat.reduceBEq, Nat.reduceAdd, Nat.reduceMul, Nat.reduceSub, Nat.reduceLeDiff, Int.reduceToNat, Int.reducePow, xc, h0]))
        all_goals exact DownV.pure hw (rlB_ok _ rfl)
    · rw [if_neg h16]
      rw [if_neg h16] at hR
      repeat' (first | refine SWp.seq ?_ | refine SWp.block ?_ | refine SWp.scope ?_ | refine SWp.condT rfl ?_ | refine SWp.condF rfl ?_ | (refine SWp.condD rfl (fun ht => ?_) (fun ht => ?_) <;> try (exfalso; omega)) | ((first | refine SWp.reg ?_ | refine SWp.skip ?_ | refine SWp.exit ?_ | refine SWp.ret ?_ | (apply callW.mk_pu; (first | exact (fun _ => hR _))) | (apply callW.any; (first | exact (hR _))) | ((first | apply splitG | apply splitGB | apply splitR | apply splitRB | apply splitE | apply splitEB | apply splitC | apply splitCB) <;> intro ht)); all_goals try simp (disch := first | omega | (simp only [lens, hc_len, hr_len, List.length_reverse]; first | done | omega)) only [go_sem, Nat.reduceEqDiff, Nat.reduceBEq, Nat.reduceAdd, Nat.reduceMul, Nat.reduceSub, Nat.reduceLeDiff, Int.reduceToNat, Int.reducePow, xc]))
      all_goals exact DownV.pure hw (rlB_ok _ rfl)
set_option maxHeartbeats 4000000 in
theorem refVerify_to (σ : Store) (root dg : Hash) (i : Int) (sig : List UInt8) (path : List Hash) (x : AV) (hx : RdSl σ 32 (hr path) x) (hl : path.length < 1000000) (hs : sig.length < 1000000) (hi : -9223372036854775808 ≤ i ∧ i ≤ 9223372036854775807) :
    ACallsTo TC 48 [.agg (hc root), .agg (hc dg), .agg [.int .i64 i, .str sig, x]] σ (.int .i64 (verI root dg i sig path)) σ := by
  have xc := hx.cells
  unfold cellsOf at xc
  have hR := fun σ => refRecover_to σ sig dg hs
  have hC := fun y => refCheck_h (σ ++ y) (leafH (recF sig dg.1 256)) i 8 path x root hx.app hl hi (by omega)
  unfold verI
  unfold recV at hR
  rw [← chk8] at hC
  refine ACallsTo.of_body speculumref09_Verify_ok (by simp) fun hw _ => ?_
  by_cases hb : i < 0 ∨ 8 ≤ i
  · rw [if_pos hb]
    repeat' (first | refine SWp.seq ?_ | refine SWp.block ?_ | refine SWp.scope ?_ | refine SWp.condT rfl ?_ | refine SWp.condF rfl ?_ | (refine SWp.condD rfl (fun ht => ?_) (fun ht => ?_) <;> try (exfalso; omega)) | ((first | refine SWp.reg ?_ | refine SWp.skip ?_ | refine SWp.exit ?_ | refine SWp.ret ?_ | ((first | apply splitG | apply splitGB | apply splitR | apply splitRB | apply splitE | apply splitEB | apply splitC | apply splitCB) <;> intro ht)); all_goals try simp (disch := first | omega | (simp only [lens, hc_len, hr_len, List.length_reverse]; first | done | omega)) only [go_sem, Nat.reduceEqDiff, Nat.reduceBEq, Nat.reduceAdd, Nat.reduceMul, Nat.reduceSub, Nat.reduceLeDiff, Int.reduceToNat, Int.reducePow, xc]))
    all_goals exact DownV.pure hw (rlB_ok _ rfl)
  · rw [if_neg hb]
    by_cases h16 : sig.length = 16384
    · rw [if_pos h16]
      rw [if_pos h16] at hR
      generalize leafH (recF sig dg.1 256) = L at *
      generalize chkP L i 8 path root = c at *
      by_cases h0 : c = 0
      · subst h0
        rw [if_pos rfl]
        repeat' (first | refine SWp.seq ?_ | refine SWp.block ?_ | refine SWp.scope ?_ | refine SWp.condT rfl ?_ | refine SWp.condF rfl ?_ | (refine SWp.condD rfl (fun ht => ?_) (fun ht => ?_) <;> try (exfalso; omega)) | ((first | refine SWp.reg ?_ | refine SWp.skip ?_ | refine SWp.exit ?_ | refine SWp.ret ?_ | (apply callW.mk_pu; (first | exact (fun _ => hR _) | exact (fun _ => hC _))) | (apply callW.any; (first | exact (hR _) | exact (hC _))) | ((first | apply splitG | apply splitGB | apply splitR | apply splitRB | apply splitE | apply splitEB | apply splitC | apply splitCB) <;> intro ht)); all_goals try simp (disch := first | omega | (simp only [lens, hc_len, hr_len, List.length_reverse]; first | done | omega)) only [go_sem, Nat.reduceEqDiff, Nat.reduceBEq, Nat.reduceAdd, Nat.reduceMul, Nat.reduceSub, Nat.reduceLeDiff, Int.reduceToNat, Int.reducePow, xc]))
        all_goals exact DownV.pure hw (rlB_ok _ rfl)
      · rw [if_neg h0]
        repeat' (first | refine SWp.seq ?_ | refine SWp.block ?_ | refine SWp.scope ?_ | refine SWp.condT rfl ?_ | refine SWp.condF rfl ?_ | (refine SWp.condD rfl (fun ht => ?_) (fun ht => ?_) <;> try (exfalso; omega)) | ((first | refine SWp.reg ?_ | refine SWp.skip ?_ | refine SWp.exit ?_ | refine SWp.ret ?_ | (apply callW.mk_pu; (first | exact (fun _ => hR _) | exact (fun _ => hC _))) | (apply callW.any; (first | exact (hR _) | exact (hC _))) | ((first | apply splitG | apply splitGB | apply splitR | apply splitRB | apply splitE | apply splitEB | apply splitC | apply splitCB) <;> intro ht)); all_goals try simp (disch := first | omega | (simp only [lens, hc_len, hr_len, List.length_reverse]; first | done | omega)) only [go_sem, Nat.reduceEqDiff, Nat.reduceBEq, Nat.reduceAdd, Nat.reduceMul, Nat.reduceSub, Nat.reduceLeDiff, Int.reduceToNat, Int.reducePow, xc, h0]))
        all_goals exact DownV.pure hw (rlB_ok _ rfl)
    · rw [if_neg h16]
      rw [if_neg h16] at hR
      repeat' (first | refine SWp.seq ?_ | refine SWp.block ?_ | refine SWp.scope ?_ | refine SWp.condT rfl ?_ | refine SWp.condF rfl ?_ | (refine SWp.condD rfl (fun ht => ?_) (fun ht => ?_) <;> try (exfalso; omega)) | ((first | refine SWp.reg ?_ | refine SWp.skip ?_ | refine SWp.exit ?_ | refine SWp.ret ?_ | (apply callW.mk_pu; (first | exact (fun _ => hR _))) | (apply callW.any; (first | exact (hR _))) | ((first | apply splitG | apply splitGB | apply splitR | apply splitRB | apply splitE | apply splitEB | apply splitC | apply splitCB) <;> intro ht)); all_goals try simp (disch := first | omega | (simp only [lens, hc_len, hr_len, List.length_reverse]; first | done | omega)) only [go_sem, Nat.reduceEqDiff, Nat.reduceBEq, Nat.reduceAdd, Nat.reduceMul, Nat.reduceSub, Nat.reduceLeDiff, Int.reduceToNat, Int.reducePow, xc]))
      all_goals exact DownV.pure hw (rlB_ok _ rfl)
end Am
end Go.Proofs.YthgcooppjhcgcaaDoor
end
section
set_option linter.unusedSimpArgs false
set_option linter.unusedVariables false
/- Abstract code. (Printed by wip/gen.) -/
set_option maxRecDepth 10000
namespace Go.Proofs.YthgcooppjhcgcaaDoor
namespace Am



@[go_sem] def speculumlaw10_HeadsGet_r23 : List AIns := [
  ⟨some 12, none, .no, .mv (.v (.int .i64 (0)))⟩]
@[go_sem] def speculumlaw10_HeadsGet_r24 : List AIns := [
  ⟨some 74, none, .no, .mv (.t 12)⟩,
  ⟨some 75, none, .no, .mv (.t 9)⟩,
  ⟨some 76, none, .no, .lenSl (.t 75)⟩,
  ⟨some 77, none, .no, .bin .lss .none (.t 74) (.t 76)⟩]
def speculumlaw10_HeadsGet_c25 : ACode := .cond (.t 77) .skip (.exit 0)
def speculumlaw10_HeadsGet_c26 : ACode := .seq (.reg speculumlaw10_HeadsGet_r24) speculumlaw10_HeadsGet_c25
@[go_sem] def speculumlaw10_HeadsGet_r27 : List AIns := [
  ⟨some 81, none, .no, .mv (.t 9)⟩,
  ⟨some 82, none, .no, .mv (.t 12)⟩,
  ⟨some 83, none, .no, .iaSl 1 (.t 81) (.t 82)⟩,
  ⟨some 84, none, .no, .load false 1 (.t 83)⟩,
  ⟨some 85, none, .no, .call (.v (.fn 34 [])) [(.t 84)]⟩,
  ⟨some 80, none, .no, .mv (.t 85)⟩,
  ⟨some 86, none, .no, .ext 0 (.t 80)⟩,
  ⟨some 87, none, .no, .ext 1 (.t 80)⟩,
  ⟨some 13, none, .no, .alloc [(.int .i64 (0)), (.int .u8 (0)), (.int .u8 (0)), (.int .u8 (0)), (.int .u8 (0)), (.int .u8 (0)), (.int .u8 (0)), (.int .u8 (0)), (.int .u8 (0)), (.int .u8 (0)), (.int .u8 (0)), (.int .u8 (0)), (.int .u8 (0)), (.int .u8 (0)), (.int .u8 (0)), (.int .u8 (0)), (.int .u8 (0)), (.int .u8 (0)), (.int .u8 (0)), (.int .u8 (0)), (.int .u8 (0)), (.int .u8 (0)), (.int .u8 (0)), (.int .u8 (0)), (.int .u8 (0)), (.int .u8 (0)), (.int .u8 (0)), (.int .u8 (0)), (.int .u8 (0)), (.int .u8 (0)), (.int .u8 (0)), (.int .u8 (0)), (.int .u8 (0)), (.int .i64 (0)), (.str []), .nilsl]⟩,
  ⟨none, none, .no, .store 36 (.t 13) (.t 86)⟩,
  ⟨some 14, none, .no, .mv (.t 87)⟩]
@[go_sem] def speculumlaw10_HeadsGet_r28 : List AIns := [
  ⟨some 89, none, .no, .mv (.t 9)⟩,
  ⟨some 90, none, .no, .mv (.t 12)⟩,
  ⟨some 91, none, .no, .iaSl 1 (.t 89) (.t 90)⟩,
  ⟨some 92, none, .no, .load false 1 (.t 91)⟩,
  ⟨some 93, none, .no, .call (.v (.fn 35 [])) [(.t 92)]⟩,
  ⟨some 88, none, .no, .mv (.t 93)⟩,
  ⟨some 94, none, .no, .ext 0 (.t 88)⟩,
  ⟨some 95, none, .no, .ext 1 (.t 88)⟩,
  ⟨some 15, none, .no, .alloc [(.int .i64 (0)), (.int .u8 (0)), (.int .u8 (0)), (.int .u8 (0)), (.int .u8 (0)), (.int .u8 (0)), (.int .u8 (0)), (.int .u8 (0)), (.int .u8 (0)), (.int .u8 (0)), (.int .u8 (0)), (.int .u8 (0)), (.int .u8 (0)), (.int .u8 (0)), (.int .u8 (0)), (.int .u8 (0)), (.int .u8 (0)), (.int .u8 (0)), (.int .u8 (0)), (.int .u8 (0)), (.int .u8 (0)), (.int .u8 (0)), (.int .u8 (0)), (.int .u8 (0)), (.int .u8 (0)), (.int .u8 (0)), (.int .u8 (0)), (.int .u8 (0)), (.int .u8 (0)), (.int .u8 (0)), (.int .u8 (0)), (.int .u8 (0)), (.int .u8 (0)), (.int .i64 (0)), (.str []), .nilsl]⟩,
  ⟨none, none, .no, .store 36 (.t 15) (.t 94)⟩,
  ⟨some 16, none, .no, .mv (.t 95)⟩]
@[go_sem] def speculumlaw10_HeadsGet_r29 : List AIns := [
  ⟨some 96, none, .no, .load true 36 (.t 13)⟩,
  ⟨some 97, none, .no, .load true 36 (.t 15)⟩,
  ⟨some 98, none, .no, .call (.v (.fn 36 [])) [(.t 96), (.t 97)]⟩,
  ⟨some 99, none, .no, .un .not (.t 98)⟩,
  ⟨some 100, none, .no, .mv (.t 99)⟩,
  ⟨some 101, some (100, false), .no, .mv (.t 14)⟩,
  ⟨some 102, some (100, false), .no, .mv (.t 16)⟩,
  ⟨some 103, some (100, false), .no, .bin .neq .none (.t 101) (.t 102)⟩,
  ⟨some 104, none, .no, .pick (.t 100) (.v (.bool true)) (.t 103)⟩]
@[go_sem] def speculumlaw10_HeadsGet_r30 : List AIns := [
  ⟨some 6, none, .no, .mv (.v (.bool false))⟩]
def speculumlaw10_HeadsGet_c31 : ACode := .seq (.reg speculumlaw10_HeadsGet_r30) .ret
def speculumlaw10_HeadsGet_c32 : ACode := .cond (.t 104) speculumlaw10_HeadsGet_c31 .skip
def speculumlaw10_HeadsGet_c33 : ACode := .seq (.reg speculumlaw10_HeadsGet_r29) speculumlaw10_HeadsGet_c32
def speculumlaw10_HeadsGet_c34 : ACode := .seq (.reg speculumlaw10_HeadsGet_r28) speculumlaw10_HeadsGet_c33
def speculumlaw10_HeadsGet_c35 : ACode := .seq (.reg speculumlaw10_HeadsGet_r27) speculumlaw10_HeadsGet_c34
@[go_sem] def speculumlaw10_HeadsGet_r36 : List AIns := [
  ⟨some 78, none, .no, .mv (.t 12)⟩,
  ⟨some 79, none, .no, .bin .add .none (.t 78) (.v (.int .i64 (1)))⟩,
  ⟨some 12, none, .no, .mv (.t 79)⟩]
def speculumlaw10_HeadsGet_c37 : ACode := .seq (.block 1 speculumlaw10_HeadsGet_c35) (.reg speculumlaw10_HeadsGet_r36)
def speculumlaw10_HeadsGet_c38 : ACode := .seq speculumlaw10_HeadsGet_c26 speculumlaw10_HeadsGet_c37
def speculumlaw10_HeadsGet_c39 : ACode := .loop speculumlaw10_HeadsGet_c38
def speculumlaw10_HeadsGet_c40 : ACode := .block 0 speculumlaw10_HeadsGet_c39
def speculumlaw10_HeadsGet_c41 : ACode := .seq (.reg speculumlaw10_HeadsGet_r23) speculumlaw10_HeadsGet_c40
@[go_sem] def speculumlaw10_HeadsGet_r42 : List AIns := [
  ⟨some 105, none, .no, .call (.v (.fn 31 [])) []⟩,
  ⟨some 6, none, .no, .mv (.t 105)⟩]
def speculumlaw10_HeadsGet_c43 : ACode := .seq (.reg speculumlaw10_HeadsGet_r42) .ret
def speculumlaw10_HeadsGet_c44 : ACode := .seq speculumlaw10_HeadsGet_c41 speculumlaw10_HeadsGet_c43
@[go_sem] def speculumlaw10_Rough__Great_r0 : List AIns := [
  ⟨some 1, none, .no, .box (.t 0)⟩,
  ⟨some 2, none, .no, .mv (.v (.bool false))⟩]
@[go_sem] def speculumlaw10_Rough__Great_r1 : List AIns := [
  ⟨some 3, none, .no, .fa 34 (.t 1)⟩,
  ⟨some 4, none, .no, .load false 1 (.t 3)⟩,
  ⟨some 5, none, .no, .lenStr (.t 4)⟩,
  ⟨some 6, none, .no, .bin .gtr .none (.t 5) (.v (.int .i64 (300)))⟩,
  ⟨some 7, none, .no, .mv (.t 6)⟩,
  ⟨some 8, some (7, false), .no, .fa 36 (.t 1)⟩,
  ⟨some 9, some (7, false), .no, .load false 1 (.t 8)⟩,
  ⟨some 10, some (7, false), .no, .lenSl (.t 9)⟩,
  ⟨some 11, some (7, false), .no, .bin .gtr .none (.t 10) (.v (.int .i64 (40)))⟩,
  ⟨some 12, none, .no, .pick (.t 7) (.v (.bool true)) (.t 11)⟩,
  ⟨some 2, none, .no, .mv (.t 12)⟩]
def speculumlaw10_Rough__Great_c2 : ACode := .seq (.reg speculumlaw10_Rough__Great_r1) .ret
def speculumlaw10_Rough__Great_c3 : ACode := .seq (.reg speculumlaw10_Rough__Great_r0) speculumlaw10_Rough__Great_c2
theorem speculumlaw10_Rough__Great_ok : cFn TC 30 = some (13, [.t 2], speculumlaw10_Rough__Great_c3) := by kernel_rfl

@[go_sem] def speculumlaw10_headed_r0 : List AIns := [
  ⟨some 0, none, .no, .mv (.v (.bool false))⟩]
@[go_sem] def speculumlaw10_headed_r1 : List AIns := [
  ⟨some 8, none, .no, .build [(.int .i64 (0)), (.int .u8 (0)), (.int .u8 (0)), (.int .u8 (0)), (.int .u8 (0)), (.int .u8 (0)), (.int .u8 (0)), (.int .u8 (0)), (.int .u8 (0)), (.int .u8 (0)), (.int .u8 (0)), (.int .u8 (0)), (.int .u8 (0)), (.int .u8 (0)), (.int .u8 (0)), (.int .u8 (0)), (.int .u8 (0)), (.int .u8 (0)), (.int .u8 (0)), (.int .u8 (0)), (.int .u8 (0)), (.int .u8 (0)), (.int .u8 (0)), (.int .u8 (0)), (.int .u8 (0)), (.int .u8 (0)), (.int .u8 (0)), (.int .u8 (0)), (.int .u8 (0)), (.int .u8 (0)), (.int .u8 (0)), (.int .u8 (0)), (.int .u8 (0))] [(0, 1, (.v (.int .i64 (3))))]⟩,
  ⟨some 9, none, .no, .build [(.int .i64 (0)), (.int .u8 (0)), (.int .u8 (0)), (.int .u8 (0)), (.int .u8 (0)), (.int .u8 (0)), (.int .u8 (0)), (.int .u8 (0)), (.int .u8 (0)), (.int .u8 (0)), (.int .u8 (0)), (.int .u8 (0)), (.int .u8 (0)), (.int .u8 (0)), (.int .u8 (0)), (.int .u8 (0)), (.int .u8 (0)), (.int .u8 (0)), (.int .u8 (0)), (.int .u8 (0)), (.int .u8 (0)), (.int .u8 (0)), (.int .u8 (0)), (.int .u8 (0)), (.int .u8 (0)), (.int .u8 (0)), (.int .u8 (0)), (.int .u8 (0)), (.int .u8 (0)), (.int .u8 (0)), (.int .u8 (0)), (.int .u8 (0)), (.int .u8 (0))] [(0, 1, (.v (.int .i64 (4))))]⟩,
  ⟨some 1, none, .no, .alloc [(.int .i64 (0)), (.int .u8 (0)), (.int .u8 (0)), (.int .u8 (0)), (.int .u8 (0)), (.int .u8 (0)), (.int .u8 (0)), (.int .u8 (0)), (.int .u8 (0)), (.int .u8 (0)), (.int .u8 (0)), (.int .u8 (0)), (.int .u8 (0)), (.int .u8 (0)), (.int .u8 (0)), (.int .u8 (0)), (.int .u8 (0)), (.int .u8 (0)), (.int .u8 (0)), (.int .u8 (0)), (.int .u8 (0)), (.int .u8 (0)), (.int .u8 (0)), (.int .u8 (0)), (.int .u8 (0)), (.int .u8 (0)), (.int .u8 (0)), (.int .u8 (0)), (.int .u8 (0)), (.int .u8 (0)), (.int .u8 (0)), (.int .u8 (0)), (.int .u8 (0))]⟩,
  ⟨some 2, none, .no, .alloc [(.int .i64 (0)), (.int .u8 (0)), (.int .u8 (0)), (.int .u8 (0)), (.int .u8 (0)), (.int .u8 (0)), (.int .u8 (0)), (.int .u8 (0)), (.int .u8 (0)), (.int .u8 (0)), (.int .u8 (0)), (.int .u8 (0)), (.int .u8 (0)), (.int .u8 (0)), (.int .u8 (0)), (.int .u8 (0)), (.int .u8 (0)), (.int .u8 (0)), (.int .u8 (0)), (.int .u8 (0)), (.int .u8 (0)), (.int .u8 (0)), (.int .u8 (0)), (.int .u8 (0)), (.int .u8 (0)), (.int .u8 (0)), (.int .u8 (0)), (.int .u8 (0)), (.int .u8 (0)), (.int .u8 (0)), (.int .u8 (0)), (.int .u8 (0)), (.int .u8 (0))]⟩,
  ⟨none, none, .no, .store 33 (.t 1) (.t 8)⟩,
  ⟨none, none, .no, .store 33 (.t 2) (.t 9)⟩]
@[go_sem] def speculumlaw10_headed_r2 : List AIns := [
  ⟨some 10, none, .no, .build [(.int .u8 (0)), (.int .u8 (0)), (.int .u8 (0)), (.int .u8 (0)), (.int .u8 (0)), (.int .u8 (0)), (.int .u8 (0)), (.int .u8 (0)), (.int .u8 (0)), (.int .u8 (0)), (.int .u8 (0)), (.int .u8 (0)), (.int .u8 (0)), (.int .u8 (0)), (.int .u8 (0)), (.int .u8 (0)), (.int .u8 (0)), (.int .u8 (0)), (.int .u8 (0)), (.int .u8 (0)), (.int .u8 (0)), (.int .u8 (0)), (.int .u8 (0)), (.int .u8 (0)), (.int .u8 (0)), (.int .u8 (0)), (.int .u8 (0)), (.int .u8 (0)), (.int .u8 (0)), (.int .u8 (0)), (.int .u8 (0)), (.int .u8 (0))] [(0, 1, (.v (.int .u8 (1))))]⟩,
  ⟨some 11, none, .no, .build [(.int .i64 (0)), (.int .u8 (0)), (.int .u8 (0)), (.int .u8 (0)), (.int .u8 (0)), (.int .u8 (0)), (.int .u8 (0)), (.int .u8 (0)), (.int .u8 (0)), (.int .u8 (0)), (.int .u8 (0)), (.int .u8 (0)), (.int .u8 (0)), (.int .u8 (0)), (.int .u8 (0)), (.int .u8 (0)), (.int .u8 (0)), (.int .u8 (0)), (.int .u8 (0)), (.int .u8 (0)), (.int .u8 (0)), (.int .u8 (0)), (.int .u8 (0)), (.int .u8 (0)), (.int .u8 (0)), (.int .u8 (0)), (.int .u8 (0)), (.int .u8 (0)), (.int .u8 (0)), (.int .u8 (0)), (.int .u8 (0)), (.int .u8 (0)), (.int .u8 (0))] [(0, 1, (.v (.int .i64 (4)))), (1, 32, (.t 10))]⟩,
  ⟨some 3, none, .no, .alloc [(.int .i64 (0)), (.int .u8 (0)), (.int .u8 (0)), (.int .u8 (0)), (.int .u8 (0)), (.int .u8 (0)), (.int .u8 (0)), (.int .u8 (0)), (.int .u8 (0)), (.int .u8 (0)), (.int .u8 (0)), (.int .u8 (0)), (.int .u8 (0)), (.int .u8 (0)), (.int .u8 (0)), (.int .u8 (0)), (.int .u8 (0)), (.int .u8 (0)), (.int .u8 (0)), (.int .u8 (0)), (.int .u8 (0)), (.int .u8 (0)), (.int .u8 (0)), (.int .u8 (0)), (.int .u8 (0)), (.int .u8 (0)), (.int .u8 (0)), (.int .u8 (0)), (.int .u8 (0)), (.int .u8 (0)), (.int .u8 (0)), (.int .u8 (0)), (.int .u8 (0))]⟩,
  ⟨none, none, .no, .store 33 (.t 3) (.t 11)⟩]
@[go_sem] def speculumlaw10_headed_r3 : List AIns := [
  ⟨some 13, none, .no, .load true 33 (.t 1)⟩,
  ⟨some 14, none, .no, .build [(.int .i64 (0)), (.int .u8 (0)), (.int .u8 (0)), (.int .u8 (0)), (.int .u8 (0)), (.int .u8 (0)), (.int .u8 (0)), (.int .u8 (0)), (.int .u8 (0)), (.int .u8 (0)), (.int .u8 (0)), (.int .u8 (0)), (.int .u8 (0)), (.int .u8 (0)), (.int .u8 (0)), (.int .u8 (0)), (.int .u8 (0)), (.int .u8 (0)), (.int .u8 (0)), (.int .u8 (0)), (.int .u8 (0)), (.int .u8 (0)), (.int .u8 (0)), (.int .u8 (0)), (.int .u8 (0)), (.int .u8 (0)), (.int .u8 (0)), (.int .u8 (0)), (.int .u8 (0)), (.int .u8 (0)), (.int .u8 (0)), (.int .u8 (0)), (.int .u8 (0)), (.int .i64 (0)), (.str []), .nilsl] [(0, 33, (.t 13))]⟩,
  ⟨some 15, none, .no, .call (.v (.fn 37 [])) [(.t 14)]⟩,
  ⟨some 12, none, .no, .mv (.t 15)⟩,
  ⟨some 16, none, .no, .ext 0 (.t 12)⟩,
  ⟨some 17, none, .no, .ext 1 (.t 12)⟩,
  ⟨some 4, none, .no, .mv (.t 16)⟩,
  ⟨some 5, none, .no, .mv (.t 17)⟩]
@[go_sem] def speculumlaw10_headed_r4 : List AIns := [
  ⟨some 19, none, .no, .call (.v (.fn 34 [])) [(.v (.str []))]⟩,
  ⟨some 18, none, .no, .mv (.t 19)⟩,
  ⟨some 20, none, .no, .ext 0 (.t 18)⟩,
  ⟨some 21, none, .no, .ext 1 (.t 18)⟩,
  ⟨some 6, none, .no, .alloc [(.int .i64 (0)), (.int .u8 (0)), (.int .u8 (0)), (.int .u8 (0)), (.int .u8 (0)), (.int .u8 (0)), (.int .u8 (0)), (.int .u8 (0)), (.int .u8 (0)), (.int .u8 (0)), (.int .u8 (0)), (.int .u8 (0)), (.int .u8 (0)), (.int .u8 (0)), (.int .u8 (0)), (.int .u8 (0)), (.int .u8 (0)), (.int .u8 (0)), (.int .u8 (0)), (.int .u8 (0)), (.int .u8 (0)), (.int .u8 (0)), (.int .u8 (0)), (.int .u8 (0)), (.int .u8 (0)), (.int .u8 (0)), (.int .u8 (0)), (.int .u8 (0)), (.int .u8 (0)), (.int .u8 (0)), (.int .u8 (0)), (.int .u8 (0)), (.int .u8 (0)), (.int .i64 (0)), (.str []), .nilsl]⟩,
  ⟨none, none, .no, .store 36 (.t 6) (.t 20)⟩,
  ⟨some 7, none, .no, .mv (.t 21)⟩]
@[go_sem] def speculumlaw10_headed_r5 : List AIns := [
  ⟨some 22, none, .no, .load true 33 (.t 1)⟩,
  ⟨some 23, none, .no, .load true 33 (.t 2)⟩,
  ⟨some 24, none, .no, .call (.v (.fn 54 [])) [(.t 22), (.t 23)]⟩,
  ⟨some 25, none, .no, .bin .eql .none (.t 24) (.v (.int .i64 (0)))⟩,
  ⟨some 26, none, .no, .mv (.t 25)⟩,
  ⟨some 27, some (26, true), .no, .load true 33 (.t 2)⟩,
  ⟨some 28, some (26, true), .no, .load true 33 (.t 3)⟩,
  ⟨some 29, some (26, true), .no, .call (.v (.fn 54 [])) [(.t 27), (.t 28)]⟩,
  ⟨some 30, some (26, true), .no, .bin .eql .none (.t 29) (.v (.int .i64 (3)))⟩,
  ⟨some 31, none, .no, .pick (.t 26) (.t 30) (.v (.bool false))⟩,
  ⟨some 32, none, .no, .mv (.t 31)⟩,
  ⟨some 33, some (32, true), .no, .load true 33 (.t 2)⟩,
  ⟨some 34, some (32, true), .no, .load true 33 (.t 2)⟩,
  ⟨some 35, some (32, true), .no, .call (.v (.fn 54 [])) [(.t 33), (.t 34)]⟩,
  ⟨some 36, some (32, true), .no, .bin .eql .none (.t 35) (.v (.int .i64 (1)))⟩,
  ⟨some 37, none, .no, .pick (.t 32) (.t 36) (.v (.bool false))⟩,
  ⟨some 38, none, .no, .mv (.t 37)⟩,
  ⟨some 39, some (38, true), .no, .load true 33 (.t 2)⟩,
  ⟨some 40, some (38, true), .no, .load true 33 (.t 1)⟩,
  ⟨some 41, some (38, true), .no, .call (.v (.fn 54 [])) [(.t 39), (.t 40)]⟩,
  ⟨some 42, some (38, true), .no, .bin .eql .none (.t 41) (.v (.int .i64 (2)))⟩,
  ⟨some 43, none, .no, .pick (.t 38) (.t 42) (.v (.bool false))⟩,
  ⟨some 44, none, .no, .mv (.t 43)⟩,
  ⟨some 45, some (44, true), .no, .mv (.t 5)⟩,
  ⟨some 46, some (44, true), .no, .bin .eql .none (.t 45) (.v (.int .i64 (2)))⟩,
  ⟨some 47, none, .no, .pick (.t 44) (.t 46) (.v (.bool false))⟩,
  ⟨some 48, none, .no, .mv (.t 47)⟩,
  ⟨some 49, some (48, true), .no, .build [(.int .u8 (0)), (.int .u8 (0)), (.int .u8 (0)), (.int .u8 (0)), (.int .u8 (0)), (.int .u8 (0)), (.int .u8 (0)), (.int .u8 (0)), (.int .u8 (0)), (.int .u8 (0)), (.int .u8 (0)), (.int .u8 (0)), (.int .u8 (0)), (.int .u8 (0)), (.int .u8 (0)), (.int .u8 (0)), (.int .u8 (0)), (.int .u8 (0)), (.int .u8 (0)), (.int .u8 (0)), (.int .u8 (0)), (.int .u8 (0)), (.int .u8 (0)), (.int .u8 (0)), (.int .u8 (0)), (.int .u8 (0)), (.int .u8 (0)), (.int .u8 (0)), (.int .u8 (0)), (.int .u8 (0)), (.int .u8 (0)), (.int .u8 (0))] []⟩,
  ⟨some 50, some (48, true), .no, .load true 33 (.t 1)⟩,
  ⟨some 51, some (48, true), .no, .build [(.int .i64 (0)), (.int .u8 (0)), (.int .u8 (0)), (.int .u8 (0)), (.int .u8 (0)), (.int .u8 (0)), (.int .u8 (0)), (.int .u8 (0)), (.int .u8 (0)), (.int .u8 (0)), (.int .u8 (0)), (.int .u8 (0)), (.int .u8 (0)), (.int .u8 (0)), (.int .u8 (0)), (.int .u8 (0)), (.int .u8 (0)), (.int .u8 (0)), (.int .u8 (0)), (.int .u8 (0)), (.int .u8 (0)), (.int .u8 (0)), (.int .u8 (0)), (.int .u8 (0)), (.int .u8 (0)), (.int .u8 (0)), (.int .u8 (0)), (.int .u8 (0)), (.int .u8 (0)), (.int .u8 (0)), (.int .u8 (0)), (.int .u8 (0)), (.int .u8 (0)), (.int .i64 (0)), (.str []), .nilsl] [(0, 33, (.t 50))]⟩,
  ⟨some 52, some (48, true), .no, .call (.v (.fn 52 [])) [(.t 49), (.t 51)]⟩,
  ⟨some 53, some (48, true), .no, .bin .eql .none (.t 52) (.v (.int .i64 (2)))⟩,
  ⟨some 54, none, .no, .pick (.t 48) (.t 53) (.v (.bool false))⟩,
  ⟨some 55, none, .no, .mv (.t 54)⟩,
  ⟨some 56, some (55, true), .no, .mv (.t 7)⟩,
  ⟨some 57, some (55, true), .no, .bin .eql .none (.t 56) (.v (.int .i64 (10)))⟩,
  ⟨some 58, none, .no, .pick (.t 55) (.t 57) (.v (.bool false))⟩,
  ⟨some 0, none, .no, .mv (.t 58)⟩]
def speculumlaw10_headed_c6 : ACode := .seq (.reg speculumlaw10_headed_r5) .ret
def speculumlaw10_headed_c7 : ACode := .seq (.reg speculumlaw10_headed_r4) speculumlaw10_headed_c6
def speculumlaw10_headed_c8 : ACode := .seq (.reg speculumlaw10_headed_r3) speculumlaw10_headed_c7
def speculumlaw10_headed_c9 : ACode := .seq (.reg speculumlaw10_headed_r2) speculumlaw10_headed_c8
def speculumlaw10_headed_c10 : ACode := .seq (.reg speculumlaw10_headed_r1) speculumlaw10_headed_c9
def speculumlaw10_headed_c11 : ACode := .seq (.reg speculumlaw10_headed_r0) speculumlaw10_headed_c10
theorem speculumlaw10_headed_ok : cFn TC 31 = some (59, [.t 0], speculumlaw10_headed_c11) := by kernel_rfl

@[go_sem] def speculumref10_Put_r0 : List AIns := [
  ⟨some 1, none, .no, .box (.t 0)⟩,
  ⟨some 2, none, .no, .mv (.v (.str []))⟩,
  ⟨some 3, none, .no, .mv (.v (.int .i64 (0)))⟩]
@[go_sem] def speculumref10_Put_r1 : List AIns := [
  ⟨some 4, none, .no, .load true 36 (.t 1)⟩,
  ⟨some 5, none, .no, .call (.v (.fn 51 [])) [(.t 4)]⟩,
  ⟨some 6, none, .no, .un .not (.t 5)⟩]
@[go_sem] def speculumref10_Put_r2 : List AIns := [
  ⟨some 2, none, .no, .mv (.v (.str []))⟩,
  ⟨some 3, none, .no, .mv (.v (.int .i64 (2)))⟩]
def speculumref10_Put_c3 : ACode := .seq (.reg speculumref10_Put_r2) .ret
def speculumref10_Put_c4 : ACode := .cond (.t 6) speculumref10_Put_c3 .skip
def speculumref10_Put_c5 : ACode := .seq (.reg speculumref10_Put_r1) speculumref10_Put_c4
@[go_sem] def speculumref10_Put_r6 : List AIns := [
  ⟨some 7, none, .no, .fa 0 (.t 1)⟩,
  ⟨some 8, none, .no, .fa 0 (.t 7)⟩,
  ⟨some 9, none, .rd, .load false 1 (.t 8)⟩,
  ⟨some 10, none, .no, .conv (.int .u64) (.t 9)⟩,
  ⟨some 11, none, .ef, .call (.v (.fn 98 [])) [(.t 10)]⟩,
  ⟨some 12, none, .no, .fa 0 (.t 1)⟩,
  ⟨some 13, none, .no, .fa 1 (.t 12)⟩,
  ⟨some 14, none, .rd, .load true 32 (.t 13)⟩,
  ⟨some 15, none, .ef, .call (.v (.fn 99 [])) [(.t 14)]⟩,
  ⟨some 16, none, .no, .bin .add .none (.t 11) (.t 15)⟩,
  ⟨some 17, none, .no, .fa 33 (.t 1)⟩,
  ⟨some 18, none, .no, .fa 0 (.t 17)⟩,
  ⟨some 19, none, .rd, .load false 1 (.t 18)⟩,
  ⟨some 20, none, .no, .conv (.int .u64) (.t 19)⟩,
  ⟨some 21, none, .ef, .call (.v (.fn 98 [])) [(.t 20)]⟩,
  ⟨some 22, none, .no, .bin .add .none (.t 16) (.t 21)⟩,
  ⟨some 23, none, .no, .fa 33 (.t 1)⟩,
  ⟨some 24, none, .no, .fa 1 (.t 23)⟩,
  ⟨some 25, none, .rd, .load false 1 (.t 24)⟩,
  ⟨some 26, none, .ef, .call (.v (.fn 100 [])) [(.t 25)]⟩,
  ⟨some 27, none, .no, .bin .add .none (.t 22) (.t 26)⟩,
  ⟨some 28, none, .no, .fa 33 (.t 1)⟩,
  ⟨some 29, none, .no, .fa 2 (.t 28)⟩,
  ⟨some 30, none, .rd, .load false 1 (.t 29)⟩,
  ⟨some 31, none, .no, .call (.v (.fn 101 [])) [(.t 30)]⟩,
  ⟨some 32, none, .no, .bin .add .none (.t 27) (.t 31)⟩,
  ⟨some 2, none, .no, .mv (.t 32)⟩,
  ⟨some 3, none, .no, .mv (.v (.int .i64 (0)))⟩]
def speculumref10_Put_c7 : ACode := .seq (.reg speculumref10_Put_r6) .ret
def speculumref10_Put_c8 : ACode := .seq speculumref10_Put_c5 speculumref10_Put_c7
def speculumref10_Put_c9 : ACode := .seq (.reg speculumref10_Put_r0) speculumref10_Put_c8
theorem speculumref10_Put_ok : cFn TC 32 = some (33, [.t 2, .t 3], speculumref10_Put_c9) := by kernel_rfl

@[go_sem] def speculumlaw10_Rough__Signed_r0 : List AIns := [
  ⟨some 1, none, .no, .box (.t 0)⟩,
  ⟨some 2, none, .no, .alloc [(.int .i64 (0)), (.int .u8 (0)), (.int .u8 (0)), (.int .u8 (0)), (.int .u8 (0)), (.int .u8 (0)), (.int .u8 (0)), (.int .u8 (0)), (.int .u8 (0)), (.int .u8 (0)), (.int .u8 (0)), (.int .u8 (0)), (.int .u8 (0)), (.int .u8 (0)), (.int .u8 (0)), (.int .u8 (0)), (.int .u8 (0)), (.int .u8 (0)), (.int .u8 (0)), (.int .u8 (0)), (.int .u8 (0)), (.int .u8 (0)), (.int .u8 (0)), (.int .u8 (0)), (.int .u8 (0)), (.int .u8 (0)), (.int .u8 (0)), (.int .u8 (0)), (.int .u8 (0)), (.int .u8 (0)), (.int .u8 (0)), (.int .u8 (0)), (.int .u8 (0)), (.int .i64 (0)), (.str []), .nilsl]⟩]
@[go_sem] def speculumlaw10_Rough__Signed_r1 : List AIns := [
  ⟨some 5, none, .no, .fa 35 (.t 1)⟩,
  ⟨some 6, none, .no, .load false 1 (.t 5)⟩,
  ⟨some 7, none, .no, .conv (.int .i64) (.t 6)⟩,
  ⟨some 8, none, .no, .bin .add .none (.v (.int .i64 (16384))) (.t 7)⟩,
  ⟨some 3, none, .no, .mv (.t 8)⟩]
@[go_sem] def speculumlaw10_Rough__Signed_r2 : List AIns := [
  ⟨some 4, none, .no, .mv (.v (.str []))⟩]
@[go_sem] def speculumlaw10_Rough__Signed_r3 : List AIns := [
  ⟨some 9, none, .no, .fa 34 (.t 1)⟩,
  ⟨some 10, none, .no, .load false 1 (.t 9)⟩,
  ⟨some 11, none, .no, .lenStr (.t 10)⟩,
  ⟨some 12, none, .no, .bin .gtr .none (.t 11) (.v (.int .i64 (0)))⟩,
  ⟨some 13, none, .no, .mv (.t 12)⟩,
  ⟨some 14, some (13, true), .no, .mv (.t 4)⟩,
  ⟨some 15, some (13, true), .no, .lenStr (.t 14)⟩,
  ⟨some 16, some (13, true), .no, .mv (.t 3)⟩,
  ⟨some 17, some (13, true), .no, .bin .lss .none (.t 15) (.t 16)⟩,
  ⟨some 18, none, .no, .pick (.t 13) (.t 17) (.v (.bool false))⟩]
def speculumlaw10_Rough__Signed_c4 : ACode := .cond (.t 18) .skip (.exit 0)
def speculumlaw10_Rough__Signed_c5 : ACode := .seq (.reg speculumlaw10_Rough__Signed_r3) speculumlaw10_Rough__Signed_c4
@[go_sem] def speculumlaw10_Rough__Signed_r6 : List AIns := [
  ⟨some 19, none, .no, .mv (.t 4)⟩,
  ⟨some 20, none, .no, .fa 34 (.t 1)⟩,
  ⟨some 21, none, .no, .load false 1 (.t 20)⟩,
  ⟨some 22, none, .no, .bin .add .none (.t 19) (.t 21)⟩,
  ⟨some 4, none, .no, .mv (.t 22)⟩]
def speculumlaw10_Rough__Signed_c7 : ACode := .block 1 (.reg speculumlaw10_Rough__Signed_r6)
def speculumlaw10_Rough__Signed_c8 : ACode := .seq speculumlaw10_Rough__Signed_c5 speculumlaw10_Rough__Signed_c7
def speculumlaw10_Rough__Signed_c9 : ACode := .loop speculumlaw10_Rough__Signed_c8
@[go_sem] def speculumlaw10_Rough__Signed_r10 : List AIns := [
  ⟨some 23, none, .no, .fa 0 (.t 1)⟩,
  ⟨some 24, none, .rd, .load true 33 (.t 23)⟩,
  ⟨some 25, none, .no, .fa 33 (.t 1)⟩,
  ⟨some 26, none, .rd, .load false 1 (.t 25)⟩,
  ⟨some 27, none, .no, .mv (.t 4)⟩,
  ⟨some 28, none, .no, .mv (.t 4)⟩,
  ⟨some 29, none, .no, .lenStr (.t 28)⟩,
  ⟨some 30, none, .no, .mv (.t 3)⟩,
  ⟨some 31, none, .no, .minmax false (.t 29) (.t 30)⟩,
  ⟨some 32, none, .no, .slice .str (.t 27) none (some (.t 31)) none⟩,
  ⟨some 33, none, .no, .fa 36 (.t 1)⟩,
  ⟨some 34, none, .rd, .load false 1 (.t 33)⟩,
  ⟨some 35, none, .no, .build [(.int .i64 (0)), (.str []), .nilsl] [(0, 1, (.t 26)), (1, 1, (.t 32)), (2, 1, (.t 34))]⟩,
  ⟨some 36, none, .no, .build [(.int .i64 (0)), (.int .u8 (0)), (.int .u8 (0)), (.int .u8 (0)), (.int .u8 (0)), (.int .u8 (0)), (.int .u8 (0)), (.int .u8 (0)), (.int .u8 (0)), (.int .u8 (0)), (.int .u8 (0)), (.int .u8 (0)), (.int .u8 (0)), (.int .u8 (0)), (.int .u8 (0)), (.int .u8 (0)), (.int .u8 (0)), (.int .u8 (0)), (.int .u8 (0)), (.int .u8 (0)), (.int .u8 (0)), (.int .u8 (0)), (.int .u8 (0)), (.int .u8 (0)), (.int .u8 (0)), (.int .u8 (0)), (.int .u8 (0)), (.int .u8 (0)), (.int .u8 (0)), (.int .u8 (0)), (.int .u8 (0)), (.int .u8 (0)), (.int .u8 (0)), (.int .i64 (0)), (.str []), .nilsl] [(0, 33, (.t 24)), (33, 3, (.t 35))]⟩,
  ⟨none, none, .no, .store 36 (.t 2) (.t 36)⟩]
def speculumlaw10_Rough__Signed_c11 : ACode := .seq (.reg speculumlaw10_Rough__Signed_r10) .ret
def speculumlaw10_Rough__Signed_c12 : ACode := .seq (.block 0 speculumlaw10_Rough__Signed_c9) speculumlaw10_Rough__Signed_c11
def speculumlaw10_Rough__Signed_c13 : ACode := .seq (.reg speculumlaw10_Rough__Signed_r2) speculumlaw10_Rough__Signed_c12
def speculumlaw10_Rough__Signed_c14 : ACode := .seq (.reg speculumlaw10_Rough__Signed_r1) speculumlaw10_Rough__Signed_c13
def speculumlaw10_Rough__Signed_c15 : ACode := .seq (.reg speculumlaw10_Rough__Signed_r0) speculumlaw10_Rough__Signed_c14
theorem speculumlaw10_Rough__Signed_ok : cFn TC 33 = some (37, [.c 2 true 36], speculumlaw10_Rough__Signed_c15) := by kernel_rfl

@[go_sem] def heads_Get_r0 : List AIns := [
  ⟨some 2, none, .no, .alloc [(.int .i64 (0)), (.int .u8 (0)), (.int .u8 (0)), (.int .u8 (0)), (.int .u8 (0)), (.int .u8 (0)), (.int .u8 (0)), (.int .u8 (0)), (.int .u8 (0)), (.int .u8 (0)), (.int .u8 (0)), (.int .u8 (0)), (.int .u8 (0)), (.int .u8 (0)), (.int .u8 (0)), (.int .u8 (0)), (.int .u8 (0)), (.int .u8 (0)), (.int .u8 (0)), (.int .u8 (0)), (.int .u8 (0)), (.int .u8 (0)), (.int .u8 (0)), (.int .u8 (0)), (.int .u8 (0)), (.int .u8 (0)), (.int .u8 (0)), (.int .u8 (0)), (.int .u8 (0)), (.int .u8 (0)), (.int .u8 (0)), (.int .u8 (0)), (.int .u8 (0)), (.int .i64 (0)), (.str []), .nilsl]⟩,
  ⟨some 3, none, .no, .mv (.v (.int .i64 (0)))⟩]
@[go_sem] def heads_Get_r1 : List AIns := [
  ⟨some 17, none, .no, .mv (.t 0)⟩,
  ⟨some 18, none, .no, .call (.v (.fn 102 [])) [(.t 17)]⟩,
  ⟨some 16, none, .no, .mv (.t 18)⟩,
  ⟨some 19, none, .no, .ext 0 (.t 16)⟩,
  ⟨some 20, none, .no, .ext 1 (.t 16)⟩,
  ⟨some 21, none, .no, .ext 2 (.t 16)⟩,
  ⟨some 4, none, .no, .mv (.t 19)⟩,
  ⟨some 5, none, .no, .mv (.t 20)⟩,
  ⟨some 6, none, .no, .mv (.t 21)⟩]
@[go_sem] def heads_Get_r2 : List AIns := [
  ⟨some 23, none, .no, .mv (.t 5)⟩,
  ⟨some 24, none, .no, .call (.v (.fn 103 [])) [(.t 23)]⟩,
  ⟨some 22, none, .no, .mv (.t 24)⟩,
  ⟨some 25, none, .no, .ext 0 (.t 22)⟩,
  ⟨some 26, none, .no, .ext 1 (.t 22)⟩,
  ⟨some 27, none, .no, .ext 2 (.t 22)⟩,
  ⟨some 7, none, .no, .alloc [(.int .u8 (0)), (.int .u8 (0)), (.int .u8 (0)), (.int .u8 (0)), (.int .u8 (0)), (.int .u8 (0)), (.int .u8 (0)), (.int .u8 (0)), (.int .u8 (0)), (.int .u8 (0)), (.int .u8 (0)), (.int .u8 (0)), (.int .u8 (0)), (.int .u8 (0)), (.int .u8 (0)), (.int .u8 (0)), (.int .u8 (0)), (.int .u8 (0)), (.int .u8 (0)), (.int .u8 (0)), (.int .u8 (0)), (.int .u8 (0)), (.int .u8 (0)), (.int .u8 (0)), (.int .u8 (0)), (.int .u8 (0)), (.int .u8 (0)), (.int .u8 (0)), (.int .u8 (0)), (.int .u8 (0)), (.int .u8 (0)), (.int .u8 (0))]⟩,
  ⟨none, none, .no, .store 32 (.t 7) (.t 25)⟩,
  ⟨some 5, none, .no, .mv (.t 26)⟩,
  ⟨some 8, none, .no, .mv (.t 27)⟩]
@[go_sem] def heads_Get_r3 : List AIns := [
  ⟨some 29, none, .no, .mv (.t 5)⟩,
  ⟨some 30, none, .no, .call (.v (.fn 102 [])) [(.t 29)]⟩,
  ⟨some 28, none, .no, .mv (.t 30)⟩,
  ⟨some 31, none, .no, .ext 0 (.t 28)⟩,
  ⟨some 32, none, .no, .ext 1 (.t 28)⟩,
  ⟨some 33, none, .no, .ext 2 (.t 28)⟩,
  ⟨some 9, none, .no, .mv (.t 31)⟩,
  ⟨some 5, none, .no, .mv (.t 32)⟩,
  ⟨some 10, none, .no, .mv (.t 33)⟩]
@[go_sem] def heads_Get_r4 : List AIns := [
  ⟨some 35, none, .no, .mv (.t 5)⟩,
  ⟨some 36, none, .no, .call (.v (.fn 104 [])) [(.t 35)]⟩,
  ⟨some 34, none, .no, .mv (.t 36)⟩,
  ⟨some 37, none, .no, .ext 0 (.t 34)⟩,
  ⟨some 38, none, .no, .ext 1 (.t 34)⟩,
  ⟨some 39, none, .no, .ext 2 (.t 34)⟩,
  ⟨some 11, none, .no, .mv (.t 37)⟩,
  ⟨some 5, none, .no, .mv (.t 38)⟩,
  ⟨some 12, none, .no, .mv (.t 39)⟩]
@[go_sem] def heads_Get_r5 : List AIns := [
  ⟨some 41, none, .no, .mv (.t 5)⟩,
  ⟨some 42, none, .no, .call (.v (.fn 105 [])) [(.t 41)]⟩,
  ⟨some 40, none, .no, .mv (.t 42)⟩,
  ⟨some 43, none, .no, .ext 0 (.t 40)⟩,
  ⟨some 44, none, .no, .ext 1 (.t 40)⟩,
  ⟨some 45, none, .no, .ext 2 (.t 40)⟩,
  ⟨some 13, none, .no, .mv (.t 43)⟩,
  ⟨some 5, none, .no, .mv (.t 44)⟩,
  ⟨some 14, none, .no, .mv (.t 45)⟩]
@[go_sem] def heads_Get_r6 : List AIns := [
  ⟨some 46, none, .no, .mv (.t 4)⟩,
  ⟨some 47, none, .pu, .call (.v (.fn 106 [])) [(.t 46)]⟩,
  ⟨some 48, none, .rd, .load true 32 (.t 7)⟩,
  ⟨some 49, none, .no, .build [(.int .i64 (0)), (.int .u8 (0)), (.int .u8 (0)), (.int .u8 (0)), (.int .u8 (0)), (.int .u8 (0)), (.int .u8 (0)), (.int .u8 (0)), (.int .u8 (0)), (.int .u8 (0)), (.int .u8 (0)), (.int .u8 (0)), (.int .u8 (0)), (.int .u8 (0)), (.int .u8 (0)), (.int .u8 (0)), (.int .u8 (0)), (.int .u8 (0)), (.int .u8 (0)), (.int .u8 (0)), (.int .u8 (0)), (.int .u8 (0)), (.int .u8 (0)), (.int .u8 (0)), (.int .u8 (0)), (.int .u8 (0)), (.int .u8 (0)), (.int .u8 (0)), (.int .u8 (0)), (.int .u8 (0)), (.int .u8 (0)), (.int .u8 (0)), (.int .u8 (0))] [(0, 1, (.t 47)), (1, 32, (.t 48))]⟩,
  ⟨some 50, none, .no, .mv (.t 9)⟩,
  ⟨some 51, none, .pu, .call (.v (.fn 106 [])) [(.t 50)]⟩,
  ⟨some 52, none, .no, .mv (.t 11)⟩,
  ⟨some 53, none, .no, .mv (.t 13)⟩,
  ⟨some 54, none, .no, .build [(.int .i64 (0)), (.str []), .nilsl] [(0, 1, (.t 51)), (1, 1, (.t 52)), (2, 1, (.t 53))]⟩,
  ⟨some 55, none, .no, .build [(.int .i64 (0)), (.int .u8 (0)), (.int .u8 (0)), (.int .u8 (0)), (.int .u8 (0)), (.int .u8 (0)), (.int .u8 (0)), (.int .u8 (0)), (.int .u8 (0)), (.int .u8 (0)), (.int .u8 (0)), (.int .u8 (0)), (.int .u8 (0)), (.int .u8 (0)), (.int .u8 (0)), (.int .u8 (0)), (.int .u8 (0)), (.int .u8 (0)), (.int .u8 (0)), (.int .u8 (0)), (.int .u8 (0)), (.int .u8 (0)), (.int .u8 (0)), (.int .u8 (0)), (.int .u8 (0)), (.int .u8 (0)), (.int .u8 (0)), (.int .u8 (0)), (.int .u8 (0)), (.int .u8 (0)), (.int .u8 (0)), (.int .u8 (0)), (.int .u8 (0)), (.int .i64 (0)), (.str []), .nilsl] [(0, 33, (.t 49)), (33, 3, (.t 54))]⟩,
  ⟨some 15, none, .ef, .alloc [(.int .i64 (0)), (.int .u8 (0)), (.int .u8 (0)), (.int .u8 (0)), (.int .u8 (0)), (.int .u8 (0)), (.int .u8 (0)), (.int .u8 (0)), (.int .u8 (0)), (.int .u8 (0)), (.int .u8 (0)), (.int .u8 (0)), (.int .u8 (0)), (.int .u8 (0)), (.int .u8 (0)), (.int .u8 (0)), (.int .u8 (0)), (.int .u8 (0)), (.int .u8 (0)), (.int .u8 (0)), (.int .u8 (0)), (.int .u8 (0)), (.int .u8 (0)), (.int .u8 (0)), (.int .u8 (0)), (.int .u8 (0)), (.int .u8 (0)), (.int .u8 (0)), (.int .u8 (0)), (.int .u8 (0)), (.int .u8 (0)), (.int .u8 (0)), (.int .u8 (0)), (.int .i64 (0)), (.str []), .nilsl]⟩,
  ⟨none, none, .no, .store 36 (.t 15) (.t 55)⟩]
@[go_sem] def heads_Get_r7 : List AIns := [
  ⟨some 56, none, .no, .mv (.t 6)⟩,
  ⟨some 57, none, .no, .un .not (.t 56)⟩,
  ⟨some 58, none, .no, .mv (.t 57)⟩,
  ⟨some 59, some (58, false), .no, .mv (.t 8)⟩,
  ⟨some 60, some (58, false), .no, .un .not (.t 59)⟩,
  ⟨some 61, none, .no, .pick (.t 58) (.v (.bool true)) (.t 60)⟩,
  ⟨some 62, none, .no, .mv (.t 61)⟩,
  ⟨some 63, some (62, false), .no, .mv (.t 10)⟩,
  ⟨some 64, some (62, false), .no, .un .not (.t 63)⟩,
  ⟨some 65, none, .no, .pick (.t 62) (.v (.bool true)) (.t 64)⟩,
  ⟨some 66, none, .no, .mv (.t 65)⟩,
  ⟨some 67, some (66, false), .no, .mv (.t 12)⟩,
  ⟨some 68, some (66, false), .no, .un .not (.t 67)⟩,
  ⟨some 69, none, .no, .pick (.t 66) (.v (.bool true)) (.t 68)⟩,
  ⟨some 70, none, .no, .mv (.t 69)⟩,
  ⟨some 71, some (70, false), .no, .mv (.t 14)⟩,
  ⟨some 72, some (70, false), .no, .un .not (.t 71)⟩,
  ⟨some 73, none, .no, .pick (.t 70) (.v (.bool true)) (.t 72)⟩,
  ⟨some 74, none, .no, .mv (.t 73)⟩,
  ⟨some 75, some (74, false), .no, .mv (.t 5)⟩,
  ⟨some 76, some (74, false), .no, .bin .neq .none (.t 75) (.v (.str []))⟩,
  ⟨some 77, none, .no, .pick (.t 74) (.v (.bool true)) (.t 76)⟩,
  ⟨some 78, none, .no, .mv (.t 77)⟩,
  ⟨some 79, some (78, false), .no, .load true 36 (.t 15)⟩,
  ⟨some 80, some (78, false), .no, .call (.v (.fn 38 [])) [(.t 79)]⟩,
  ⟨some 81, some (78, false), .no, .un .not (.t 80)⟩,
  ⟨some 82, none, .no, .pick (.t 78) (.v (.bool true)) (.t 81)⟩]
@[go_sem] def heads_Get_r8 : List AIns := [
  ⟨some 83, none, .no, .build [(.int .i64 (0)), (.int .u8 (0)), (.int .u8 (0)), (.int .u8 (0)), (.int .u8 (0)), (.int .u8 (0)), (.int .u8 (0)), (.int .u8 (0)), (.int .u8 (0)), (.int .u8 (0)), (.int .u8 (0)), (.int .u8 (0)), (.int .u8 (0)), (.int .u8 (0)), (.int .u8 (0)), (.int .u8 (0)), (.int .u8 (0)), (.int .u8 (0)), (.int .u8 (0)), (.int .u8 (0)), (.int .u8 (0)), (.int .u8 (0)), (.int .u8 (0)), (.int .u8 (0)), (.int .u8 (0)), (.int .u8 (0)), (.int .u8 (0)), (.int .u8 (0)), (.int .u8 (0)), (.int .u8 (0)), (.int .u8 (0)), (.int .u8 (0)), (.int .u8 (0)), (.int .i64 (0)), (.str []), .nilsl] []⟩,
  ⟨none, none, .no, .store 36 (.t 2) (.t 83)⟩,
  ⟨some 3, none, .no, .mv (.v (.int .i64 (10)))⟩]
def heads_Get_c9 : ACode := .seq (.reg heads_Get_r8) .ret
def heads_Get_c10 : ACode := .cond (.t 82) heads_Get_c9 .skip
def heads_Get_c11 : ACode := .seq (.reg heads_Get_r7) heads_Get_c10
@[go_sem] def heads_Get_r12 : List AIns := [
  ⟨some 84, none, .no, .load true 36 (.t 15)⟩,
  ⟨none, none, .no, .store 36 (.t 2) (.t 84)⟩,
  ⟨some 3, none, .no, .mv (.v (.int .i64 (0)))⟩]
def heads_Get_c13 : ACode := .seq (.reg heads_Get_r12) .ret
def heads_Get_c14 : ACode := .seq heads_Get_c11 heads_Get_c13
def heads_Get_c15 : ACode := .seq (.reg heads_Get_r6) heads_Get_c14
def heads_Get_c16 : ACode := .seq (.reg heads_Get_r5) heads_Get_c15
def heads_Get_c17 : ACode := .seq (.reg heads_Get_r4) heads_Get_c16
def heads_Get_c18 : ACode := .seq (.reg heads_Get_r3) heads_Get_c17
def heads_Get_c19 : ACode := .seq (.reg heads_Get_r2) heads_Get_c18
def heads_Get_c20 : ACode := .seq (.reg heads_Get_r1) heads_Get_c19
def heads_Get_c21 : ACode := .seq (.reg heads_Get_r0) heads_Get_c20
theorem heads_Get_ok : cFn TC 34 = some (85, [.c 2 true 36, .t 3], heads_Get_c21) := by kernel_rfl

@[go_sem] def heads_Put_r0 : List AIns := [
  ⟨some 1, none, .no, .box (.t 0)⟩,
  ⟨some 2, none, .no, .mv (.v (.str []))⟩,
  ⟨some 3, none, .no, .mv (.v (.int .i64 (0)))⟩]
@[go_sem] def heads_Put_r1 : List AIns := [
  ⟨some 4, none, .no, .load true 36 (.t 1)⟩,
  ⟨some 5, none, .no, .call (.v (.fn 38 [])) [(.t 4)]⟩,
  ⟨some 6, none, .no, .un .not (.t 5)⟩]
@[go_sem] def heads_Put_r2 : List AIns := [
  ⟨some 2, none, .no, .mv (.v (.str []))⟩,
  ⟨some 3, none, .no, .mv (.v (.int .i64 (2)))⟩]
def heads_Put_c3 : ACode := .seq (.reg heads_Put_r2) .ret
def heads_Put_c4 : ACode := .cond (.t 6) heads_Put_c3 .skip
def heads_Put_c5 : ACode := .seq (.reg heads_Put_r1) heads_Put_c4
@[go_sem] def heads_Put_r6 : List AIns := [
  ⟨some 7, none, .no, .fa 0 (.t 1)⟩,
  ⟨some 8, none, .no, .fa 0 (.t 7)⟩,
  ⟨some 9, none, .rd, .load false 1 (.t 8)⟩,
  ⟨some 10, none, .no, .conv (.int .u64) (.t 9)⟩,
  ⟨some 11, none, .ef, .call (.v (.fn 111 [])) [(.t 10)]⟩,
  ⟨some 12, none, .no, .fa 0 (.t 1)⟩,
  ⟨some 13, none, .no, .fa 1 (.t 12)⟩,
  ⟨some 14, none, .rd, .load true 32 (.t 13)⟩,
  ⟨some 15, none, .ef, .call (.v (.fn 112 [])) [(.t 14)]⟩,
  ⟨some 16, none, .no, .bin .add .none (.t 11) (.t 15)⟩,
  ⟨some 17, none, .no, .fa 33 (.t 1)⟩,
  ⟨some 18, none, .no, .fa 0 (.t 17)⟩,
  ⟨some 19, none, .rd, .load false 1 (.t 18)⟩,
  ⟨some 20, none, .no, .conv (.int .u64) (.t 19)⟩,
  ⟨some 21, none, .ef, .call (.v (.fn 111 [])) [(.t 20)]⟩,
  ⟨some 22, none, .no, .bin .add .none (.t 16) (.t 21)⟩,
  ⟨some 23, none, .no, .fa 33 (.t 1)⟩,
  ⟨some 24, none, .no, .fa 1 (.t 23)⟩,
  ⟨some 25, none, .rd, .load false 1 (.t 24)⟩,
  ⟨some 26, none, .ef, .call (.v (.fn 113 [])) [(.t 25)]⟩,
  ⟨some 27, none, .no, .bin .add .none (.t 22) (.t 26)⟩,
  ⟨some 28, none, .no, .fa 33 (.t 1)⟩,
  ⟨some 29, none, .no, .fa 2 (.t 28)⟩,
  ⟨some 30, none, .rd, .load false 1 (.t 29)⟩,
  ⟨some 31, none, .no, .call (.v (.fn 114 [])) [(.t 30)]⟩,
  ⟨some 32, none, .no, .bin .add .none (.t 27) (.t 31)⟩,
  ⟨some 2, none, .no, .mv (.t 32)⟩,
  ⟨some 3, none, .no, .mv (.v (.int .i64 (0)))⟩]
def heads_Put_c7 : ACode := .seq (.reg heads_Put_r6) .ret
def heads_Put_c8 : ACode := .seq heads_Put_c5 heads_Put_c7
def heads_Put_c9 : ACode := .seq (.reg heads_Put_r0) heads_Put_c8
theorem heads_Put_ok : cFn TC 37 = some (33, [.t 2, .t 3], heads_Put_c9) := by kernel_rfl

@[go_sem] def heads_Valid_r0 : List AIns := [
  ⟨some 1, none, .no, .box (.t 0)⟩,
  ⟨some 2, none, .no, .mv (.v (.bool false))⟩]
@[go_sem] def heads_Valid_r1 : List AIns := [
  ⟨some 4, none, .no, .fa 0 (.t 1)⟩,
  ⟨some 5, none, .no, .fa 0 (.t 4)⟩,
  ⟨some 6, none, .no, .load false 1 (.t 5)⟩,
  ⟨some 7, none, .no, .bin .geq .none (.t 6) (.v (.int .i64 (0)))⟩,
  ⟨some 8, none, .no, .mv (.t 7)⟩,
  ⟨some 9, some (8, true), .no, .fa 0 (.t 1)⟩,
  ⟨some 10, some (8, true), .no, .fa 0 (.t 9)⟩,
  ⟨some 11, some (8, true), .no, .load false 1 (.t 10)⟩,
  ⟨some 12, some (8, true), .no, .bin .leq .none (.t 11) (.v (.int .i64 (4096)))⟩,
  ⟨some 13, none, .no, .pick (.t 8) (.t 12) (.v (.bool false))⟩,
  ⟨some 3, none, .no, .mv (.t 13)⟩]
@[go_sem] def heads_Valid_r2 : List AIns := [
  ⟨some 14, none, .no, .mv (.t 3)⟩,
  ⟨some 15, none, .no, .mv (.t 14)⟩,
  ⟨some 16, some (15, true), .no, .fa 33 (.t 1)⟩,
  ⟨some 17, some (15, true), .no, .fa 0 (.t 16)⟩,
  ⟨some 18, some (15, true), .no, .load false 1 (.t 17)⟩,
  ⟨some 19, some (15, true), .no, .bin .geq .none (.t 18) (.v (.int .i64 (0)))⟩,
  ⟨some 20, none, .no, .pick (.t 15) (.t 19) (.v (.bool false))⟩,
  ⟨some 21, none, .no, .mv (.t 20)⟩,
  ⟨some 22, some (21, true), .no, .fa 33 (.t 1)⟩,
  ⟨some 23, some (21, true), .no, .fa 0 (.t 22)⟩,
  ⟨some 24, some (21, true), .no, .load false 1 (.t 23)⟩,
  ⟨some 25, some (21, true), .no, .bin .lss .none (.t 24) (.v (.int .i64 (8)))⟩,
  ⟨some 26, none, .no, .pick (.t 21) (.t 25) (.v (.bool false))⟩,
  ⟨some 27, none, .no, .mv (.t 26)⟩,
  ⟨some 28, some (27, true), .no, .fa 33 (.t 1)⟩,
  ⟨some 29, some (27, true), .no, .fa 1 (.t 28)⟩,
  ⟨some 30, some (27, true), .no, .load false 1 (.t 29)⟩,
  ⟨some 31, some (27, true), .no, .lenStr (.t 30)⟩,
  ⟨some 32, some (27, true), .no, .bin .eql .none (.t 31) (.v (.int .i64 (16384)))⟩,
  ⟨some 33, none, .no, .pick (.t 27) (.t 32) (.v (.bool false))⟩,
  ⟨some 34, none, .no, .mv (.t 33)⟩,
  ⟨some 35, some (34, true), .no, .fa 33 (.t 1)⟩,
  ⟨some 36, some (34, true), .no, .fa 2 (.t 35)⟩,
  ⟨some 37, some (34, true), .no, .load false 1 (.t 36)⟩,
  ⟨some 38, some (34, true), .no, .lenSl (.t 37)⟩,
  ⟨some 39, some (34, true), .no, .bin .eql .none (.t 38) (.v (.int .i64 (3)))⟩,
  ⟨some 40, none, .no, .pick (.t 34) (.t 39) (.v (.bool false))⟩,
  ⟨some 2, none, .no, .mv (.t 40)⟩]
def heads_Valid_c3 : ACode := .seq (.reg heads_Valid_r2) .ret
def heads_Valid_c4 : ACode := .seq (.reg heads_Valid_r1) heads_Valid_c3
def heads_Valid_c5 : ACode := .seq (.reg heads_Valid_r0) heads_Valid_c4
theorem heads_Valid_ok : cFn TC 38 = some (41, [.t 2], heads_Valid_c5) := by kernel_rfl

@[go_sem] def heads_Order_r0 : List AIns := [
  ⟨some 2, none, .no, .box (.t 0)⟩,
  ⟨some 3, none, .no, .box (.t 1)⟩,
  ⟨some 4, none, .no, .mv (.v (.int .i64 (0)))⟩]
@[go_sem] def heads_Order_r1 : List AIns := [
  ⟨some 6, none, .no, .fa 0 (.t 2)⟩,
  ⟨some 7, none, .no, .load false 1 (.t 6)⟩,
  ⟨some 8, none, .no, .fa 0 (.t 3)⟩,
  ⟨some 9, none, .no, .load false 1 (.t 8)⟩,
  ⟨some 10, none, .no, .bin .lss .none (.t 7) (.t 9)⟩,
  ⟨some 5, none, .no, .mv (.t 10)⟩]
@[go_sem] def heads_Order_r2 : List AIns := [
  ⟨some 4, none, .no, .mv (.v (.int .i64 (0)))⟩]
def heads_Order_c3 : ACode := .seq (.reg heads_Order_r2) .ret
@[go_sem] def heads_Order_r4 : List AIns := [
  ⟨some 12, none, .no, .fa 0 (.t 2)⟩,
  ⟨some 13, none, .no, .load false 1 (.t 12)⟩,
  ⟨some 14, none, .no, .fa 0 (.t 3)⟩,
  ⟨some 15, none, .no, .load false 1 (.t 14)⟩,
  ⟨some 16, none, .no, .bin .gtr .none (.t 13) (.t 15)⟩,
  ⟨some 11, none, .no, .mv (.t 16)⟩]
@[go_sem] def heads_Order_r5 : List AIns := [
  ⟨some 4, none, .no, .mv (.v (.int .i64 (2)))⟩]
def heads_Order_c6 : ACode := .seq (.reg heads_Order_r5) .ret
@[go_sem] def heads_Order_r7 : List AIns := [
  ⟨some 18, none, .no, .fa 1 (.t 2)⟩,
  ⟨some 19, none, .no, .load true 32 (.t 18)⟩,
  ⟨some 20, none, .no, .fa 1 (.t 3)⟩,
  ⟨some 21, none, .no, .load true 32 (.t 20)⟩,
  ⟨some 22, none, .no, .bin .eql (.agg (List.replicate 32 (.i .u8) ++ [])) (.t 19) (.t 21)⟩,
  ⟨some 17, none, .no, .mv (.t 22)⟩]
@[go_sem] def heads_Order_r8 : List AIns := [
  ⟨some 4, none, .no, .mv (.v (.int .i64 (1)))⟩]
def heads_Order_c9 : ACode := .seq (.reg heads_Order_r8) .ret
def heads_Order_c10 : ACode := .cond (.t 17) heads_Order_c9 .skip
def heads_Order_c11 : ACode := .seq (.reg heads_Order_r7) heads_Order_c10
def heads_Order_c12 : ACode := .cond (.t 11) heads_Order_c6 heads_Order_c11
def heads_Order_c13 : ACode := .seq (.reg heads_Order_r4) heads_Order_c12
def heads_Order_c14 : ACode := .cond (.t 5) heads_Order_c3 heads_Order_c13
def heads_Order_c15 : ACode := .seq (.reg heads_Order_r1) heads_Order_c14
@[go_sem] def heads_Order_r16 : List AIns := [
  ⟨some 4, none, .no, .mv (.v (.int .i64 (3)))⟩]
def heads_Order_c17 : ACode := .seq (.reg heads_Order_r16) .ret
def heads_Order_c18 : ACode := .seq (.block 0 heads_Order_c15) heads_Order_c17
def heads_Order_c19 : ACode := .seq (.reg heads_Order_r0) heads_Order_c18
theorem heads_Order_ok : cFn TC 54 = some (23, [.t 4], heads_Order_c19) := by kernel_rfl

@[go_sem] def heads_Check_r0 : List AIns := [
  ⟨some 2, none, .no, .box (.t 0)⟩,
  ⟨some 3, none, .no, .box (.t 1)⟩,
  ⟨some 4, none, .no, .mv (.v (.int .i64 (0)))⟩]
@[go_sem] def heads_Check_r1 : List AIns := [
  ⟨some 6, none, .no, .load true 36 (.t 3)⟩,
  ⟨some 7, none, .no, .call (.v (.fn 38 [])) [(.t 6)]⟩,
  ⟨some 8, none, .no, .un .not (.t 7)⟩,
  ⟨some 5, none, .no, .mv (.t 8)⟩]
@[go_sem] def heads_Check_r2 : List AIns := [
  ⟨some 4, none, .no, .mv (.v (.int .i64 (2)))⟩]
def heads_Check_c3 : ACode := .seq (.reg heads_Check_r2) .ret
@[go_sem] def heads_Check_r4 : List AIns := [
  ⟨some 10, none, .rd, .load true 32 (.t 2)⟩,
  ⟨some 11, none, .no, .fa 0 (.t 3)⟩,
  ⟨some 12, none, .rd, .load true 33 (.t 11)⟩,
  ⟨some 13, none, .ef, .call (.v (.fn 49 [])) [(.t 12)]⟩,
  ⟨some 14, none, .no, .fa 33 (.t 3)⟩,
  ⟨some 15, none, .rd, .load true 3 (.t 14)⟩,
  ⟨some 16, none, .no, .call (.v (.fn 47 [])) [(.t 10), (.t 13), (.t 15)]⟩,
  ⟨some 17, none, .no, .bin .neq .none (.t 16) (.v (.int .i64 (0)))⟩,
  ⟨some 9, none, .no, .mv (.t 17)⟩]
@[go_sem] def heads_Check_r5 : List AIns := [
  ⟨some 4, none, .no, .mv (.v (.int .i64 (81)))⟩]
def heads_Check_c6 : ACode := .seq (.reg heads_Check_r5) .ret
def heads_Check_c7 : ACode := .cond (.t 9) heads_Check_c6 .skip
def heads_Check_c8 : ACode := .seq (.reg heads_Check_r4) heads_Check_c7
def heads_Check_c9 : ACode := .cond (.t 5) heads_Check_c3 heads_Check_c8
def heads_Check_c10 : ACode := .seq (.reg heads_Check_r1) heads_Check_c9
@[go_sem] def heads_Check_r11 : List AIns := [
  ⟨some 4, none, .no, .mv (.v (.int .i64 (0)))⟩]
def heads_Check_c12 : ACode := .seq (.reg heads_Check_r11) .ret
def heads_Check_c13 : ACode := .seq (.block 0 heads_Check_c10) heads_Check_c12
def heads_Check_c14 : ACode := .seq (.reg heads_Check_r0) heads_Check_c13
theorem heads_Check_ok : cFn TC 52 = some (18, [.t 4], heads_Check_c14) := by kernel_rfl

@[go_sem] def speculumref10_Valid_r0 : List AIns := [
  ⟨some 1, none, .no, .box (.t 0)⟩,
  ⟨some 2, none, .no, .mv (.v (.bool false))⟩]
@[go_sem] def speculumref10_Valid_r1 : List AIns := [
  ⟨some 3, none, .no, .fa 0 (.t 1)⟩,
  ⟨some 4, none, .no, .fa 0 (.t 3)⟩,
  ⟨some 5, none, .no, .load false 1 (.t 4)⟩,
  ⟨some 6, none, .no, .bin .geq .none (.t 5) (.v (.int .i64 (0)))⟩,
  ⟨some 7, none, .no, .mv (.t 6)⟩,
  ⟨some 8, some (7, true), .no, .fa 0 (.t 1)⟩,
  ⟨some 9, some (7, true), .no, .fa 0 (.t 8)⟩,
  ⟨some 10, some (7, true), .no, .load false 1 (.t 9)⟩,
  ⟨some 11, some (7, true), .no, .bin .leq .none (.t 10) (.v (.int .i64 (4096)))⟩,
  ⟨some 12, none, .no, .pick (.t 7) (.t 11) (.v (.bool false))⟩,
  ⟨some 13, none, .no, .mv (.t 12)⟩,
  ⟨some 14, some (13, true), .no, .fa 33 (.t 1)⟩,
  ⟨some 15, some (13, true), .no, .fa 0 (.t 14)⟩,
  ⟨some 16, some (13, true), .no, .load false 1 (.t 15)⟩,
  ⟨some 17, some (13, true), .no, .bin .geq .none (.t 16) (.v (.int .i64 (0)))⟩,
  ⟨some 18, none, .no, .pick (.t 13) (.t 17) (.v (.bool false))⟩,
  ⟨some 19, none, .no, .mv (.t 18)⟩,
  ⟨some 20, some (19, true), .no, .fa 33 (.t 1)⟩,
  ⟨some 21, some (19, true), .no, .fa 0 (.t 20)⟩,
  ⟨some 22, some (19, true), .no, .load false 1 (.t 21)⟩,
  ⟨some 23, some (19, true), .no, .bin .leq .none (.t 22) (.v (.int .i64 (7)))⟩,
  ⟨some 24, none, .no, .pick (.t 19) (.t 23) (.v (.bool false))⟩,
  ⟨some 25, none, .no, .mv (.t 24)⟩,
  ⟨some 26, some (25, true), .no, .fa 33 (.t 1)⟩,
  ⟨some 27, some (25, true), .no, .fa 1 (.t 26)⟩,
  ⟨some 28, some (25, true), .no, .load false 1 (.t 27)⟩,
  ⟨some 29, some (25, true), .no, .lenStr (.t 28)⟩,
  ⟨some 30, some (25, true), .no, .bin .eql .none (.t 29) (.v (.int .i64 (16384)))⟩,
  ⟨some 31, none, .no, .pick (.t 25) (.t 30) (.v (.bool false))⟩,
  ⟨some 32, none, .no, .mv (.t 31)⟩,
  ⟨some 33, some (32, true), .no, .fa 33 (.t 1)⟩,
  ⟨some 34, some (32, true), .no, .fa 2 (.t 33)⟩,
  ⟨some 35, some (32, true), .no, .load false 1 (.t 34)⟩,
  ⟨some 36, some (32, true), .no, .lenSl (.t 35)⟩,
  ⟨some 37, some (32, true), .no, .bin .eql .none (.t 36) (.v (.int .i64 (3)))⟩,
  ⟨some 38, none, .no, .pick (.t 32) (.t 37) (.v (.bool false))⟩,
  ⟨some 2, none, .no, .mv (.t 38)⟩]
def speculumref10_Valid_c2 : ACode := .seq (.reg speculumref10_Valid_r1) .ret
def speculumref10_Valid_c3 : ACode := .seq (.reg speculumref10_Valid_r0) speculumref10_Valid_c2
theorem speculumref10_Valid_ok : cFn TC 51 = some (39, [.t 2], speculumref10_Valid_c3) := by kernel_rfl

@[go_sem] def heads_small_r0 : List AIns := [
  ⟨some 2, none, .no, .mv (.v (.int .i64 (0)))⟩]
@[go_sem] def heads_small_r1 : List AIns := [
  ⟨some 3, none, .no, .mv (.t 0)⟩,
  ⟨some 4, none, .no, .minmax false (.t 3) (.v (.int .u64 (1073741824)))⟩,
  ⟨some 5, none, .no, .conv (.int .i64) (.t 4)⟩,
  ⟨some 2, none, .no, .mv (.t 5)⟩]
def heads_small_c2 : ACode := .seq (.reg heads_small_r1) .ret
def heads_small_c3 : ACode := .seq (.reg heads_small_r0) heads_small_c2
theorem heads_small_ok : cFn TC 106 = some (6, [.t 2], heads_small_c3) := by kernel_rfl

@[go_sem] def heads_Digest_r0 : List AIns := [
  ⟨some 1, none, .no, .box (.t 0)⟩,
  ⟨some 2, none, .no, .alloc [(.int .u8 (0)), (.int .u8 (0)), (.int .u8 (0)), (.int .u8 (0)), (.int .u8 (0)), (.int .u8 (0)), (.int .u8 (0)), (.int .u8 (0)), (.int .u8 (0)), (.int .u8 (0)), (.int .u8 (0)), (.int .u8 (0)), (.int .u8 (0)), (.int .u8 (0)), (.int .u8 (0)), (.int .u8 (0)), (.int .u8 (0)), (.int .u8 (0)), (.int .u8 (0)), (.int .u8 (0)), (.int .u8 (0)), (.int .u8 (0)), (.int .u8 (0)), (.int .u8 (0)), (.int .u8 (0)), (.int .u8 (0)), (.int .u8 (0)), (.int .u8 (0)), (.int .u8 (0)), (.int .u8 (0)), (.int .u8 (0)), (.int .u8 (0))]⟩]
@[go_sem] def heads_Digest_r1 : List AIns := [
  ⟨some 3, none, .no, .fa 0 (.t 1)⟩,
  ⟨some 4, none, .rd, .load false 1 (.t 3)⟩,
  ⟨some 5, none, .no, .conv (.int .u64) (.t 4)⟩,
  ⟨some 6, none, .ef, .call (.v (.fn 127 [])) [(.t 5), (.v (.int .i64 (8)))]⟩,
  ⟨some 7, none, .no, .bin .add .none (.v (.str [5])) (.t 6)⟩,
  ⟨some 8, none, .no, .fa 1 (.t 1)⟩,
  ⟨some 9, none, .rd, .load true 32 (.t 8)⟩,
  ⟨some 10, none, .no, .call (.v (.fn 112 [])) [(.t 9)]⟩,
  ⟨some 11, none, .no, .bin .add .none (.t 7) (.t 10)⟩,
  ⟨some 12, none, .no, .call (.v (.fn 95 [])) [(.t 11)]⟩,
  ⟨none, none, .no, .store 32 (.t 2) (.t 12)⟩]
def heads_Digest_c2 : ACode := .seq (.reg heads_Digest_r1) .ret
def heads_Digest_c3 : ACode := .seq (.reg heads_Digest_r0) heads_Digest_c2
theorem heads_Digest_ok : cFn TC 49 = some (13, [.c 2 true 32], heads_Digest_c3) := by kernel_rfl
end Am
end Go.Proofs.YthgcooppjhcgcaaDoor
end
section
set_option linter.unusedSimpArgs false
set_option linter.unusedVariables false
/- Heads: contracts: what may be, numbers that are small, how heads stand. -/
namespace Go.Proofs.YthgcooppjhcgcaaDoor
namespace Am
attribute [local irreducible] ACallsTo ACallsP
/-- A signed head's cells. -/
def sgC (n : Int) (r : Hash) (i : Int) (s : List UInt8) (x : AV) : List AV := .int .i64 n :: (hc r ++ [.int .i64 i, .str s, x])
@[go_sem] theorem sgC_len (n : Int) (r : Hash) (i : Int) (s : List UInt8) (x : AV) : (sgC n r i s x).length = 36 := by simp [sgC, hc_len]
@[go_sem] theorem sgC_0 (n : Int) (r : Hash) (i : Int) (s : List UInt8) (x : AV) : (sgC n r i s x)[0]? = some (.int .i64 n) := rfl
theorem sgC_at (n : Int) (r : Hash) (i : Int) (s : List UInt8) (x : AV) (k : Nat) : (sgC n r i s x)[33 + k]? = [AV.int .i64 i, .str s, x][k]? := by
  rw [sgC, show 33 + k = (32 + k) + 1 by omega, List.getElem?_cons_succ, List.getElem?_append_right (by rw [hc_len]; omega), hc_len, Nat.add_sub_cancel_left]
@[go_sem] theorem sgC_33 (n : Int) (r : Hash) (i : Int) (s : List UInt8) (x : AV) : (sgC n r i s x)[33]? = some (.int .i64 i) := sgC_at n r i s x 0
@[go_sem] theorem sgC_34 (n : Int) (r : Hash) (i : Int) (s : List UInt8) (x : AV) : (sgC n r i s x)[34]? = some (.str s) := sgC_at n r i s x 1
@[go_sem] theorem sgC_35 (n : Int) (r : Hash) (i : Int) (s : List UInt8) (x : AV) : (sgC n r i s x)[35]? = some x := sgC_at n r i s x 2
@[go_sem] theorem sgC_all (n : Int) (r : Hash) (i : Int) (s : List UInt8) (x : AV) : (sgC n r i s x).take 36 = sgC n r i s x := List.take_of_length_le (by rw [sgC_len]; decide)
@[go_sem] theorem sgC_root (n : Int) (r : Hash) (i : Int) (s : List UInt8) (x : AV) : ((sgC n r i s x).drop 1).take 32 = hc r := by
  rw [sgC, List.drop_succ_cons, List.drop_zero, hc_take_app]
@[go_sem] theorem sgC_head (n : Int) (r : Hash) (i : Int) (s : List UInt8) (x : AV) : (sgC n r i s x).take 33 = .int .i64 n :: hc r := by
  rw [sgC, List.take_succ_cons, hc_take_app]
@[go_sem] theorem sgC_seal (n : Int) (r : Hash) (i : Int) (s : List UInt8) (x : AV) : ((sgC n r i s x).drop 33).take 3 = [.int .i64 i, .str s, x] := by
  rw [sgC, List.drop_succ_cons, hc_drop_app]; rfl
def validB (n i : Int) (s : List UInt8) (l : List Hash) : Bool := decide (0 ≤ n ∧ n ≤ 4096 ∧ 0 ≤ i ∧ i ≤ 7 ∧ s.length = 16384 ∧ l.length = 3)
theorem small_to (σ : Store) (n : Nat) (h : n < 18446744073709551616) : ACallsTo TC 106 [.int .u64 n] σ (.int .i64 ((min n 1073741824 : Nat) : Int)) σ := by
  refine ACallsTo.of_body heads_small_ok (by simp) fun hw _ => ?_
  by_cases h1 : n ≤ 1073741824
  · rw [Nat.min_eq_left h1]
    have e : min (n : Int) 1073741824 = n := by omega
    repeat' (first | refine SWp.seq ?_ | refine SWp.block ?_ | refine SWp.scope ?_ | refine SWp.condT rfl ?_ | refine SWp.condF rfl ?_ | (refine SWp.condD rfl (fun ht => ?_) (fun ht => ?_) <;> try (exfalso; omega)) | ((first | refine SWp.reg ?_ | refine SWp.skip ?_ | refine SWp.exit ?_ | refine SWp.ret ?_ | ((first | apply splitG | apply splitGB | apply splitR | apply splitRB | apply splitE | apply splitEB | apply splitC | apply splitCB) <;> intro ht)); all_goals try simp (disch := first | omega | (simp only [lens, hc_len, hr_len, List.length_reverse, byteEs_len, byteEsC_len, List.length_drop, sgC_len]; first | done | omega)) only [go_sem, Nat.reduceEqDiff, Nat.reduceBEq, Nat.reduceAdd, Nat.reduceMul, Nat.reduceSub, Nat.reduceLeDiff, Int.reduceToNat, Int.reducePow, e]))
    exact DownV.same hw rl_int
  · rw [Nat.min_eq_right (by omega)]
    have e : min (n : Int) 1073741824 = 1073741824 := by omega
    repeat' (first | refine SWp.seq ?_ | refine SWp.block ?_ | refine SWp.scope ?_ | refine SWp.condT rfl ?_ | refine SWp.condF rfl ?_ | (refine SWp.condD rfl (fun ht => ?_) (fun ht => ?_) <;> try (exfalso; omega)) | ((first | refine SWp.reg ?_ | refine SWp.skip ?_ | refine SWp.exit ?_ | refine SWp.ret ?_ | ((first | apply splitG | apply splitGB | apply splitR | apply splitRB | apply splitE | apply splitEB | apply splitC | apply splitCB) <;> intro ht)); all_goals try simp (disch := first | omega | (simp only [lens, hc_len, hr_len, List.length_reverse, byteEs_len, byteEsC_len, List.length_drop, sgC_len]; first | done | omega)) only [go_sem, Nat.reduceEqDiff, Nat.reduceBEq, Nat.reduceAdd, Nat.reduceMul, Nat.reduceSub, Nat.reduceLeDiff, Int.reduceToNat, Int.reducePow, e]))
    exact DownV.same hw rl_int
set_option maxHeartbeats 8000000 in
theorem Valid_to (σ : Store) (n i : Int) (r : Hash) (s : List UInt8) (l : List Hash) (x : AV) (hx : RdSl σ 32 (hr l) x) : ACallsTo TC 38 [.agg (sgC n r i s x)] σ (.bool (validB n i s l)) σ := by
  refine ACallsTo.of_body heads_Valid_ok (by simp) fun hw _ => ?_
  have r1 := hx.len
  rw [hr_len] at r1
  unfold rLenSl at r1
  unfold validB
  by_cases a1 : n ≥ 0
  · by_cases a2 : n ≤ 4096
    · by_cases a3 : i ≥ 0
      · by_cases a4 : i < 8
        · by_cases a5 : (s.length : Int) = 16384
          · by_cases a6 : (l.length : Int) = 3
            · rw [decide_eq_true (by omega)]
              repeat' (first | refine SWp.seq ?_ | refine SWp.block ?_ | refine SWp.scope ?_ | refine SWp.condT rfl ?_ | refine SWp.condF rfl ?_ | (refine SWp.condD rfl (fun ht => ?_) (fun ht => ?_) <;> try (exfalso; omega)) | ((first | refine SWp.reg ?_ | refine SWp.skip ?_ | refine SWp.exit ?_ | refine SWp.ret ?_ | ((first | apply splitG | apply splitGB | apply splitR | apply splitRB | apply splitE | apply splitEB | apply splitC | apply splitCB) <;> intro ht)); all_goals try simp (disch := first | omega | (simp only [lens, hc_len, hr_len, List.length_reverse, byteEs_len, byteEsC_len, List.length_drop, sgC_len]; first | done | omega)) only [go_sem, Nat.reduceEqDiff, Nat.reduceBEq, Nat.reduceAdd, Nat.reduceMul, Nat.reduceSub, Nat.reduceLeDiff, Int.reduceToNat, Int.reducePow, a1, a2, a3, a4, a5, a6, r1]))
              exact DownV.pure hw rl_bool
            · rw [decide_eq_false (by omega)]
              repeat' (first | refine SWp.seq ?_ | refine SWp.block ?_ | refine SWp.scope ?_ | refine SWp.condT rfl ?_ | refine SWp.condF rfl ?_ | (refine SWp.condD rfl (fun ht => ?_) (fun ht => ?_) <;> try (exfalso; omega)) | ((first | refine SWp.reg ?_ | refine SWp.skip ?_ | refine SWp.exit ?_ | refine SWp.ret ?_ | ((first | apply splitG | apply splitGB | apply splitR | apply splitRB | apply splitE | apply splitEB | apply splitC | apply splitCB) <;> intro ht)); all_goals try simp (disch := first | omega | (simp only [lens, hc_len, hr_len, List.length_reverse, byteEs_len, byteEsC_len, List.length_drop, sgC_len]; first | done | omega)) only [go_sem, Nat.reduceEqDiff, Nat.reduceBEq, Nat.reduceAdd, Nat.reduceMul, Nat.reduceSub, Nat.reduceLeDiff, Int.reduceToNat, Int.reducePow, a1, a2, a3, a4, a5, a6, r1]))
              exact DownV.pure hw rl_bool
          · rw [decide_eq_false (by omega)]
            repeat' (first | refine SWp.seq ?_ | refine SWp.block ?_ | refine SWp.scope ?_ | refine SWp.condT rfl ?_ | refine SWp.condF rfl ?_ | (refine SWp.condD rfl (fun ht => ?_) (fun ht => ?_) <;> try (exfalso; omega)) | ((first | refine SWp.reg ?_ | refine SWp.skip ?_ | refine SWp.exit ?_ | refine SWp.ret ?_ | ((first | apply splitG | apply splitGB | apply splitR | apply splitRB | apply splitE | apply splitEB | apply splitC | apply splitCB) <;> intro ht)); all_goals try simp (disch := first | omega | (simp only [lens, hc_len, hr_len, List.length_reverse, byteEs_len, byteEsC_len, List.length_drop, sgC_len]; first | done | omega)) only [go_sem, Nat.reduceEqDiff, Nat.reduceBEq, Nat.reduceAdd, Nat.reduceMul, Nat.reduceSub, Nat.reduceLeDiff, Int.reduceToNat, Int.reducePow, a1, a2, a3, a4, a5, r1]))
            exact DownV.pure hw rl_bool
        · rw [decide_eq_false (by omega)]
          repeat' (first | refine SWp.seq ?_ | refine SWp.block ?_ | refine SWp.scope ?_ | refine SWp.condT rfl ?_ | refine SWp.condF rfl ?_ | (refine SWp.condD rfl (fun ht => ?_) (fun ht => ?_) <;> try (exfalso; omega)) | ((first | refine SWp.reg ?_ | refine SWp.skip ?_ | refine SWp.exit ?_ | refine SWp.ret ?_ | ((first | apply splitG | apply splitGB | apply splitR | apply splitRB | apply splitE | apply splitEB | apply splitC | apply splitCB) <;> intro ht)); all_goals try simp (disch := first | omega | (simp only [lens, hc_len, hr_len, List.length_reverse, byteEs_len, byteEsC_len, List.length_drop, sgC_len]; first | done | omega)) only [go_sem, Nat.reduceEqDiff, Nat.reduceBEq, Nat.reduceAdd, Nat.reduceMul, Nat.reduceSub, Nat.reduceLeDiff, Int.reduceToNat, Int.reducePow, a1, a2, a3, a4, r1]))
          exact DownV.pure hw rl_bool
      · rw [decide_eq_false (by omega)]
        repeat' (first | refine SWp.seq ?_ | refine SWp.block ?_ | refine SWp.scope ?_ | refine SWp.condT rfl ?_ | refine SWp.condF rfl ?_ | (refine SWp.condD rfl (fun ht => ?_) (fun ht => ?_) <;> try (exfalso; omega)) | ((first | refine SWp.reg ?_ | refine SWp.skip ?_ | refine SWp.exit ?_ | refine SWp.ret ?_ | ((first | apply splitG | apply splitGB | apply splitR | apply splitRB | apply splitE | apply splitEB | apply splitC | apply splitCB) <;> intro ht)); all_goals try simp (disch := first | omega | (simp only [lens, hc_len, hr_len, List.length_reverse, byteEs_len, byteEsC_len, List.length_drop, sgC_len]; first | done | omega)) only [go_sem, Nat.reduceEqDiff, Nat.reduceBEq, Nat.reduceAdd, Nat.reduceMul, Nat.reduceSub, Nat.reduceLeDiff, Int.reduceToNat, Int.reducePow, a1, a2, a3, r1]))
        exact DownV.pure hw rl_bool
    · rw [decide_eq_false (by omega)]
      repeat' (first | refine SWp.seq ?_ | refine SWp.block ?_ | refine SWp.scope ?_ | refine SWp.condT rfl ?_ | refine SWp.condF rfl ?_ | (refine SWp.condD rfl (fun ht => ?_) (fun ht => ?_) <;> try (exfalso; omega)) | ((first | refine SWp.reg ?_ | refine SWp.skip ?_ | refine SWp.exit ?_ | refine SWp.ret ?_ | ((first | apply splitG | apply splitGB | apply splitR | apply splitRB | apply splitE | apply splitEB | apply splitC | apply splitCB) <;> intro ht)); all_goals try simp (disch := first | omega | (simp only [lens, hc_len, hr_len, List.length_reverse, byteEs_len, byteEsC_len, List.length_drop, sgC_len]; first | done | omega)) only [go_sem, Nat.reduceEqDiff, Nat.reduceBEq, Nat.reduceAdd, Nat.reduceMul, Nat.reduceSub, Nat.reduceLeDiff, Int.reduceToNat, Int.reducePow, a1, a2, r1]))
      exact DownV.pure hw rl_bool
  · rw [decide_eq_false (by omega)]
    repeat' (first | refine SWp.seq ?_ | refine SWp.block ?_ | refine SWp.scope ?_ | refine SWp.condT rfl ?_ | refine SWp.condF rfl ?_ | (refine SWp.condD rfl (fun ht => ?_) (fun ht => ?_) <;> try (exfalso; omega)) | ((first | refine SWp.reg ?_ | refine SWp.skip ?_ | refine SWp.exit ?_ | refine SWp.ret ?_ | ((first | apply splitG | apply splitGB | apply splitR | apply splitRB | apply splitE | apply splitEB | apply splitC | apply splitCB) <;> intro ht)); all_goals try simp (disch := first | omega | (simp only [lens, hc_len, hr_len, List.length_reverse, byteEs_len, byteEsC_len, List.length_drop, sgC_len]; first | done | omega)) only [go_sem, Nat.reduceEqDiff, Nat.reduceBEq, Nat.reduceAdd, Nat.reduceMul, Nat.reduceSub, Nat.reduceLeDiff, Int.reduceToNat, Int.reducePow, a1, r1]))
    exact DownV.pure hw rl_bool
set_option maxHeartbeats 8000000 in
theorem refValid_to (σ : Store) (n i : Int) (r : Hash) (s : List UInt8) (l : List Hash) (x : AV) (hx : RdSl σ 32 (hr l) x) : ACallsTo TC 51 [.agg (sgC n r i s x)] σ (.bool (validB n i s l)) σ := by
  refine ACallsTo.of_body speculumref10_Valid_ok (by simp) fun hw _ => ?_
  have r1 := hx.len
  rw [hr_len] at r1
  unfold rLenSl at r1
  unfold validB
  by_cases a1 : n ≥ 0
  · by_cases a2 : n ≤ 4096
    · by_cases a3 : i ≥ 0
      · by_cases a4 : i ≤ 7
        · by_cases a5 : (s.length : Int) = 16384
          · by_cases a6 : (l.length : Int) = 3
            · rw [decide_eq_true (by omega)]
              repeat' (first | refine SWp.seq ?_ | refine SWp.block ?_ | refine SWp.scope ?_ | refine SWp.condT rfl ?_ | refine SWp.condF rfl ?_ | (refine SWp.condD rfl (fun ht => ?_) (fun ht => ?_) <;> try (exfalso; omega)) | ((first | refine SWp.reg ?_ | refine SWp.skip ?_ | refine SWp.exit ?_ | refine SWp.ret ?_ | ((first | apply splitG | apply splitGB | apply splitR | apply splitRB | apply splitE | apply splitEB | apply splitC | apply splitCB) <;> intro ht)); all_goals try simp (disch := first | omega | (simp only [lens, hc_len, hr_len, List.length_reverse, byteEs_len, byteEsC_len, List.length_drop, sgC_len]; first | done | omega)) only [go_sem, Nat.reduceEqDiff, Nat.reduceBEq, Nat.reduceAdd, Nat.reduceMul, Nat.reduceSub, Nat.reduceLeDiff, Int.reduceToNat, Int.reducePow, a1, a2, a3, a4, a5, a6, r1]))
              exact DownV.pure hw rl_bool
            · rw [decide_eq_false (by omega)]
              repeat' (first | refine SWp.seq ?_ | refine SWp.block ?_ | refine SWp.scope ?_ | refine SWp.condT rfl ?_ | refine SWp.condF rfl ?_ | (refine SWp.condD rfl (fun ht => ?_) (fun ht => ?_) <;> try (exfalso; omega)) | ((first | refine SWp.reg ?_ | refine SWp.skip ?_ | refine SWp.exit ?_ | refine SWp.ret ?_ | ((first | apply splitG | apply splitGB | apply splitR | apply splitRB | apply splitE | apply splitEB | apply splitC | apply splitCB) <;> intro ht)); all_goals try simp (disch := first | omega | (simp only [lens, hc_len, hr_len, List.length_reverse, byteEs_len, byteEsC_len, List.length_drop, sgC_len]; first | done | omega)) only [go_sem, Nat.reduceEqDiff, Nat.reduceBEq, Nat.reduceAdd, Nat.reduceMul, Nat.reduceSub, Nat.reduceLeDiff, Int.reduceToNat, Int.reducePow, a1, a2, a3, a4, a5, a6, r1]))
              exact DownV.pure hw rl_bool
          · rw [decide_eq_false (by omega)]
            repeat' (first | refine SWp.seq ?_ | refine SWp.block ?_ | refine SWp.scope ?_ | refine SWp.condT rfl ?_ | refine SWp.condF rfl ?_ | (refine SWp.condD rfl (fun ht => ?_) (fun ht => ?_) <;> try (exfalso; omega)) | ((first | refine SWp.reg ?_ | refine SWp.skip ?_ | refine SWp.exit ?_ | refine SWp.ret ?_ | ((first | apply splitG | apply splitGB | apply splitR | apply splitRB | apply splitE | apply splitEB | apply splitC | apply splitCB) <;> intro ht)); all_goals try simp (disch := first | omega | (simp only [lens, hc_len, hr_len, List.length_reverse, byteEs_len, byteEsC_len, List.length_drop, sgC_len]; first | done | omega)) only [go_sem, Nat.reduceEqDiff, Nat.reduceBEq, Nat.reduceAdd, Nat.reduceMul, Nat.reduceSub, Nat.reduceLeDiff, Int.reduceToNat, Int.reducePow, a1, a2, a3, a4, a5, r1]))
            exact DownV.pure hw rl_bool
        · rw [decide_eq_false (by omega)]
          repeat' (first | refine SWp.seq ?_ | refine SWp.block ?_ | refine SWp.scope ?_ | refine SWp.condT rfl ?_ | refine SWp.condF rfl ?_ | (refine SWp.condD rfl (fun ht => ?_) (fun ht => ?_) <;> try (exfalso; omega)) | ((first | refine SWp.reg ?_ | refine SWp.skip ?_ | refine SWp.exit ?_ | refine SWp.ret ?_ | ((first | apply splitG | apply splitGB | apply splitR | apply splitRB | apply splitE | apply splitEB | apply splitC | apply splitCB) <;> intro ht)); all_goals try simp (disch := first | omega | (simp only [lens, hc_len, hr_len, List.length_reverse, byteEs_len, byteEsC_len, List.length_drop, sgC_len]; first | done | omega)) only [go_sem, Nat.reduceEqDiff, Nat.reduceBEq, Nat.reduceAdd, Nat.reduceMul, Nat.reduceSub, Nat.reduceLeDiff, Int.reduceToNat, Int.reducePow, a1, a2, a3, a4, r1]))
          exact DownV.pure hw rl_bool
      · rw [decide_eq_false (by omega)]
        repeat' (first | refine SWp.seq ?_ | refine SWp.block ?_ | refine SWp.scope ?_ | refine SWp.condT rfl ?_ | refine SWp.condF rfl ?_ | (refine SWp.condD rfl (fun ht => ?_) (fun ht => ?_) <;> try (exfalso; omega)) | ((first | refine SWp.reg ?_ | refine SWp.skip ?_ | refine SWp.exit ?_ | refine SWp.ret ?_ | ((first | apply splitG | apply splitGB | apply splitR | apply splitRB | apply splitE | apply splitEB | apply splitC | apply splitCB) <;> intro ht)); all_goals try simp (disch := first | omega | (simp only [lens, hc_len, hr_len, List.length_reverse, byteEs_len, byteEsC_len, List.length_drop, sgC_len]; first | done | omega)) only [go_sem, Nat.reduceEqDiff, Nat.reduceBEq, Nat.reduceAdd, Nat.reduceMul, Nat.reduceSub, Nat.reduceLeDiff, Int.reduceToNat, Int.reducePow, a1, a2, a3, r1]))
        exact DownV.pure hw rl_bool
    · rw [decide_eq_false (by omega)]
      repeat' (first | refine SWp.seq ?_ | refine SWp.block ?_ | refine SWp.scope ?_ | refine SWp.condT rfl ?_ | refine SWp.condF rfl ?_ | (refine SWp.condD rfl (fun ht => ?_) (fun ht => ?_) <;> try (exfalso; omega)) | ((first | refine SWp.reg ?_ | refine SWp.skip ?_ | refine SWp.exit ?_ | refine SWp.ret ?_ | ((first | apply splitG | apply splitGB | apply splitR | apply splitRB | apply splitE | apply splitEB | apply splitC | apply splitCB) <;> intro ht)); all_goals try simp (disch := first | omega | (simp only [lens, hc_len, hr_len, List.length_reverse, byteEs_len, byteEsC_len, List.length_drop, sgC_len]; first | done | omega)) only [go_sem, Nat.reduceEqDiff, Nat.reduceBEq, Nat.reduceAdd, Nat.reduceMul, Nat.reduceSub, Nat.reduceLeDiff, Int.reduceToNat, Int.reducePow, a1, a2, r1]))
      exact DownV.pure hw rl_bool
  · rw [decide_eq_false (by omega)]
    repeat' (first | refine SWp.seq ?_ | refine SWp.block ?_ | refine SWp.scope ?_ | refine SWp.condT rfl ?_ | refine SWp.condF rfl ?_ | (refine SWp.condD rfl (fun ht => ?_) (fun ht => ?_) <;> try (exfalso; omega)) | ((first | refine SWp.reg ?_ | refine SWp.skip ?_ | refine SWp.exit ?_ | refine SWp.ret ?_ | ((first | apply splitG | apply splitGB | apply splitR | apply splitRB | apply splitE | apply splitEB | apply splitC | apply splitCB) <;> intro ht)); all_goals try simp (disch := first | omega | (simp only [lens, hc_len, hr_len, List.length_reverse, byteEs_len, byteEsC_len, List.length_drop, sgC_len]; first | done | omega)) only [go_sem, Nat.reduceEqDiff, Nat.reduceBEq, Nat.reduceAdd, Nat.reduceMul, Nat.reduceSub, Nat.reduceLeDiff, Int.reduceToNat, Int.reducePow, a1, r1]))
    exact DownV.pure hw rl_bool
end Am
end Go.Proofs.YthgcooppjhcgcaaDoor
end
section
set_option linter.unusedSimpArgs false
set_option linter.unusedVariables false
/- Heads: contracts: the reference's bytes. -/
namespace Go.Proofs.YthgcooppjhcgcaaDoor
namespace Am
attribute [local irreducible] ACallsTo ACallsP
/-- A signed head's bytes. -/
def putH (n : Nat) (r : Hash) (i : Nat) (s : List UInt8) (l : List Hash) : List UInt8 := numS n ++ r.1 ++ numS i ++ textS s ++ hashesS l
def putV (n i : Int) (r : Hash) (s : List UInt8) (l : List Hash) : AV :=
  if validB n i s l = true then .tup [.str (putH n.toNat r i.toNat s l), .int .i64 0] else .tup [.str [], .int .i64 2]
theorem valid_of {n i : Int} {s : List UInt8} {l : List Hash} (h : validB n i s l = true) : ∃ N I : Nat, n = N ∧ i = I ∧ N ≤ 4096 ∧ I ≤ 7 ∧ s.length = 16384 ∧ l.length = 3 := by
  obtain ⟨h1, h2, h3, h4, h5, h6⟩ := of_decide_eq_true h
  exact ⟨n.toNat, i.toNat, by omega, by omega, by omega, by omega, h5, h6⟩
theorem hashesS_len {l : List Hash} : (hashesS l).length ≤ 11 + 32 * l.length := by
  unfold hashesS
  have := numS_le l.length
  have := catS_len l
  split
  · simp
  · rw [List.length_append]; omega
theorem rl_si {k : Nat} {s : List UInt8} {n : Int} : RL k (.tup [.str s, .int .i64 n]) := by simp only [RL, RLs]; exact ⟨trivial, trivial, trivial⟩
set_option maxHeartbeats 8000000 in
theorem refPut_to (σ : Store) (n i : Int) (r : Hash) (s : List UInt8) (l : List Hash) (x : AV) (hx : RdSl σ 32 (hr l) x) : ACallsTo TC 32 [.agg (sgC n r i s x)] σ (putV n i r s l) σ := by
  have hV := refValid_to (σ ++ [some [sgC n r i s x]]) n i r s l x hx.app
  refine ACallsTo.of_body speculumref10_Put_ok (by simp) fun hw _ => ?_
  unfold putV
  cases hv : validB n i s l with
  | false =>
    rw [hv] at hV
    rw [if_neg (by decide)]
    repeat' (first | refine SWp.seq ?_ | refine SWp.block ?_ | refine SWp.scope ?_ | refine SWp.condT rfl ?_ | refine SWp.condF rfl ?_ | (refine SWp.condD rfl (fun ht => ?_) (fun ht => ?_) <;> try (exfalso; omega)) | ((first | refine SWp.reg ?_ | refine SWp.skip ?_ | refine SWp.exit ?_ | refine SWp.ret ?_ | (apply callW.mk_pu; (first | exact (fun _ => hV))) | (apply callW.any; (first | exact (hV))) | ((first | apply splitG | apply splitGB | apply splitR | apply splitRB | apply splitE | apply splitEB | apply splitC | apply splitCB) <;> intro ht)); all_goals try simp (disch := first | omega | (simp only [lens, hc_len, hr_len, List.length_reverse, byteEs_len, byteEsC_len, List.length_drop, sgC_len]; first | done | omega)) only [go_sem, Nat.reduceEqDiff, Nat.reduceBEq, Nat.reduceAdd, Nat.reduceMul, Nat.reduceSub, Nat.reduceLeDiff, Int.reduceToNat, Int.reducePow]))
    exact DownV.pure hw rl_si
  | true =>
    rw [hv] at hV
    rw [if_pos rfl]
    obtain ⟨N, I, rfl, rfl, h1, h2, h3, h4⟩ := valid_of hv
    have hN := fun σ => ref_Num_to σ N (by omega)
    have hI := fun σ => ref_Num_to σ I (by omega)
    have hH := fun σ => ref_Hash_to σ r.1 r.2
    have hT := fun σ => ref_Text_to σ s (by omega)
    have hL := refHashes_to (σ ++ [some [sgC N r I s x]]) l x hx.app (by omega)
    have l1 := numS_le N
    have l2 := numS_le I
    have l3 := r.2
    have l4 : (textS s).length ≤ 11 + 16384 := by have := numS_le s.length; rw [textS, List.length_append]; omega
    have l5 := hashesS_len (l := l)
    have hcr : hc r = byteEsC r.1 := rfl
    rw [Int.toNat_natCast, Int.toNat_natCast]
    unfold putH
    generalize numS N = sN at *
    generalize numS I = sI at *
    generalize textS s = sT at *
    generalize hashesS l = sH at *
    repeat' (first | refine SWp.seq ?_ | refine SWp.block ?_ | refine SWp.scope ?_ | refine SWp.condT rfl ?_ | refine SWp.condF rfl ?_ | (refine SWp.condD rfl (fun ht => ?_) (fun ht => ?_) <;> try (exfalso; omega)) | ((first | refine SWp.reg ?_ | refine SWp.skip ?_ | refine SWp.exit ?_ | refine SWp.ret ?_ | (apply callW.mk_pu; (first | exact (fun _ => hV) | exact (fun _ => hN _) | exact (fun _ => hI _) | exact (fun _ => hH _) | exact (fun _ => hT _) | exact (fun _ => hL))) | (apply callW.any; (first | exact (hV) | exact (hN _) | exact (hI _) | exact (hH _) | exact (hT _) | exact (hL))) | ((first | apply splitG | apply splitGB | apply splitR | apply splitRB | apply splitE | apply splitEB | apply splitC | apply splitCB) <;> intro ht)); all_goals try simp (disch := first | omega | (simp only [lens, hc_len, hr_len, List.length_reverse, byteEs_len, byteEsC_len, List.length_drop, sgC_len]; first | done | omega)) only [go_sem, Nat.reduceEqDiff, Nat.reduceBEq, Nat.reduceAdd, Nat.reduceMul, Nat.reduceSub, Nat.reduceLeDiff, Int.reduceToNat, Int.reducePow, hcr]))
    exact DownV.pure hw rl_si
end Am
end Go.Proofs.YthgcooppjhcgcaaDoor
end
section
set_option linter.unusedSimpArgs false
set_option linter.unusedVariables false
/- Heads: contracts: the head of bytes. -/
namespace Go.Proofs.YthgcooppjhcgcaaDoor
namespace Am
attribute [local irreducible] ACallsTo ACallsP
structure Hd where
  n : Nat
  r : Hash
  i : Nat
  g : List UInt8
  l : List Hash
/-- What stands there, and what is behind it. -/
def parseH (s : List UInt8) : Option (Hd × List UInt8) :=
  (readS s).bind fun x => (unS x.2).bind fun y => (readS y.2).bind fun z => (cutS z.2).bind fun u => (unsS u.2).map fun v => (⟨x.1, y.1, z.1, u.1, v.1⟩, v.2)
def getH (s : List UInt8) : Option Hd := (parseH s).bind fun x => if x.2 = [] ∧ validB x.1.n x.1.i x.1.g x.1.l = true then some x.1 else none
def getV : Option Hd → AV
  | none => .tup [.agg (sgC 0 zeroH 0 [] .nilsl), .int .i64 10]
  | some h => .tup [.agg (sgC h.n h.r h.i h.g (slVal 32 (hr h.l))), .int .i64 0]
theorem rl_sg {k : Nat} {n i : Int} {r : Hash} {s : List UInt8} {x : AV} {e : Int} (h : RL k x) : RL k (.tup [.agg (sgC n r i s x), .int .i64 e]) := by
  have h1 : RLs k (sgC n r i s x) := by
    rw [sgC, RLs_iff]
    intro a ha
    simp only [List.mem_cons, List.mem_append, List.not_mem_nil, or_false] at ha
    rcases ha with rfl | ha | rfl | rfl | rfl
    · exact rl_int
    · exact RLs_iff.1 (rl_hc r) a ha
    · exact rl_int
    · exact rl_str
    · exact h
  simp only [RL, RLs]; exact ⟨h1, trivial, trivial⟩
theorem rl_sg0 {k : Nat} : RL k (.tup [.agg (sgC 0 zeroH 0 [] .nilsl), .int .i64 10]) := rl_sg (by simp [RL])
theorem unS_len {s r : List UInt8} {h : Hash} (e : unS s = some (h, r)) : r.length < s.length := by
  by_cases hl : 32 ≤ s.length
  · rw [unS_some hl] at e
    simp only [Option.some.injEq, Prod.mk.injEq] at e
    rw [← e.2, List.length_drop]; omega
  · rw [unS_none hl] at e; cases e
theorem cutS_len {s g r : List UInt8} (e : cutS s = some (g, r)) : r.length < s.length ∧ g.length < s.length := by
  unfold cutS at e
  cases h : readS s with
  | none => rw [h] at e; simp at e
  | some x =>
    obtain ⟨n, t⟩ := x
    have hl := (readS_lt h).2
    rw [h] at e
    simp only [Option.bind_some, takeS] at e
    split at e
    · simp only [Option.some.injEq, Prod.mk.injEq] at e
      rw [← e.2, ← e.1, List.length_drop, List.length_take]; omega
    · cases e
theorem unsV_some (l : List Hash) (r : List UInt8) : unsV (some (l, r)) = .tup [slVal 32 (hr l), .str r, .bool true] := rfl
end Am
end Go.Proofs.YthgcooppjhcgcaaDoor
end
section
set_option linter.unusedSimpArgs false
set_option linter.unusedVariables false
/- Heads: plain: what is got of bytes is what the reference gets. -/
set_option linter.unusedSimpArgs false
set_option linter.unusedVariables false
namespace Go.Proofs.YthgcooppjhcgcaaDoor
namespace Am
end Am
end Go.Proofs.YthgcooppjhcgcaaDoor
end
section
set_option linter.unusedSimpArgs false
set_option linter.unusedVariables false
/- Heads: plain: a head is got of its bytes, and of nothing that is cut off or longer. -/
set_option linter.unusedSimpArgs false
set_option linter.unusedVariables false
namespace Go.Proofs.YthgcooppjhcgcaaDoor
namespace Am
end Am
end Go.Proofs.YthgcooppjhcgcaaDoor
end
section
set_option linter.unusedSimpArgs false
set_option linter.unusedVariables false
/- Heads: contracts: how heads stand; rough heads. -/
namespace Go.Proofs.YthgcooppjhcgcaaDoor
namespace Am
attribute [local irreducible] ACallsTo ACallsP
def ordV (n m : Int) (a b : Hash) : Int := if n < m then 0 else if n > m then 2 else if a = b then 1 else 3
set_option maxHeartbeats 4000000 in
theorem Order_to (σ : Store) (n m : Int) (a b : Hash) : ACallsTo TC 54 [.agg (.int .i64 n :: hc a), .agg (.int .i64 m :: hc b)] σ (.int .i64 (ordV n m a b)) σ := by
  refine ACallsTo.of_body heads_Order_ok (by simp) fun hw _ => ?_
  unfold ordV
  by_cases h1 : n < m
  · rw [if_pos h1]
    repeat' (first | refine SWp.seq ?_ | refine SWp.block ?_ | refine SWp.scope ?_ | refine SWp.condT rfl ?_ | refine SWp.condF rfl ?_ | (refine SWp.condD rfl (fun ht => ?_) (fun ht => ?_) <;> try (exfalso; omega)) | ((first | refine SWp.reg ?_ | refine SWp.skip ?_ | refine SWp.exit ?_ | refine SWp.ret ?_ | ((first | apply splitG | apply splitGB | apply splitR | apply splitRB | apply splitE | apply splitEB | apply splitC | apply splitCB) <;> intro ht)); all_goals try simp (disch := first | omega | (simp only [lens, hc_len, hr_len, List.length_reverse, byteEs_len, byteEsC_len, List.length_drop, sgC_len]; first | done | omega)) only [go_sem, Nat.reduceEqDiff, Nat.reduceBEq, Nat.reduceAdd, Nat.reduceMul, Nat.reduceSub, Nat.reduceLeDiff, Int.reduceToNat, Int.reducePow, h1]))
    exact DownV.pure hw rl_int
  · rw [if_neg h1]
    by_cases h2 : n > m
    · rw [if_pos h2]
      repeat' (first | refine SWp.seq ?_ | refine SWp.block ?_ | refine SWp.scope ?_ | refine SWp.condT rfl ?_ | refine SWp.condF rfl ?_ | (refine SWp.condD rfl (fun ht => ?_) (fun ht => ?_) <;> try (exfalso; omega)) | ((first | refine SWp.reg ?_ | refine SWp.skip ?_ | refine SWp.exit ?_ | refine SWp.ret ?_ | ((first | apply splitG | apply splitGB | apply splitR | apply splitRB | apply splitE | apply splitEB | apply splitC | apply splitCB) <;> intro ht)); all_goals try simp (disch := first | omega | (simp only [lens, hc_len, hr_len, List.length_reverse, byteEs_len, byteEsC_len, List.length_drop, sgC_len]; first | done | omega)) only [go_sem, Nat.reduceEqDiff, Nat.reduceBEq, Nat.reduceAdd, Nat.reduceMul, Nat.reduceSub, Nat.reduceLeDiff, Int.reduceToNat, Int.reducePow, h1, h2]))
      exact DownV.pure hw rl_int
    · rw [if_neg h2]
      by_cases h3 : a = b
      · rw [if_pos h3]
        have e := decide_eq_true h3
        repeat' (first | refine SWp.seq ?_ | refine SWp.block ?_ | refine SWp.scope ?_ | refine SWp.condT rfl ?_ | refine SWp.condF rfl ?_ | (refine SWp.condD rfl (fun ht => ?_) (fun ht => ?_) <;> try (exfalso; omega)) | ((first | refine SWp.reg ?_ | refine SWp.skip ?_ | refine SWp.exit ?_ | refine SWp.ret ?_ | ((first | apply splitG | apply splitGB | apply splitR | apply splitRB | apply splitE | apply splitEB | apply splitC | apply splitCB) <;> intro ht)); all_goals try simp (disch := first | omega | (simp only [lens, hc_len, hr_len, List.length_reverse, byteEs_len, byteEsC_len, List.length_drop, sgC_len]; first | done | omega)) only [go_sem, Nat.reduceEqDiff, Nat.reduceBEq, Nat.reduceAdd, Nat.reduceMul, Nat.reduceSub, Nat.reduceLeDiff, Int.reduceToNat, Int.reducePow, h1, h2, e]))
        exact DownV.pure hw rl_int
      · rw [if_neg h3]
        have e := decide_eq_false h3
        repeat' (first | refine SWp.seq ?_ | refine SWp.block ?_ | refine SWp.scope ?_ | refine SWp.condT rfl ?_ | refine SWp.condF rfl ?_ | (refine SWp.condD rfl (fun ht => ?_) (fun ht => ?_) <;> try (exfalso; omega)) | ((first | refine SWp.reg ?_ | refine SWp.skip ?_ | refine SWp.exit ?_ | refine SWp.ret ?_ | ((first | apply splitG | apply splitGB | apply splitR | apply splitRB | apply splitE | apply splitEB | apply splitC | apply splitCB) <;> intro ht)); all_goals try simp (disch := first | omega | (simp only [lens, hc_len, hr_len, List.length_reverse, byteEs_len, byteEsC_len, List.length_drop, sgC_len]; first | done | omega)) only [go_sem, Nat.reduceEqDiff, Nat.reduceBEq, Nat.reduceAdd, Nat.reduceMul, Nat.reduceSub, Nat.reduceLeDiff, Int.reduceToNat, Int.reducePow, h1, h2, e]))
        exact DownV.pure hw rl_int
/-- A rough head's cells. -/
def rgC (n : Int) (r : Hash) (i : Int) (s : List UInt8) (m : Int) (x : AV) : List AV := .int .i64 n :: (hc r ++ [.int .i64 i, .str s, .int .i8 m, x])
@[go_sem] theorem rgC_len (n : Int) (r : Hash) (i : Int) (s : List UInt8) (m : Int) (x : AV) : (rgC n r i s m x).length = 37 := by simp [rgC, hc_len]
theorem rgC_at (n : Int) (r : Hash) (i : Int) (s : List UInt8) (m : Int) (x : AV) (k : Nat) : (rgC n r i s m x)[33 + k]? = [AV.int .i64 i, .str s, .int .i8 m, x][k]? := by
  rw [rgC, show 33 + k = (32 + k) + 1 by omega, List.getElem?_cons_succ, List.getElem?_append_right (by rw [hc_len]; omega), hc_len, Nat.add_sub_cancel_left]
@[go_sem] theorem rgC_33 (n : Int) (r : Hash) (i : Int) (s : List UInt8) (m : Int) (x : AV) : (rgC n r i s m x)[33]? = some (.int .i64 i) := rgC_at n r i s m x 0
@[go_sem] theorem rgC_34 (n : Int) (r : Hash) (i : Int) (s : List UInt8) (m : Int) (x : AV) : (rgC n r i s m x)[34]? = some (.str s) := rgC_at n r i s m x 1
@[go_sem] theorem rgC_35 (n : Int) (r : Hash) (i : Int) (s : List UInt8) (m : Int) (x : AV) : (rgC n r i s m x)[35]? = some (.int .i8 m) := rgC_at n r i s m x 2
@[go_sem] theorem rgC_36 (n : Int) (r : Hash) (i : Int) (s : List UInt8) (m : Int) (x : AV) : (rgC n r i s m x)[36]? = some x := rgC_at n r i s m x 3
@[go_sem] theorem rgC_head (n : Int) (r : Hash) (i : Int) (s : List UInt8) (m : Int) (x : AV) : (rgC n r i s m x).take 33 = .int .i64 n :: hc r := by
  rw [rgC, List.take_succ_cons, hc_take_app]
set_option maxHeartbeats 4000000 in
theorem HGreat_to (σ : Store) (n i m : Int) (r : Hash) (s : List UInt8) (l : List Hash) (x : AV) (hx : RdSl σ 32 (hr l) x) :
    ACallsTo TC 30 [.agg (rgC n r i s m x)] σ (.bool (decide (300 < s.length ∨ 40 < l.length))) σ := by
  refine ACallsTo.of_body speculumlaw10_Rough__Great_ok (by simp) fun hw _ => ?_
  have r1 := hx.len
  rw [hr_len] at r1
  unfold rLenSl at r1
  by_cases h1 : (s.length : Int) > 300
  · rw [decide_eq_true (by omega)]
    repeat' (first | refine SWp.seq ?_ | refine SWp.block ?_ | refine SWp.scope ?_ | refine SWp.condT rfl ?_ | refine SWp.condF rfl ?_ | (refine SWp.condD rfl (fun ht => ?_) (fun ht => ?_) <;> try (exfalso; omega)) | ((first | refine SWp.reg ?_ | refine SWp.skip ?_ | refine SWp.exit ?_ | refine SWp.ret ?_ | ((first | apply splitG | apply splitGB | apply splitR | apply splitRB | apply splitE | apply splitEB | apply splitC | apply splitCB) <;> intro ht)); all_goals try simp (disch := first | omega | (simp only [lens, hc_len, hr_len, List.length_reverse, byteEs_len, byteEsC_len, List.length_drop, sgC_len]; first | done | omega)) only [go_sem, Nat.reduceEqDiff, Nat.reduceBEq, Nat.reduceAdd, Nat.reduceMul, Nat.reduceSub, Nat.reduceLeDiff, Int.reduceToNat, Int.reducePow, h1, r1]))
    exact DownV.pure hw rl_bool
  · by_cases h2 : (l.length : Int) > 40
    · rw [decide_eq_true (by omega)]
      repeat' (first | refine SWp.seq ?_ | refine SWp.block ?_ | refine SWp.scope ?_ | refine SWp.condT rfl ?_ | refine SWp.condF rfl ?_ | (refine SWp.condD rfl (fun ht => ?_) (fun ht => ?_) <;> try (exfalso; omega)) | ((first | refine SWp.reg ?_ | refine SWp.skip ?_ | refine SWp.exit ?_ | refine SWp.ret ?_ | ((first | apply splitG | apply splitGB | apply splitR | apply splitRB | apply splitE | apply splitEB | apply splitC | apply splitCB) <;> intro ht)); all_goals try simp (disch := first | omega | (simp only [lens, hc_len, hr_len, List.length_reverse, byteEs_len, byteEsC_len, List.length_drop, sgC_len]; first | done | omega)) only [go_sem, Nat.reduceEqDiff, Nat.reduceBEq, Nat.reduceAdd, Nat.reduceMul, Nat.reduceSub, Nat.reduceLeDiff, Int.reduceToNat, Int.reducePow, h1, h2, r1]))
      exact DownV.pure hw rl_bool
    · rw [decide_eq_false (by omega)]
      repeat' (first | refine SWp.seq ?_ | refine SWp.block ?_ | refine SWp.scope ?_ | refine SWp.condT rfl ?_ | refine SWp.condF rfl ?_ | (refine SWp.condD rfl (fun ht => ?_) (fun ht => ?_) <;> try (exfalso; omega)) | ((first | refine SWp.reg ?_ | refine SWp.skip ?_ | refine SWp.exit ?_ | refine SWp.ret ?_ | ((first | apply splitG | apply splitGB | apply splitR | apply splitRB | apply splitE | apply splitEB | apply splitC | apply splitCB) <;> intro ht)); all_goals try simp (disch := first | omega | (simp only [lens, hc_len, hr_len, List.length_reverse, byteEs_len, byteEsC_len, List.length_drop, sgC_len]; first | done | omega)) only [go_sem, Nat.reduceEqDiff, Nat.reduceBEq, Nat.reduceAdd, Nat.reduceMul, Nat.reduceSub, Nat.reduceLeDiff, Int.reduceToNat, Int.reducePow, h1, h2, r1]))
      exact DownV.pure hw rl_bool
end Am
end Go.Proofs.YthgcooppjhcgcaaDoor
end
section
set_option linter.unusedSimpArgs false
set_option linter.unusedVariables false
/- Heads: contracts: are two signed heads the same? -/
namespace Go.Proofs.YthgcooppjhcgcaaDoor
namespace Am
attribute [local irreducible] ACallsTo ACallsP
@[go_sem] theorem sgC_tail (n : Int) (r : Hash) (i : Int) (s : List UInt8) (x : AV) : (sgC n r i s x).drop 33 = [.int .i64 i, .str s, x] := by
  rw [sgC, List.drop_succ_cons, hc_drop_app]
theorem sg_eq (n m : Int) (a b : Hash) : eqCells (.int .i64 n :: hc a) (.int .i64 m :: hc b) = decide (n = m ∧ a = b) := by
  rw [show eqCells (.int .i64 n :: hc a) (.int .i64 m :: hc b) = (eqCell (.int .i64 n) (.int .i64 m) && eqCells (hc a) (hc b)) from rfl, hc_eq, Bool.eq_iff_iff]
  simp [eqCell]
end Am
end Go.Proofs.YthgcooppjhcgcaaDoor
end
section
set_option linter.unusedSimpArgs false
set_option linter.unusedVariables false
/- Heads: contracts: a rough head is a signed head. -/
namespace Go.Proofs.YthgcooppjhcgcaaDoor
namespace Am
attribute [local irreducible] ACallsTo ACallsP
/-- Again and again. -/
def repF (s : List UInt8) (N : Nat) : Nat → List UInt8 → List UInt8
  | 0, a => a
  | f + 1, a => if 0 < s.length ∧ a.length < N then repF s N f (a ++ s) else a
theorem repF_stop {s a : List UInt8} {N f : Nat} (h : ¬ (0 < s.length ∧ a.length < N)) : repF s N f a = a := by
  cases f with
  | zero => rfl
  | succ f => rw [repF, if_neg h]
theorem rls_sg {k : Nat} {n i : Int} {r : Hash} {s : List UInt8} {x : AV} (h : RL k x) : RLs k (sgC n r i s x) := by
  have := rl_sg (n := n) (i := i) (r := r) (s := s) (e := 0) h
  simp only [RL, RLs] at this
  exact this.1
def sigS (s : List UInt8) (N : Nat) : List UInt8 := (repF s N N []).take N
set_option maxHeartbeats 8000000 in
theorem Signed_to (σ : Store) (n i m : Int) (r : Hash) (s : List UInt8) (l : List Hash) (x : AV) (hx : SlV 32 (hr l) x) (hm : -128 ≤ m ∧ m ≤ 127) (hs : s.length ≤ 300) :
    ACallsTo TC 33 [.agg (rgC n r i s m x)] σ (.agg (sgC n r i (sigS s (16384 + m).toNat) x)) σ := by
  refine ACallsTo.of_body speculumlaw10_Rough__Signed_ok (by simp) fun hw _ => ?_
  have xc := slv_cells hx
  have xl : RL σ.length x := rl_z hx
  have fx : ∀ (cells : List AV) (off : Nat) (rest : List (Nat × Nat × AV)), off + 1 ≤ cells.length → rFill cells ((off, 1, x) :: rest) = rFill (overw cells off [x]) rest := fun cells off rest h => by simp [rFill, xc, h]
  unfold cellsOf at xc
  have d35 : ∀ (a b c : AV), List.drop 35 (hc r ++ [a, b, c]) = [] := fun a b c => List.drop_of_length_le (by simp [hc_len])
  have d36 : List.drop 36 (sgC 0 zeroH 0 [] .nilsl) = [] := rfl
  have dl : List.drop 35 [AV.int .u8 0, AV.int .u8 0, AV.int .u8 0, AV.int .u8 0, AV.int .u8 0, AV.int .u8 0, AV.int .u8 0, AV.int .u8 0, AV.int .u8 0, AV.int .u8 0, AV.int .u8 0, AV.int .u8 0, AV.int .u8 0, AV.int .u8 0, AV.int .u8 0, AV.int .u8 0, AV.int .u8 0, AV.int .u8 0, AV.int .u8 0, AV.int .u8 0, AV.int .u8 0, AV.int .u8 0, AV.int .u8 0, AV.int .u8 0, AV.int .u8 0, AV.int .u8 0, AV.int .u8 0, AV.int .u8 0, AV.int .u8 0, AV.int .u8 0, AV.int .u8 0, AV.int .u8 0, AV.int .i64 0, AV.str [], AV.nilsl] = [] := rfl
  obtain ⟨N, hN⟩ : ∃ N : Nat, N = (16384 + m).toNat := ⟨_, rfl⟩
  have hN2 : 16384 + m = (N : Int) := by omega
  rw [← hN]
  repeat' (first | refine SWp.seq ?_ | refine SWp.block ?_ | refine SWp.scope ?_ | refine SWp.condT rfl ?_ | refine SWp.condF rfl ?_ | (refine SWp.condD rfl (fun ht => ?_) (fun ht => ?_) <;> try (exfalso; omega)) | ((first | refine SWp.reg ?_ | refine SWp.skip ?_ | refine SWp.exit ?_ | refine SWp.ret ?_ | ((first | apply splitG | apply splitGB | apply splitR | apply splitRB | apply splitE | apply splitEB | apply splitC | apply splitCB) <;> intro ht)); all_goals try simp (disch := first | omega | (simp only [lens, hc_len, hr_len, List.length_reverse, byteEs_len, byteEsC_len, List.length_drop, sgC_len, rgC_len, List.length_append]; first | done | omega)) only [go_sem, Nat.reduceEqDiff, Nat.reduceBEq, Nat.reduceAdd, Nat.reduceMul, Nat.reduceSub, Nat.reduceLeDiff, Int.reduceToNat, Int.reducePow, hN2]))
  refine SWp.loop (fun k ρ σ' => ∃ a : List UInt8, a.length + k ≥ N ∧ a.length < N + 301 ∧ repF s N k a = repF s N N [] ∧ σ' = σ ++ [some [rgC n r i s m x], some [sgC 0 zeroH 0 [] .nilsl]] ∧ ρ 1 = .ptr σ.length 0 0 ∧ ρ 2 = .ptr (σ.length + 1) 0 0 ∧ ρ 3 = .int .i64 N ∧ ρ 4 = .str a) N ?_ ?_
  · exact ⟨[], by simp, by simp, rfl, rfl, by simp (disch := first | omega | (simp only [lens, hc_len, hr_len, List.length_reverse, byteEs_len, byteEsC_len, List.length_drop, sgC_len, rgC_len, List.length_append]; first | done | omega)) only [go_sem, Nat.reduceEqDiff, Nat.reduceBEq, Nat.reduceAdd, Nat.reduceMul, Nat.reduceSub, Nat.reduceLeDiff, Int.reduceToNat, Int.reducePow], by simp (disch := first | omega | (simp only [lens, hc_len, hr_len, List.length_reverse, byteEs_len, byteEsC_len, List.length_drop, sgC_len, rgC_len, List.length_append]; first | done | omega)) only [go_sem, Nat.reduceEqDiff, Nat.reduceBEq, Nat.reduceAdd, Nat.reduceMul, Nat.reduceSub, Nat.reduceLeDiff, Int.reduceToNat, Int.reducePow], by simp (disch := first | omega | (simp only [lens, hc_len, hr_len, List.length_reverse, byteEs_len, byteEsC_len, List.length_drop, sgC_len, rgC_len, List.length_append]; first | done | omega)) only [go_sem, Nat.reduceEqDiff, Nat.reduceBEq, Nat.reduceAdd, Nat.reduceMul, Nat.reduceSub, Nat.reduceLeDiff, Int.reduceToNat, Int.reducePow], by simp (disch := first | omega | (simp only [lens, hc_len, hr_len, List.length_reverse, byteEs_len, byteEsC_len, List.length_drop, sgC_len, rgC_len, List.length_append]; first | done | omega)) only [go_sem, Nat.reduceEqDiff, Nat.reduceBEq, Nat.reduceAdd, Nat.reduceMul, Nat.reduceSub, Nat.reduceLeDiff, Int.reduceToNat, Int.reducePow]⟩
  · rintro k ρ σ' ⟨a, hk, hal, hr, rfl, q1, q2, q3, q4⟩
    by_cases c1 : (s.length : Int) > 0
    · by_cases c2 : (a.length : Int) < N
      · have hk1 : ∃ k', k = k' + 1 := ⟨k - 1, by omega⟩
        obtain ⟨k, rfl⟩ := hk1
        rw [repF, if_pos ⟨by omega, by omega⟩] at hr
        repeat' (first | refine SWp.seq ?_ | refine SWp.block ?_ | refine SWp.scope ?_ | refine SWp.condT rfl ?_ | refine SWp.condF rfl ?_ | (refine SWp.condD rfl (fun ht => ?_) (fun ht => ?_) <;> try (exfalso; omega)) | ((first | refine SWp.reg ?_ | refine SWp.skip ?_ | refine SWp.exit ?_ | refine SWp.ret ?_ | ((first | apply splitG | apply splitGB | apply splitR | apply splitRB | apply splitE | apply splitEB | apply splitC | apply splitCB) <;> intro ht)); all_goals try simp (disch := first | omega | (simp only [lens, hc_len, hr_len, List.length_reverse, byteEs_len, byteEsC_len, List.length_drop, sgC_len, rgC_len, List.length_append]; first | done | omega)) only [go_sem, Nat.reduceEqDiff, Nat.reduceBEq, Nat.reduceAdd, Nat.reduceMul, Nat.reduceSub, Nat.reduceLeDiff, Int.reduceToNat, Int.reducePow, q1, q2, q3, q4, c1, c2]))
        exact ⟨k, by omega, a ++ s, by rw [List.length_append]; omega, by rw [List.length_append]; omega, hr, rfl⟩
      · rw [repF_stop (by omega)] at hr
        unfold sigS
        rw [← hr]
        have h0 : (if (N : Int) < (a.length : Int) then (N : Int) else (a.length : Int)) = ((min a.length N : Nat) : Int) := by split <;> omega
        have ht : a.take (min a.length N) = a.take N := by
          rcases Nat.le_total a.length N with h | h
          · rw [Nat.min_eq_left h, List.take_of_length_le (Nat.le_refl _), List.take_of_length_le h]
          · rw [Nat.min_eq_right h]
        have hM : min a.length N ≤ a.length := Nat.min_le_left _ _
        generalize min a.length N = M at *
        repeat' (first | refine SWp.seq ?_ | refine SWp.block ?_ | refine SWp.scope ?_ | refine SWp.condT rfl ?_ | refine SWp.condF rfl ?_ | (refine SWp.condD rfl (fun ht => ?_) (fun ht => ?_) <;> try (exfalso; omega)) | ((first | refine SWp.reg ?_ | refine SWp.skip ?_ | refine SWp.exit ?_ | refine SWp.ret ?_ | ((first | apply splitG | apply splitGB | apply splitR | apply splitRB | apply splitE | apply splitEB | apply splitC | apply splitCB) <;> intro ht)); all_goals try simp (disch := first | omega | (simp only [lens, hc_len, hr_len, List.length_reverse, byteEs_len, byteEsC_len, List.length_drop, sgC_len, rgC_len, List.length_append]; first | done | omega)) only [go_sem, Nat.reduceEqDiff, Nat.reduceBEq, Nat.reduceAdd, Nat.reduceMul, Nat.reduceSub, Nat.reduceLeDiff, Int.reduceToNat, Int.reducePow, q1, q2, q3, q4, c1, c2, xc, fx, d35, d36, dl, h0, ht]))
        exact DownV.pure hw (rl_agg (rls_sg xl))
    · rw [repF_stop (by omega)] at hr
      unfold sigS
      rw [← hr]
      have h0 : (if (N : Int) < (a.length : Int) then (N : Int) else (a.length : Int)) = ((min a.length N : Nat) : Int) := by split <;> omega
      have ht : a.take (min a.length N) = a.take N := by
        rcases Nat.le_total a.length N with h | h
        · rw [Nat.min_eq_left h, List.take_of_length_le (Nat.le_refl _), List.take_of_length_le h]
        · rw [Nat.min_eq_right h]
      have hM : min a.length N ≤ a.length := Nat.min_le_left _ _
      generalize min a.length N = M at *
      repeat' (first | refine SWp.seq ?_ | refine SWp.block ?_ | refine SWp.scope ?_ | refine SWp.condT rfl ?_ | refine SWp.condF rfl ?_ | (refine SWp.condD rfl (fun ht => ?_) (fun ht => ?_) <;> try (exfalso; omega)) | ((first | refine SWp.reg ?_ | refine SWp.skip ?_ | refine SWp.exit ?_ | refine SWp.ret ?_ | ((first | apply splitG | apply splitGB | apply splitR | apply splitRB | apply splitE | apply splitEB | apply splitC | apply splitCB) <;> intro ht)); all_goals try simp (disch := first | omega | (simp only [lens, hc_len, hr_len, List.length_reverse, byteEs_len, byteEsC_len, List.length_drop, sgC_len, rgC_len, List.length_append]; first | done | omega)) only [go_sem, Nat.reduceEqDiff, Nat.reduceBEq, Nat.reduceAdd, Nat.reduceMul, Nat.reduceSub, Nat.reduceLeDiff, Int.reduceToNat, Int.reducePow, q1, q2, q3, q4, c1, xc, fx, d35, d36, dl, h0, ht]))
      exact DownV.pure hw (rl_agg (rls_sg xl))
end Am
end Go.Proofs.YthgcooppjhcgcaaDoor
end
section
set_option linter.unusedSimpArgs false
set_option linter.unusedVariables false
/- Heads: contracts: what may not be has no bytes and is not checked. -/
namespace Go.Proofs.YthgcooppjhcgcaaDoor
namespace Am
attribute [local irreducible] ACallsTo ACallsP
set_option maxHeartbeats 4000000 in
theorem Put_not (σ : Store) (n i : Int) (r : Hash) (s : List UInt8) (l : List Hash) (x : AV) (hx : RdSl σ 32 (hr l) x) (hv : validB n i s l = false) :
    ACallsTo TC 37 [.agg (sgC n r i s x)] σ (.tup [.str [], .int .i64 2]) σ := by
  have hV := Valid_to (σ ++ [some [sgC n r i s x]]) n i r s l x hx.app
  rw [hv] at hV
  refine ACallsTo.of_body heads_Put_ok (by simp) fun hw _ => ?_
  repeat' (first | refine SWp.seq ?_ | refine SWp.block ?_ | refine SWp.scope ?_ | refine SWp.condT rfl ?_ | refine SWp.condF rfl ?_ | (refine SWp.condD rfl (fun ht => ?_) (fun ht => ?_) <;> try (exfalso; omega)) | ((first | refine SWp.reg ?_ | refine SWp.skip ?_ | refine SWp.exit ?_ | refine SWp.ret ?_ | (apply callW.mk_pu; (first | exact (fun _ => hV))) | (apply callW.any; (first | exact (hV))) | ((first | apply splitG | apply splitGB | apply splitR | apply splitRB | apply splitE | apply splitEB | apply splitC | apply splitCB) <;> intro ht)); all_goals try simp (disch := first | omega | (simp only [lens, hc_len, hr_len, List.length_reverse, byteEs_len, byteEsC_len, List.length_drop, sgC_len]; first | done | omega)) only [go_sem, Nat.reduceEqDiff, Nat.reduceBEq, Nat.reduceAdd, Nat.reduceMul, Nat.reduceSub, Nat.reduceLeDiff, Int.reduceToNat, Int.reducePow]))
  exact DownV.pure hw rl_si
set_option maxHeartbeats 4000000 in
theorem Check_not (σ : Store) (k : Hash) (n i : Int) (r : Hash) (s : List UInt8) (l : List Hash) (x : AV) (hx : RdSl σ 32 (hr l) x) (hv : validB n i s l = false) :
    ACallsTo TC 52 [.agg (hc k), .agg (sgC n r i s x)] σ (.int .i64 2) σ := by
  have hV := Valid_to (σ ++ [some [hc k], some [sgC n r i s x]]) n i r s l x hx.app
  rw [hv] at hV
  refine ACallsTo.of_body heads_Check_ok (by simp) fun hw _ => ?_
  repeat' (first | refine SWp.seq ?_ | refine SWp.block ?_ | refine SWp.scope ?_ | refine SWp.condT rfl ?_ | refine SWp.condF rfl ?_ | (refine SWp.condD rfl (fun ht => ?_) (fun ht => ?_) <;> try (exfalso; omega)) | ((first | refine SWp.reg ?_ | refine SWp.skip ?_ | refine SWp.exit ?_ | refine SWp.ret ?_ | (apply callW.mk_pu; (first | exact (fun _ => hV))) | (apply callW.any; (first | exact (hV))) | ((first | apply splitG | apply splitGB | apply splitR | apply splitRB | apply splitE | apply splitEB | apply splitC | apply splitCB) <;> intro ht)); all_goals try simp (disch := first | omega | (simp only [lens, hc_len, hr_len, List.length_reverse, byteEs_len, byteEsC_len, List.length_drop, sgC_len]; first | done | omega)) only [go_sem, Nat.reduceEqDiff, Nat.reduceBEq, Nat.reduceAdd, Nat.reduceMul, Nat.reduceSub, Nat.reduceLeDiff, Int.reduceToNat, Int.reducePow]))
  exact DownV.pure hw rl_int
end Am
end Go.Proofs.YthgcooppjhcgcaaDoor
end
section
set_option linter.unusedSimpArgs false
set_option linter.unusedVariables false
/- Heads: contracts: the head of bytes: the program's. -/
namespace Go.Proofs.YthgcooppjhcgcaaDoor
namespace Am
attribute [local irreducible] ACallsTo ACallsP
theorem Read_nil (σ : Store) : ACallsTo TC 102 [.str []] σ (.tup [.int .u64 0, .str [], .bool false]) σ := codec_Read_to σ [] (by simp)
theorem Unhash_nil (σ : Store) : ACallsTo TC 103 [.str []] σ (.tup [.agg (hc zeroH), .str [], .bool false]) σ := codec_Unhash_to σ [] (by simp)
theorem Cut_nil (σ : Store) : ACallsTo TC 104 [.str []] σ (.tup [.str [], .str [], .bool false]) σ := codec_Cut_to σ [] (by simp)
theorem Unhashes_nil (σ : Store) : ACallsTo TC 105 [.str []] σ (.tup [.nilsl, .str [], .bool false]) σ := codec_Unhashes_to σ [] (by simp)
theorem small_0 (σ : Store) : ACallsTo TC 106 [.int .u64 0] σ (.int .i64 0) σ := small_to σ 0 (by omega)
set_option maxHeartbeats 16000000 in
theorem Get_to (σ : Store) (s : List UInt8) (hs : s.length < 1000000000) : ACallsTo TC 34 [.str s] σ (getV (getH s)) σ := by
  refine ACallsTo.of_body heads_Get_ok (by simp) fun hw _ => ?_
  have h1 := fun σ => codec_Read_to σ s hs
  unfold getH parseH
  cases e1 : readS s with
  | none =>
    rw [e1] at h1
    unfold rdV at h1
    simp only [Option.bind_none, Option.map_none, getV]
    repeat' (first | refine SWp.seq ?_ | refine SWp.block ?_ | refine SWp.scope ?_ | refine SWp.condT rfl ?_ | refine SWp.condF rfl ?_ | (refine SWp.condD rfl (fun ht => ?_) (fun ht => ?_) <;> try (exfalso; omega)) | ((first | refine SWp.reg ?_ | refine SWp.skip ?_ | refine SWp.exit ?_ | refine SWp.ret ?_ | (apply callW.mk_pu; (first | exact (fun _ => h1 _) | exact (fun _ => Read_nil _) | exact (fun _ => Unhash_nil _) | exact (fun _ => Cut_nil _) | exact (fun _ => Unhashes_nil _) | exact (fun _ => small_0 _))) | (apply callW.any; (first | exact (h1 _) | exact (Read_nil _) | exact (Unhash_nil _) | exact (Cut_nil _) | exact (Unhashes_nil _) | exact (small_0 _))) | ((first | apply splitG | apply splitGB | apply splitR | apply splitRB | apply splitE | apply splitEB | apply splitC | apply splitCB) <;> intro ht)); all_goals try simp (disch := first | omega | (simp only [lens, hc_len, hr_len, List.length_reverse, byteEs_len, byteEsC_len, List.length_drop, sgC_len]; first | done | omega)) only [go_sem, Nat.reduceEqDiff, Nat.reduceBEq, Nat.reduceAdd, Nat.reduceMul, Nat.reduceSub, Nat.reduceLeDiff, Int.reduceToNat, Int.reducePow]))
    exact DownV.pure hw rl_sg0
  | some x =>
  obtain ⟨n, t1⟩ := x
  obtain ⟨n1, l1⟩ := readS_lt e1
  rw [e1] at h1
  unfold rdV at h1
  have s1 := fun σ => small_to σ n n1
  have h2 := fun σ => codec_Unhash_to σ t1 (by omega)
  simp only [Option.bind_some]
  cases e2 : unS t1 with
  | none =>
    rw [e2] at h2
    unfold unV at h2
    simp only [Option.bind_none, Option.map_none, getV]
    repeat' (first | refine SWp.seq ?_ | refine SWp.block ?_ | refine SWp.scope ?_ | refine SWp.condT rfl ?_ | refine SWp.condF rfl ?_ | (refine SWp.condD rfl (fun ht => ?_) (fun ht => ?_) <;> try (exfalso; omega)) | ((first | refine SWp.reg ?_ | refine SWp.skip ?_ | refine SWp.exit ?_ | refine SWp.ret ?_ | (apply callW.mk_pu; (first | exact (fun _ => h1 _) | exact (fun _ => h2 _) | exact (fun _ => s1 _) | exact (fun _ => Read_nil _) | exact (fun _ => Unhash_nil _) | exact (fun _ => Cut_nil _) | exact (fun _ => Unhashes_nil _) | exact (fun _ => small_0 _))) | (apply callW.any; (first | exact (h1 _) | exact (h2 _) | exact (s1 _) | exact (Read_nil _) | exact (Unhash_nil _) | exact (Cut_nil _) | exact (Unhashes_nil _) | exact (small_0 _))) | ((first | apply splitG | apply splitGB | apply splitR | apply splitRB | apply splitE | apply splitEB | apply splitC | apply splitCB) <;> intro ht)); all_goals try simp (disch := first | omega | (simp only [lens, hc_len, hr_len, List.length_reverse, byteEs_len, byteEsC_len, List.length_drop, sgC_len]; first | done | omega)) only [go_sem, Nat.reduceEqDiff, Nat.reduceBEq, Nat.reduceAdd, Nat.reduceMul, Nat.reduceSub, Nat.reduceLeDiff, Int.reduceToNat, Int.reducePow]))
    exact DownV.pure hw rl_sg0
  | some y =>
  obtain ⟨r, t2⟩ := y
  have l2 := unS_len e2
  rw [e2] at h2
  unfold unV at h2
  have h3 := fun σ => codec_Read_to σ t2 (by omega)
  simp only [Option.bind_some]
  cases e3 : readS t2 with
  | none =>
    rw [e3] at h3
    unfold rdV at h3
    simp only [Option.bind_none, Option.map_none, getV]
    repeat' (first | refine SWp.seq ?_ | refine SWp.block ?_ | refine SWp.scope ?_ | refine SWp.condT rfl ?_ | refine SWp.condF rfl ?_ | (refine SWp.condD rfl (fun ht => ?_) (fun ht => ?_) <;> try (exfalso; omega)) | ((first | refine SWp.reg ?_ | refine SWp.skip ?_ | refine SWp.exit ?_ | refine SWp.ret ?_ | (apply callW.mk_pu; (first | exact (fun _ => h1 _) | exact (fun _ => h2 _) | exact (fun _ => h3 _) | exact (fun _ => s1 _) | exact (fun _ => Read_nil _) | exact (fun _ => Cut_nil _) | exact (fun _ => Unhashes_nil _) | exact (fun _ => small_0 _))) | (apply callW.any; (first | exact (h1 _) | exact (h2 _) | exact (h3 _) | exact (s1 _) | exact (Read_nil _) | exact (Cut_nil _) | exact (Unhashes_nil _) | exact (small_0 _))) | ((first | apply splitG | apply splitGB | apply splitR | apply splitRB | apply splitE | apply splitEB | apply splitC | apply splitCB) <;> intro ht)); all_goals try simp (disch := first | omega | (simp only [lens, hc_len, hr_len, List.length_reverse, byteEs_len, byteEsC_len, List.length_drop, sgC_len]; first | done | omega)) only [go_sem, Nat.reduceEqDiff, Nat.reduceBEq, Nat.reduceAdd, Nat.reduceMul, Nat.reduceSub, Nat.reduceLeDiff, Int.reduceToNat, Int.reducePow]))
    exact DownV.pure hw rl_sg0
  | some z =>
  obtain ⟨i, t3⟩ := z
  obtain ⟨n3, l3⟩ := readS_lt e3
  rw [e3] at h3
  unfold rdV at h3
  have s3 := fun σ => small_to σ i n3
  have h4 := fun σ => codec_Cut_to σ t3 (by omega)
  simp only [Option.bind_some]
  cases e4 : cutS t3 with
  | none =>
    rw [e4] at h4
    unfold stV at h4
    simp only [Option.bind_none, Option.map_none, getV]
    repeat' (first | refine SWp.seq ?_ | refine SWp.block ?_ | refine SWp.scope ?_ | refine SWp.condT rfl ?_ | refine SWp.condF rfl ?_ | (refine SWp.condD rfl (fun ht => ?_) (fun ht => ?_) <;> try (exfalso; omega)) | ((first | refine SWp.reg ?_ | refine SWp.skip ?_ | refine SWp.exit ?_ | refine SWp.ret ?_ | (apply callW.mk_pu; (first | exact (fun _ => h1 _) | exact (fun _ => h2 _) | exact (fun _ => h3 _) | exact (fun _ => h4 _) | exact (fun _ => s1 _) | exact (fun _ => s3 _) | exact (fun _ => Unhashes_nil _))) | (apply callW.any; (first | exact (h1 _) | exact (h2 _) | exact (h3 _) | exact (h4 _) | exact (s1 _) | exact (s3 _) | exact (Unhashes_nil _))) | ((first | apply splitG | apply splitGB | apply splitR | apply splitRB | apply splitE | apply splitEB | apply splitC | apply splitCB) <;> intro ht)); all_goals try simp (disch := first | omega | (simp only [lens, hc_len, hr_len, List.length_reverse, byteEs_len, byteEsC_len, List.length_drop, sgC_len]; first | done | omega)) only [go_sem, Nat.reduceEqDiff, Nat.reduceBEq, Nat.reduceAdd, Nat.reduceMul, Nat.reduceSub, Nat.reduceLeDiff, Int.reduceToNat, Int.reducePow]))
    exact DownV.pure hw rl_sg0
  | some u =>
  obtain ⟨g, t4⟩ := u
  obtain ⟨l4, l5⟩ := cutS_len e4
  rw [e4] at h4
  unfold stV at h4
  have h5 := fun σ => codec_Unhashes_to σ t4 (by omega)
  simp only [Option.bind_some]
  cases e5 : unsS t4 with
  | none =>
    rw [e5] at h5
    unfold unsV at h5
    simp only [Option.bind_none, Option.map_none, getV]
    repeat' (first | refine SWp.seq ?_ | refine SWp.block ?_ | refine SWp.scope ?_ | refine SWp.condT rfl ?_ | refine SWp.condF rfl ?_ | (refine SWp.condD rfl (fun ht => ?_) (fun ht => ?_) <;> try (exfalso; omega)) | ((first | refine SWp.reg ?_ | refine SWp.skip ?_ | refine SWp.exit ?_ | refine SWp.ret ?_ | (apply callW.mk_pu; (first | exact (fun _ => h1 _) | exact (fun _ => h2 _) | exact (fun _ => h3 _) | exact (fun _ => h4 _) | exact (fun _ => h5 _) | exact (fun _ => s1 _) | exact (fun _ => s3 _))) | (apply callW.any; (first | exact (h1 _) | exact (h2 _) | exact (h3 _) | exact (h4 _) | exact (h5 _) | exact (s1 _) | exact (s3 _))) | ((first | apply splitG | apply splitGB | apply splitR | apply splitRB | apply splitE | apply splitEB | apply splitC | apply splitCB) <;> intro ht)); all_goals try simp (disch := first | omega | (simp only [lens, hc_len, hr_len, List.length_reverse, byteEs_len, byteEsC_len, List.length_drop, sgC_len]; first | done | omega)) only [go_sem, Nat.reduceEqDiff, Nat.reduceBEq, Nat.reduceAdd, Nat.reduceMul, Nat.reduceSub, Nat.reduceLeDiff, Int.reduceToNat, Int.reducePow]))
    exact DownV.pure hw rl_sg0
  | some v =>
  obtain ⟨l, t5⟩ := v
  rw [e5] at h5
  simp only [unsV_some] at h5
  simp only [Option.bind_some, Option.map_some]
  have xc := slVal_cells (sz := 32) (es := hr l)
  have xr : ∀ σ, RdSl σ 32 (hr l) (slVal 32 (hr l)) := fun σ => slVal_r
  have xl : RL σ.length (slVal 32 (hr l)) := rl_slVal (rlss_hr l)
  obtain ⟨x, hx⟩ : ∃ x, x = slVal 32 (hr l) := ⟨_, rfl⟩
  rw [← hx] at xc xl
  simp only [← hx] at xr h5
  have fx : ∀ (cells : List AV) (off : Nat) (rest : List (Nat × Nat × AV)), off + 1 ≤ cells.length → rFill cells ((off, 1, x) :: rest) = rFill (overw cells off [x]) rest := fun cells off rest h => by simp [rFill, xc, h]
  unfold cellsOf at xc
  have d35 : ∀ (a b c : AV), List.drop 35 (hc r ++ [a, b, c]) = [] := fun a b c => List.drop_of_length_le (by simp [hc_len])
  have dl : List.drop 35 [AV.int .u8 0, AV.int .u8 0, AV.int .u8 0, AV.int .u8 0, AV.int .u8 0, AV.int .u8 0, AV.int .u8 0, AV.int .u8 0, AV.int .u8 0, AV.int .u8 0, AV.int .u8 0, AV.int .u8 0, AV.int .u8 0, AV.int .u8 0, AV.int .u8 0, AV.int .u8 0, AV.int .u8 0, AV.int .u8 0, AV.int .u8 0, AV.int .u8 0, AV.int .u8 0, AV.int .u8 0, AV.int .u8 0, AV.int .u8 0, AV.int .u8 0, AV.int .u8 0, AV.int .u8 0, AV.int .u8 0, AV.int .u8 0, AV.int .u8 0, AV.int .u8 0, AV.int .u8 0, AV.int .i64 0, AV.str [], AV.nilsl] = [] := rfl
  have hN : validB ((min n 1073741824 : Nat) : Int) ((min i 1073741824 : Nat) : Int) g l = validB n i g l := by
    unfold validB; rw [decide_eq_decide]; omega
  cases hv : validB n i g l with
  | true =>
    obtain ⟨_, b1, _, b2, _, _⟩ := of_decide_eq_true hv
    have m1 : min n 1073741824 = n := by omega
    have m3 : min i 1073741824 = i := by omega
    simp only [m1] at s1
    simp only [m3] at s3
    have hV := fun σ => Valid_to σ n i r g l x (xr σ)
    rw [hv] at hV
    unfold sgC at hV
    cases t5 with
    | nil =>
      rw [if_pos ⟨rfl, rfl⟩]
      simp only [getV, ← hx]
      repeat' (first | refine SWp.seq ?_ | refine SWp.block ?_ | refine SWp.scope ?_ | refine SWp.condT rfl ?_ | refine SWp.condF rfl ?_ | (refine SWp.condD rfl (fun ht => ?_) (fun ht => ?_) <;> try (exfalso; omega)) | ((first | refine SWp.reg ?_ | refine SWp.skip ?_ | refine SWp.exit ?_ | refine SWp.ret ?_ | (apply callW.mk_pu; (first | exact (fun _ => h1 _) | exact (fun _ => h2 _) | exact (fun _ => h3 _) | exact (fun _ => h4 _) | exact (fun _ => h5 _) | exact (fun _ => s1 _) | exact (fun _ => s3 _) | exact (fun _ => hV _))) | (apply callW.any; (first | exact (h1 _) | exact (h2 _) | exact (h3 _) | exact (h4 _) | exact (h5 _) | exact (s1 _) | exact (s3 _) | exact (hV _))) | ((first | apply splitG | apply splitGB | apply splitR | apply splitRB | apply splitE | apply splitEB | apply splitC | apply splitCB) <;> intro ht)); all_goals try simp (disch := first | omega | (simp only [lens, hc_len, hr_len, List.length_reverse, byteEs_len, byteEsC_len, List.length_drop, sgC_len]; first | done | omega)) only [go_sem, Nat.reduceEqDiff, Nat.reduceBEq, Nat.reduceAdd, Nat.reduceMul, Nat.reduceSub, Nat.reduceLeDiff, Int.reduceToNat, Int.reducePow, xc, fx, d35, dl]))
      exact DownV.pure hw (rl_sg xl)
    | cons c t6 =>
      rw [if_neg (by rintro ⟨e, _⟩; cases e)]
      simp only [getV]
      have hbq : ((c :: t6) == ([] : List UInt8)) = false := rfl
      repeat' (first | refine SWp.seq ?_ | refine SWp.block ?_ | refine SWp.scope ?_ | refine SWp.condT rfl ?_ | refine SWp.condF rfl ?_ | (refine SWp.condD rfl (fun ht => ?_) (fun ht => ?_) <;> try (exfalso; omega)) | ((first | refine SWp.reg ?_ | refine SWp.skip ?_ | refine SWp.exit ?_ | refine SWp.ret ?_ | (apply callW.mk_pu; (first | exact (fun _ => h1 _) | exact (fun _ => h2 _) | exact (fun _ => h3 _) | exact (fun _ => h4 _) | exact (fun _ => h5 _) | exact (fun _ => s1 _) | exact (fun _ => s3 _) | exact (fun _ => hV _))) | (apply callW.any; (first | exact (h1 _) | exact (h2 _) | exact (h3 _) | exact (h4 _) | exact (h5 _) | exact (s1 _) | exact (s3 _) | exact (hV _))) | ((first | apply splitG | apply splitGB | apply splitR | apply splitRB | apply splitE | apply splitEB | apply splitC | apply splitCB) <;> intro ht)); all_goals try simp (disch := first | omega | (simp only [lens, hc_len, hr_len, List.length_reverse, byteEs_len, byteEsC_len, List.length_drop, sgC_len]; first | done | omega)) only [go_sem, Nat.reduceEqDiff, Nat.reduceBEq, Nat.reduceAdd, Nat.reduceMul, Nat.reduceSub, Nat.reduceLeDiff, Int.reduceToNat, Int.reducePow, xc, fx, d35, dl, hbq]))
      exact DownV.pure hw rl_sg0
  | false =>
    rw [if_neg (by rintro ⟨_, e⟩; cases e)]
    simp only [getV]
    have hV := fun σ => Valid_to σ ((min n 1073741824 : Nat) : Int) ((min i 1073741824 : Nat) : Int) r g l x (xr σ)
    rw [hN, hv] at hV
    unfold sgC at hV
    generalize ((min n 1073741824 : Nat) : Int) = N at *
    generalize ((min i 1073741824 : Nat) : Int) = I at *
    cases t5 with
    | nil =>
      repeat' (first | refine SWp.seq ?_ | refine SWp.block ?_ | refine SWp.scope ?_ | refine SWp.condT rfl ?_ | refine SWp.condF rfl ?_ | (refine SWp.condD rfl (fun ht => ?_) (fun ht => ?_) <;> try (exfalso; omega)) | ((first | refine SWp.reg ?_ | refine SWp.skip ?_ | refine SWp.exit ?_ | refine SWp.ret ?_ | (apply callW.mk_pu; (first | exact (fun _ => h1 _) | exact (fun _ => h2 _) | exact (fun _ => h3 _) | exact (fun _ => h4 _) | exact (fun _ => h5 _) | exact (fun _ => s1 _) | exact (fun _ => s3 _) | exact (fun _ => hV _))) | (apply callW.any; (first | exact (h1 _) | exact (h2 _) | exact (h3 _) | exact (h4 _) | exact (h5 _) | exact (s1 _) | exact (s3 _) | exact (hV _))) | ((first | apply splitG | apply splitGB | apply splitR | apply splitRB | apply splitE | apply splitEB | apply splitC | apply splitCB) <;> intro ht)); all_goals try simp (disch := first | omega | (simp only [lens, hc_len, hr_len, List.length_reverse, byteEs_len, byteEsC_len, List.length_drop, sgC_len]; first | done | omega)) only [go_sem, Nat.reduceEqDiff, Nat.reduceBEq, Nat.reduceAdd, Nat.reduceMul, Nat.reduceSub, Nat.reduceLeDiff, Int.reduceToNat, Int.reducePow, xc, fx, d35, dl]))
      exact DownV.pure hw rl_sg0
    | cons c t6 =>
      have hbq : ((c :: t6) == ([] : List UInt8)) = false := rfl
      repeat' (first | refine SWp.seq ?_ | refine SWp.block ?_ | refine SWp.scope ?_ | refine SWp.condT rfl ?_ | refine SWp.condF rfl ?_ | (refine SWp.condD rfl (fun ht => ?_) (fun ht => ?_) <;> try (exfalso; omega)) | ((first | refine SWp.reg ?_ | refine SWp.skip ?_ | refine SWp.exit ?_ | refine SWp.ret ?_ | (apply callW.mk_pu; (first | exact (fun _ => h1 _) | exact (fun _ => h2 _) | exact (fun _ => h3 _) | exact (fun _ => h4 _) | exact (fun _ => h5 _) | exact (fun _ => s1 _) | exact (fun _ => s3 _) | exact (fun _ => hV _))) | (apply callW.any; (first | exact (h1 _) | exact (h2 _) | exact (h3 _) | exact (h4 _) | exact (h5 _) | exact (s1 _) | exact (s3 _) | exact (hV _))) | ((first | apply splitG | apply splitGB | apply splitR | apply splitRB | apply splitE | apply splitEB | apply splitC | apply splitCB) <;> intro ht)); all_goals try simp (disch := first | omega | (simp only [lens, hc_len, hr_len, List.length_reverse, byteEs_len, byteEsC_len, List.length_drop, sgC_len]; first | done | omega)) only [go_sem, Nat.reduceEqDiff, Nat.reduceBEq, Nat.reduceAdd, Nat.reduceMul, Nat.reduceSub, Nat.reduceLeDiff, Int.reduceToNat, Int.reducePow, xc, fx, d35, dl, hbq]))
      exact DownV.pure hw rl_sg0
end Am
end Go.Proofs.YthgcooppjhcgcaaDoor
end
section
set_option linter.unusedSimpArgs false
set_option linter.unusedVariables false
/- Heads: contracts: the program's bytes. -/
namespace Go.Proofs.YthgcooppjhcgcaaDoor
namespace Am
attribute [local irreducible] ACallsTo ACallsP
set_option maxHeartbeats 8000000 in
theorem Put_to (σ : Store) (n i : Int) (r : Hash) (s : List UInt8) (l : List Hash) (x : AV) (hx : RdSl σ 32 (hr l) x) : ACallsTo TC 37 [.agg (sgC n r i s x)] σ (putV n i r s l) σ := by
  have hV := Valid_to (σ ++ [some [sgC n r i s x]]) n i r s l x hx.app
  refine ACallsTo.of_body heads_Put_ok (by simp) fun hw _ => ?_
  unfold putV
  cases hv : validB n i s l with
  | false =>
    rw [hv] at hV
    rw [if_neg (by decide)]
    repeat' (first | refine SWp.seq ?_ | refine SWp.block ?_ | refine SWp.scope ?_ | refine SWp.condT rfl ?_ | refine SWp.condF rfl ?_ | (refine SWp.condD rfl (fun ht => ?_) (fun ht => ?_) <;> try (exfalso; omega)) | ((first | refine SWp.reg ?_ | refine SWp.skip ?_ | refine SWp.exit ?_ | refine SWp.ret ?_ | (apply callW.mk_pu; (first | exact (fun _ => hV))) | (apply callW.any; (first | exact (hV))) | ((first | apply splitG | apply splitGB | apply splitR | apply splitRB | apply splitE | apply splitEB | apply splitC | apply splitCB) <;> intro ht)); all_goals try simp (disch := first | omega | (simp only [lens, hc_len, hr_len, List.length_reverse, byteEs_len, byteEsC_len, List.length_drop, sgC_len]; first | done | omega)) only [go_sem, Nat.reduceEqDiff, Nat.reduceBEq, Nat.reduceAdd, Nat.reduceMul, Nat.reduceSub, Nat.reduceLeDiff, Int.reduceToNat, Int.reducePow]))
    exact DownV.pure hw rl_si
  | true =>
    rw [hv] at hV
    rw [if_pos rfl]
    obtain ⟨N, I, rfl, rfl, h1, h2, h3, h4⟩ := valid_of hv
    have hN := fun σ => codec_Num_to σ N (by omega)
    have hI := fun σ => codec_Num_to σ I (by omega)
    have hH := fun σ => codec_Hash_to σ r.1 r.2
    have hT := fun σ => codec_Text_to σ s (by omega)
    have hL := codec_Hashes_to (σ ++ [some [sgC N r I s x]]) l x hx.app (by omega)
    have l1 := numS_le N
    have l2 := numS_le I
    have l3 := r.2
    have l4 : (textS s).length ≤ 11 + 16384 := by have := numS_le s.length; rw [textS, List.length_append]; omega
    have l5 := hashesS_len (l := l)
    have hcr : hc r = byteEsC r.1 := rfl
    rw [Int.toNat_natCast, Int.toNat_natCast]
    unfold putH
    generalize numS N = sN at *
    generalize numS I = sI at *
    generalize textS s = sT at *
    generalize hashesS l = sH at *
    repeat' (first | refine SWp.seq ?_ | refine SWp.block ?_ | refine SWp.scope ?_ | refine SWp.condT rfl ?_ | refine SWp.condF rfl ?_ | (refine SWp.condD rfl (fun ht => ?_) (fun ht => ?_) <;> try (exfalso; omega)) | ((first | refine SWp.reg ?_ | refine SWp.skip ?_ | refine SWp.exit ?_ | refine SWp.ret ?_ | (apply callW.mk_pu; (first | exact (fun _ => hV) | exact (fun _ => hN _) | exact (fun _ => hI _) | exact (fun _ => hH _) | exact (fun _ => hT _) | exact (fun _ => hL))) | (apply callW.any; (first | exact (hV) | exact (hN _) | exact (hI _) | exact (hH _) | exact (hT _) | exact (hL))) | ((first | apply splitG | apply splitGB | apply splitR | apply splitRB | apply splitE | apply splitEB | apply splitC | apply splitCB) <;> intro ht)); all_goals try simp (disch := first | omega | (simp only [lens, hc_len, hr_len, List.length_reverse, byteEs_len, byteEsC_len, List.length_drop, sgC_len]; first | done | omega)) only [go_sem, Nat.reduceEqDiff, Nat.reduceBEq, Nat.reduceAdd, Nat.reduceMul, Nat.reduceSub, Nat.reduceLeDiff, Int.reduceToNat, Int.reducePow, hcr]))
    exact DownV.pure hw rl_si
end Am
end Go.Proofs.YthgcooppjhcgcaaDoor
end
section
set_option linter.unusedSimpArgs false
set_option linter.unusedVariables false
/- Heads: the chapter's example. -/
namespace Go.Proofs.YthgcooppjhcgcaaDoor
namespace Am
attribute [local irreducible] ACallsTo ACallsP
def oneH : Hash := ⟨1 :: List.replicate 31 0, by simp⟩
set_option maxHeartbeats 16000000 in
set_option maxRecDepth 20000 in
theorem headed_to (σ : Store) : ACallsTo TC 31 [] σ (.bool true) σ := by
  have hz : hc zeroH = [.int .u8 0, .int .u8 0, .int .u8 0, .int .u8 0, .int .u8 0, .int .u8 0, .int .u8 0, .int .u8 0, .int .u8 0, .int .u8 0, .int .u8 0, .int .u8 0, .int .u8 0, .int .u8 0, .int .u8 0, .int .u8 0, .int .u8 0, .int .u8 0, .int .u8 0, .int .u8 0, .int .u8 0, .int .u8 0, .int .u8 0, .int .u8 0, .int .u8 0, .int .u8 0, .int .u8 0, .int .u8 0, .int .u8 0, .int .u8 0, .int .u8 0, .int .u8 0] := rfl
  have ho : hc oneH = [.int .u8 1, .int .u8 0, .int .u8 0, .int .u8 0, .int .u8 0, .int .u8 0, .int .u8 0, .int .u8 0, .int .u8 0, .int .u8 0, .int .u8 0, .int .u8 0, .int .u8 0, .int .u8 0, .int .u8 0, .int .u8 0, .int .u8 0, .int .u8 0, .int .u8 0, .int .u8 0, .int .u8 0, .int .u8 0, .int .u8 0, .int .u8 0, .int .u8 0, .int .u8 0, .int .u8 0, .int .u8 0, .int .u8 0, .int .u8 0, .int .u8 0, .int .u8 0] := rfl
  have hne : ¬ zeroH = oneH := by decide
  have nl : ∀ σ, RdSl σ 32 (hr []) .nilsl := fun σ => .of (.inl ⟨rfl, rfl⟩)
  have hO1 := fun σ => Order_to σ 3 4 zeroH zeroH
  have hO2 := fun σ => Order_to σ 4 4 zeroH oneH
  have hO3 := fun σ => Order_to σ 4 4 zeroH zeroH
  have hO4 := fun σ => Order_to σ 4 3 zeroH zeroH
  have hP := fun σ => Put_not σ 3 0 zeroH [] [] .nilsl (nl σ) (by decide)
  have hC := fun σ => Check_not σ zeroH 3 0 zeroH [] [] .nilsl (nl σ) (by decide)
  have hG := fun σ => Get_to σ [] (by simp)
  rw [show ordV 3 4 zeroH zeroH = 0 from rfl] at hO1
  rw [show ordV 4 4 zeroH oneH = 3 by unfold ordV; simp [hne]] at hO2
  rw [show ordV 4 4 zeroH zeroH = 1 by unfold ordV; simp] at hO3
  rw [show ordV 4 3 zeroH zeroH = 2 from rfl] at hO4
  rw [show getV (getH []) = .tup [.agg (sgC 0 zeroH 0 [] .nilsl), .int .i64 10] from rfl] at hG
  simp only [sgC, hz, ho, List.cons_append, List.nil_append] at hO1 hO2 hO3 hO4 hP hC hG
  refine ACallsTo.of_body speculumlaw10_headed_ok (by simp) fun hw _ => ?_
  repeat' (first | refine SWp.seq ?_ | refine SWp.block ?_ | refine SWp.scope ?_ | refine SWp.condT rfl ?_ | refine SWp.condF rfl ?_ | (refine SWp.condD rfl (fun ht => ?_) (fun ht => ?_) <;> try (exfalso; omega)) | ((first | refine SWp.reg ?_ | refine SWp.skip ?_ | refine SWp.exit ?_ | refine SWp.ret ?_ | (apply callW.mk_pu; (first | exact (fun _ => hO1 _) | exact (fun _ => hO2 _) | exact (fun _ => hO3 _) | exact (fun _ => hO4 _) | exact (fun _ => hP _) | exact (fun _ => hC _) | exact (fun _ => hG _))) | (apply callW.any; (first | exact (hO1 _) | exact (hO2 _) | exact (hO3 _) | exact (hO4 _) | exact (hP _) | exact (hC _) | exact (hG _))) | ((first | apply splitG | apply splitGB | apply splitR | apply splitRB | apply splitE | apply splitEB | apply splitC | apply splitCB) <;> intro ht)); all_goals try simp (disch := first | omega | (simp only [lens, hc_len, hr_len, List.length_reverse, byteEs_len, byteEsC_len, List.length_drop, sgC_len]; first | done | omega)) only [go_sem, Nat.reduceEqDiff, Nat.reduceBEq, Nat.reduceAdd, Nat.reduceMul, Nat.reduceSub, Nat.reduceLeDiff, Int.reduceToNat, Int.reducePow]))
  exact DownV.pure hw (rlB_ok _ rfl)
end Am
end Go.Proofs.YthgcooppjhcgcaaDoor
end
section
set_option linter.unusedSimpArgs false
set_option linter.unusedVariables false
/- Heads: HeadsBack. -/
namespace Go.Proofs.YthgcooppjhcgcaaDoor
namespace Am
attribute [local irreducible] ACallsTo ACallsP
theorem sgC_d36 (n : Int) (r : Hash) (i : Int) (s : List UInt8) (x : AV) : (sgC n r i s x).drop 36 = [] := List.drop_of_length_le (by rw [sgC_len]; decide)
end Am
end Go.Proofs.YthgcooppjhcgcaaDoor
end
section
set_option linter.unusedSimpArgs false
set_option linter.unusedVariables false
/- Heads: HeadsGet; the two laws. -/
namespace Go.Proofs.YthgcooppjhcgcaaDoor
namespace Am
attribute [local irreducible] ACallsTo ACallsP
attribute [local irreducible] speculumlaw10_HeadsGet_c44
/-- Arguments. -/
def roughTy : Ty := .row [.row [.int .i64, hashTy], .int .i64, .str, .int .i8, .sl 32 hashTy]
theorem rough_h {a : AV} (h : Sh roughTy a) : ∃ (n i m : Int) (r : Hash) (s : List UInt8) (l : List Hash) (x : AV), a = .agg (rgC n r i s m x) ∧ (-128 ≤ m ∧ m ≤ 127) ∧ SlV 32 (hr l) x ∧ l.length ≤ maxLen ∧ (-9223372036854775808 ≤ n ∧ n ≤ 9223372036854775807) ∧ (-9223372036854775808 ≤ i ∧ i ≤ 9223372036854775807) := by
  simp only [roughTy, Sh] at h
  obtain ⟨cs, rfl, h⟩ := h
  simp only [ShRow] at h
  obtain ⟨A, B, rfl, hA, C, D, rfl, hC, E, F, rfl, hE, G, K, rfl, hG, M, N, rfl, hM, rfl⟩ := h
  simp only [ShC, ShRow] at hA hC hE hG
  obtain ⟨A1, A2, rfl, ⟨n, rfl, n1, n2⟩, A3, A4, rfl, hA3, rfl⟩ := hA
  obtain ⟨r, rfl⟩ := hashC_h hA3
  obtain ⟨i, rfl, i1, i2⟩ := hC
  obtain ⟨s, rfl, _⟩ := hE
  obtain ⟨m, rfl, m1, m2⟩ := hG
  obtain ⟨l, x, rfl, h3, h4⟩ := hslC_h hM
  simp only [IntKind.min, IntKind.max, IntKind.signed, IntKind.bits] at n1 n2 i1 i2 m1 m2
  simp at n1 n2 i1 i2 m1 m2
  exact ⟨n, i, m, r, s, l, x, by simp [rgC], ⟨m1, m2⟩, h3, h4, ⟨n1, n2⟩, ⟨i1, i2⟩⟩
end Am
end Go.Proofs.YthgcooppjhcgcaaDoor
end
