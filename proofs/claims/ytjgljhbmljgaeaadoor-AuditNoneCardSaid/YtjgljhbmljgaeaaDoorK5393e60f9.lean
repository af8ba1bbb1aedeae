import Derived.Test.YtjgljhbmljgaeaaDoorK423d8b5d4
import Derived.Test.YtjgljhbmljgaeaaDoorK3bfbe4e78
set_option linter.unusedSimpArgs false
set_option linter.unusedVariables false
open Nat (reduceEqDiff reduceAdd reduceMul reduceSub reduceLeDiff)
open Int (reduceToNat reducePow)
section
/- Abstract code. (Printed by wip/gen.) -/
set_option maxRecDepth 10000
namespace Go.Proofs.YtjgljhbmljgaeaaDoor
namespace Am

@[go_sem] def qzr0 : List AIns := [
  ⟨some 2,none,.no,.alloc zZ0⟩]
@[go_sem] def qzr1 : List AIns := [
  ⟨some 6,none,.no,.mv (.t 0)⟩,
  ⟨some 7,none,.no,.lenSl (.t 6)⟩,
  ⟨some 8,none,.no,.bin .neq .none (.t 7) (.v (.int .i64 512))⟩]
@[go_sem] def qzr2 : List AIns := [
  ⟨some 9,none,.no,.build zZ0 []⟩,
  ⟨none,none,.no,.store 32 (.t 2) (.t 9)⟩]
def qzc3 : ACode := .seq (.reg qzr2) .ret
def qzc4 : ACode := .cond (.t 8) qzc3 .skip
def qzc5 : ACode := .seq (.reg qzr1) qzc4
@[go_sem] def qzr6 : List AIns := [
  ⟨some 3,none,.no,.allB⟩]
@[go_sem] def qzr7 : List AIns := [
  ⟨some 10,none,.no,.call (.v (.fn 82 [])) [(.t 3), (.v (.int .u8 4))]⟩]
@[go_sem] def qzr8 : List AIns := [
  ⟨some 11,none,.no,.mv (.t 0)⟩,
  ⟨some 12,none,.no,.lenSl (.t 11)⟩,
  ⟨some 13,none,.no,.mv (.v (.int .i64 0))⟩]
@[go_sem] def qzr9 : List AIns := [
  ⟨some 14,none,.no,.bin .lss .none (.t 13) (.t 12)⟩]
@[go_sem] def qzr10 : List AIns := [
  ⟨some 15,none,.no,.iaSl 32 (.t 11) (.t 13)⟩,
  ⟨some 16,none,.no,.load true 32 (.t 15)⟩,
  ⟨some 5,none,.no,.alloc zZ0⟩,
  ⟨none,none,.no,.store 32 (.t 5) (.t 16)⟩]
@[go_sem] def qzr11 : List AIns := [
  ⟨some 17,none,.no,.load true 32 (.t 5)⟩,
  ⟨some 18,none,.no,.call (.v (.fn 62 [])) [(.t 17)]⟩,
  ⟨some 19,none,.no,.call (.v (.fn 78 [])) [(.t 3), (.t 18)]⟩]
def qzc12 : ACode := .seq (.reg qzr10) (.reg qzr11)
@[go_sem] def qzr13 : List AIns := [
  ⟨some 20,none,.no,.bin .add .none (.t 13) (.v (.int .i64 1))⟩,
  ⟨some 13,none,.no,.mv (.t 20)⟩]
def qzc14 : ACode := .seq (.block 1 qzc12) (.reg qzr13)
def qzc15 : ACode := .seq (.cond (.t 14) .skip (.exit 0)) qzc14
def qzc16 : ACode := .seq (.reg qzr9) qzc15
def qzc17 : ACode := .loop qzc16
def qzc18 : ACode := .block 0 qzc17
def qzc19 : ACode := .seq (.reg qzr8) qzc18
@[go_sem] def qzr20 : List AIns := [
  ⟨some 21,none,.no,.call (.v (.fn 80 [])) [(.t 3)]⟩,
  ⟨some 22,none,.no,.call (.v (.fn 46 [])) [(.t 21)]⟩,
  ⟨none,none,.no,.store 32 (.t 2) (.t 22)⟩]
def qzc21 : ACode := .seq (.reg qzr20) .ret
def qzc22 : ACode := .seq qzc19 qzc21
def qzc23 : ACode := .seq (.reg qzr7) qzc22
def qzc24 : ACode := .seq (.reg qzr6) qzc23
def qzc25 : ACode := .seq qzc5 qzc24
def qzc26 : ACode := .seq (.reg qzr0) qzc25
theorem qzok : cFn TC 64 = some (23, [.c 2 true 32], qzc26) := by kernel_rfl

@[go_sem] def q10r0 : List AIns := [
  ⟨some 4,none,.no,.mv (.v .nilsl)⟩]
@[go_sem] def q10r1 : List AIns := [
  ⟨some 7,none,.no,.mv (.t 1)⟩,
  ⟨some 8,none,.no,.bin .lss .none (.t 7) (.v (.int .i64 0))⟩,
  ⟨some 9,none,.no,.mv (.t 8)⟩,
  ⟨some 10, some (9, false), .no, .mv (.t 1)⟩,
  ⟨some 11, some (9, false), .no, .bin .geq .none (.t 10) (.v (.int .i64 2147483648))⟩,
  ⟨some 12,none,.no,.pick (.t 9) (.v (.bool true)) (.t 11)⟩]
@[go_sem] def q10r2 : List AIns := [
  ⟨some 4,none,.no,.mv (.v .nilsl)⟩]
def q10c3 : ACode := .seq (.reg q10r2) .ret
def q10c4 : ACode := .cond (.t 12) q10c3 .skip
def q10c5 : ACode := .seq (.reg q10r1) q10c4
@[go_sem] def q10r6 : List AIns := [
  ⟨some 13,none,.no,.make 32 zZ0 (.v (.int .i64 512)) (.v (.int .i64 512))⟩,
  ⟨some 5,none,.no,.mv (.t 13)⟩]
@[go_sem] def q10r7 : List AIns := [
  ⟨some 14,none,.no,.mv (.t 5)⟩,
  ⟨some 15,none,.no,.lenSl (.t 14)⟩,
  ⟨some 16,none,.no,.mv (.v (.int .i64 0))⟩]
@[go_sem] def q10r8 : List AIns := [
  ⟨some 17,none,.no,.bin .lss .none (.t 16) (.t 15)⟩]
@[go_sem] def q10r9 : List AIns := [
  ⟨some 18,none,.no,.mv (.t 16)⟩,
  ⟨some 6,none,.no,.mv (.t 18)⟩]
@[go_sem] def q10r10 : List AIns := [
  ⟨some 19,none,.no,.mv (.t 5)⟩,
  ⟨some 20,none,.no,.mv (.t 6)⟩,
  ⟨some 21,none,.no,.mv (.t 0)⟩,
  ⟨some 22,none,.no,.mv (.t 1)⟩,
  ⟨some 23,none,.no,.mv (.t 6)⟩,
  ⟨some 24,none,.no,.bin .quo .none (.t 23) (.v (.int .i64 2))⟩,
  ⟨some 25,none,.no,.mv (.t 6)⟩,
  ⟨some 26,none,.no,.bin .rem .none (.t 25) (.v (.int .i64 2))⟩,
  ⟨some 27,none,.no,.call (.v (.fn 79 [])) [(.t 21), (.t 22), (.t 24), (.t 26)]⟩,
  ⟨some 28,none,.no,.call (.v (.fn 62 [])) [(.t 27)]⟩,
  ⟨some 29,none,.no,.call (.v (.fn 83 [])) [(.t 28)]⟩,
  ⟨some 30,none,.no,.iaSl 32 (.t 19) (.t 20)⟩,
  ⟨none,none,.no,.store 32 (.t 30) (.t 29)⟩]
def q10c11 : ACode := .seq (.reg q10r9) (.reg q10r10)
@[go_sem] def q10r12 : List AIns := [
  ⟨some 31,none,.no,.bin .add .none (.t 16) (.v (.int .i64 1))⟩,
  ⟨some 16,none,.no,.mv (.t 31)⟩]
def q10c13 : ACode := .seq (.block 1 q10c11) (.reg q10r12)
def q10c14 : ACode := .seq (.cond (.t 17) .skip (.exit 0)) q10c13
def q10c15 : ACode := .seq (.reg q10r8) q10c14
def q10c16 : ACode := .loop q10c15
def q10c17 : ACode := .block 0 q10c16
def q10c18 : ACode := .seq (.reg q10r7) q10c17
@[go_sem] def q10r19 : List AIns := [
  ⟨some 32,none,.no,.mv (.t 5)⟩,
  ⟨some 4,none,.no,.mv (.t 32)⟩]
def q10c20 : ACode := .seq (.reg q10r19) .ret
def q10c21 : ACode := .seq q10c18 q10c20
def q10c22 : ACode := .seq (.reg q10r6) q10c21
def q10c23 : ACode := .seq q10c5 q10c22
def q10c24 : ACode := .seq (.reg q10r0) q10c23
theorem q10ok : cFn TC 65 = some (33, [.t 4], q10c24) := by kernel_rfl

@[go_sem] def q11r0 : List AIns := [
  ⟨some 5,none,.no,.box (.t 2)⟩,
  ⟨some 6,none,.no,.mv (.v (.str []))⟩]
@[go_sem] def q11r1 : List AIns := [
  ⟨some 13,none,.no,.mv (.t 0)⟩,
  ⟨some 14,none,.no,.mv (.t 1)⟩,
  ⟨some 15,none,.no,.call (.v (.fn 65 [])) [(.t 13), (.t 14)]⟩,
  ⟨some 7,none,.no,.mv (.t 15)⟩]
@[go_sem] def q11r2 : List AIns := [
  ⟨some 16,none,.no,.mv (.t 7)⟩,
  ⟨some 17,none,.no,.bin .eql .slc (.t 16) (.v .nilsl)⟩]
@[go_sem] def q11r3 : List AIns := [
  ⟨some 6,none,.no,.mv (.v (.str []))⟩]
def q11c4 : ACode := .seq (.reg q11r3) .ret
def q11c5 : ACode := .cond (.t 17) q11c4 .skip
def q11c6 : ACode := .seq (.reg q11r2) q11c5
@[go_sem] def q11r7 : List AIns := [
  ⟨some 18,none,.no,.load true 32 (.t 5)⟩,
  ⟨some 19,none,.no,.call (.v (.fn 62 [])) [(.t 18)]⟩,
  ⟨some 8,none,.no,.mv (.t 19)⟩]
@[go_sem] def q11r8 : List AIns := [
  ⟨some 9,none,.no,.allB⟩,
  ⟨some 10,none,.no,.allB⟩]
@[go_sem] def q11r9 : List AIns := [
  ⟨some 20,none,.no,.mv (.v (.int .i64 0))⟩]
@[go_sem] def q11r10 : List AIns := [
  ⟨some 21,none,.no,.bin .lss .none (.t 20) (.v (.int .i64 256))⟩]
@[go_sem] def q11r11 : List AIns := [
  ⟨some 22,none,.no,.mv (.t 20)⟩,
  ⟨some 11,none,.no,.mv (.t 22)⟩]
@[go_sem] def q11r12 : List AIns := [
  ⟨some 23,none,.no,.mv (.t 8)⟩,
  ⟨some 24,none,.no,.mv (.t 11)⟩,
  ⟨some 25,none,.no,.call (.v (.fn 77 [])) [(.t 23), (.t 24)]⟩,
  ⟨some 12,none,.no,.mv (.t 25)⟩]
@[go_sem] def q11r13 : List AIns := [
  ⟨some 26,none,.no,.mv (.t 0)⟩,
  ⟨some 27,none,.no,.mv (.t 1)⟩,
  ⟨some 28,none,.no,.mv (.t 11)⟩,
  ⟨some 29,none,.no,.mv (.t 12)⟩,
  ⟨some 30,none,.no,.call (.v (.fn 79 [])) [(.t 26), (.t 27), (.t 28), (.t 29)]⟩,
  ⟨some 31,none,.no,.call (.v (.fn 62 [])) [(.t 30)]⟩,
  ⟨some 32,none,.no,.call (.v (.fn 78 [])) [(.t 9), (.t 31)]⟩]
@[go_sem] def q11r14 : List AIns := [
  ⟨some 33,none,.no,.mv (.t 7)⟩,
  ⟨some 34,none,.no,.mv (.t 11)⟩,
  ⟨some 35,none,.no,.bin .mul .none (.v (.int .i64 2)) (.t 34)⟩,
  ⟨some 36,none,.no,.bin .add .none (.t 35) (.v (.int .i64 1))⟩,
  ⟨some 37,none,.no,.mv (.t 12)⟩,
  ⟨some 38,none,.no,.bin .sub .none (.t 36) (.t 37)⟩,
  ⟨some 39,none,.no,.iaSl 32 (.t 33) (.t 38)⟩,
  ⟨some 40,none,.no,.load true 32 (.t 39)⟩,
  ⟨some 41,none,.no,.call (.v (.fn 62 [])) [(.t 40)]⟩,
  ⟨some 42,none,.no,.call (.v (.fn 78 [])) [(.t 10), (.t 41)]⟩]
def q11c15 : ACode := .seq (.reg q11r13) (.reg q11r14)
def q11c16 : ACode := .seq (.reg q11r12) q11c15
def q11c17 : ACode := .seq (.reg q11r11) q11c16
@[go_sem] def q11r18 : List AIns := [
  ⟨some 43,none,.no,.bin .add .none (.t 20) (.v (.int .i64 1))⟩,
  ⟨some 20,none,.no,.mv (.t 43)⟩]
def q11c19 : ACode := .seq (.block 1 q11c17) (.reg q11r18)
def q11c20 : ACode := .seq (.cond (.t 21) .skip (.exit 0)) q11c19
def q11c21 : ACode := .seq (.reg q11r10) q11c20
def q11c22 : ACode := .loop q11c21
def q11c23 : ACode := .block 0 q11c22
def q11c24 : ACode := .seq (.reg q11r9) q11c23
@[go_sem] def q11r25 : List AIns := [
  ⟨some 44,none,.no,.call (.v (.fn 80 [])) [(.t 9)]⟩,
  ⟨some 45,none,.no,.call (.v (.fn 80 [])) [(.t 10)]⟩,
  ⟨some 46,none,.no,.bin .add .none (.t 44) (.t 45)⟩,
  ⟨some 6,none,.no,.mv (.t 46)⟩]
def q11c26 : ACode := .seq (.reg q11r25) .ret
def q11c27 : ACode := .seq q11c24 q11c26
def q11c28 : ACode := .seq (.reg q11r8) q11c27
def q11c29 : ACode := .seq (.reg q11r7) q11c28
def q11c30 : ACode := .seq q11c6 q11c29
def q11c31 : ACode := .seq (.reg q11r1) q11c30
def q11c32 : ACode := .seq (.reg q11r0) q11c31
theorem q11ok : cFn TC 60 = some (47, [.t 6], q11c32) := by kernel_rfl

@[go_sem] def q12r0 : List AIns := [
  ⟨some 3,none,.no,.box (.t 1)⟩,
  ⟨some 4,none,.no,.alloc zZ0⟩,
  ⟨some 5,none,.no,.mv (.v (.int .i64 0))⟩]
@[go_sem] def q12r1 : List AIns := [
  ⟨some 12,none,.no,.mv (.t 0)⟩,
  ⟨some 13,none,.no,.lenStr (.t 12)⟩,
  ⟨some 14,none,.no,.bin .neq .none (.t 13) (.v (.int .i64 16384))⟩]
@[go_sem] def q12r2 : List AIns := [
  ⟨some 15,none,.no,.build zZ0 []⟩,
  ⟨none,none,.no,.store 32 (.t 4) (.t 15)⟩,
  ⟨some 5,none,.no,.mv (.v (.int .i64 10))⟩]
def q12c3 : ACode := .seq (.reg q12r2) .ret
def q12c4 : ACode := .cond (.t 14) q12c3 .skip
def q12c5 : ACode := .seq (.reg q12r1) q12c4
@[go_sem] def q12r6 : List AIns := [
  ⟨some 16,none,.no,.load true 32 (.t 3)⟩,
  ⟨some 17,none,.no,.call (.v (.fn 62 [])) [(.t 16)]⟩,
  ⟨some 6,none,.no,.mv (.t 17)⟩]
@[go_sem] def q12r7 : List AIns := [
  ⟨some 18,none,.no,.make 32 zZ0 (.v (.int .i64 512)) (.v (.int .i64 512))⟩,
  ⟨some 7,none,.no,.mv (.t 18)⟩]
@[go_sem] def q12r8 : List AIns := [
  ⟨some 19,none,.no,.mv (.v (.int .i64 0))⟩]
@[go_sem] def q12r9 : List AIns := [
  ⟨some 20,none,.no,.bin .lss .none (.t 19) (.v (.int .i64 256))⟩]
@[go_sem] def q12r10 : List AIns := [
  ⟨some 21,none,.no,.mv (.t 19)⟩,
  ⟨some 8,none,.no,.mv (.t 21)⟩]
@[go_sem] def q12r11 : List AIns := [
  ⟨some 22,none,.no,.mv (.t 6)⟩,
  ⟨some 23,none,.no,.mv (.t 8)⟩,
  ⟨some 24,none,.no,.call (.v (.fn 77 [])) [(.t 22), (.t 23)]⟩,
  ⟨some 9,none,.no,.mv (.t 24)⟩]
@[go_sem] def q12r12 : List AIns := [
  ⟨some 25,none,.no,.mv (.t 0)⟩,
  ⟨some 26,none,.no,.mv (.t 8)⟩,
  ⟨some 27,none,.no,.bin .mul .none (.t 26) (.v (.int .i64 32))⟩,
  ⟨some 28,none,.no,.mv (.t 8)⟩,
  ⟨some 29,none,.no,.bin .add .none (.t 28) (.v (.int .i64 1))⟩,
  ⟨some 30,none,.no,.bin .mul .none (.t 29) (.v (.int .i64 32))⟩,
  ⟨some 31,none,.no,.slice .str (.t 25) (some (.t 27)) (some (.t 30)) none⟩,
  ⟨some 32,none,.no,.mv (.t 0)⟩,
  ⟨some 33,none,.no,.mv (.t 8)⟩,
  ⟨some 34,none,.no,.bin .add .none (.v (.int .i64 256)) (.t 33)⟩,
  ⟨some 35,none,.no,.bin .mul .none (.t 34) (.v (.int .i64 32))⟩,
  ⟨some 36,none,.no,.slice .str (.t 32) (some (.t 35)) none none⟩,
  ⟨some 10,none,.no,.mv (.t 31)⟩,
  ⟨some 11,none,.no,.mv (.t 36)⟩]
@[go_sem] def q12r13 : List AIns := [
  ⟨some 37,none,.no,.mv (.t 7)⟩,
  ⟨some 38,none,.no,.mv (.t 8)⟩,
  ⟨some 39,none,.no,.bin .mul .none (.v (.int .i64 2)) (.t 38)⟩,
  ⟨some 40,none,.no,.mv (.t 9)⟩,
  ⟨some 41,none,.no,.bin .add .none (.t 39) (.t 40)⟩,
  ⟨some 42,none,.no,.mv (.t 10)⟩,
  ⟨some 43,none,.no,.call (.v (.fn 83 [])) [(.t 42)]⟩,
  ⟨some 44,none,.no,.iaSl 32 (.t 37) (.t 41)⟩,
  ⟨none,none,.no,.store 32 (.t 44) (.t 43)⟩]
@[go_sem] def q12r14 : List AIns := [
  ⟨some 46,none,.no,.mv (.t 7)⟩,
  ⟨some 47,none,.no,.mv (.t 8)⟩,
  ⟨some 48,none,.no,.bin .mul .none (.v (.int .i64 2)) (.t 47)⟩,
  ⟨some 49,none,.no,.bin .add .none (.t 48) (.v (.int .i64 1))⟩,
  ⟨some 50,none,.no,.mv (.t 9)⟩,
  ⟨some 51,none,.no,.bin .sub .none (.t 49) (.t 50)⟩,
  ⟨some 52,none,.no,.mv (.t 11)⟩,
  ⟨some 53,none,.no,.call (.v (.fn 84 [])) [(.t 52)]⟩,
  ⟨some 45,none,.no,.mv (.t 53)⟩,
  ⟨some 54,none,.no,.ext 0 (.t 45)⟩,
  ⟨some 55,none,.no,.ext 1 (.t 45)⟩,
  ⟨some 56,none,.no,.ext 2 (.t 45)⟩,
  ⟨some 57,none,.no,.iaSl 32 (.t 46) (.t 51)⟩,
  ⟨none,none,.no,.store 32 (.t 57) (.t 54)⟩]
def q12c15 : ACode := .seq (.reg q12r13) (.reg q12r14)
def q12c16 : ACode := .seq (.reg q12r12) q12c15
def q12c17 : ACode := .seq (.reg q12r11) q12c16
def q12c18 : ACode := .seq (.reg q12r10) q12c17
@[go_sem] def q12r19 : List AIns := [
  ⟨some 58,none,.no,.bin .add .none (.t 19) (.v (.int .i64 1))⟩,
  ⟨some 19,none,.no,.mv (.t 58)⟩]
def q12c20 : ACode := .seq (.block 1 q12c18) (.reg q12r19)
def q12c21 : ACode := .seq (.cond (.t 20) .skip (.exit 0)) q12c20
def q12c22 : ACode := .seq (.reg q12r9) q12c21
def q12c23 : ACode := .loop q12c22
def q12c24 : ACode := .block 0 q12c23
def q12c25 : ACode := .seq (.reg q12r8) q12c24
@[go_sem] def q12r26 : List AIns := [
  ⟨some 59,none,.no,.mv (.t 7)⟩,
  ⟨some 60,none,.no,.call (.v (.fn 64 [])) [(.t 59)]⟩,
  ⟨none,none,.no,.store 32 (.t 4) (.t 60)⟩,
  ⟨some 5,none,.no,.mv (.v (.int .i64 0))⟩]
def q12c27 : ACode := .seq (.reg q12r26) .ret
def q12c28 : ACode := .seq q12c25 q12c27
def q12c29 : ACode := .seq (.reg q12r7) q12c28
def q12c30 : ACode := .seq (.reg q12r6) q12c29
def q12c31 : ACode := .seq q12c5 q12c30
def q12c32 : ACode := .seq (.reg q12r0) q12c31
theorem q12ok : cFn TC 66 = some (61, [.c 4 true 32, .t 5], q12c32) := by kernel_rfl

@[go_sem] def q13r0 : List AIns := [
  ⟨some 4,none,.no,.mv (.v (.int .i64 0))⟩,
  ⟨some 5,none,.no,.mv (.v .any)⟩]
@[go_sem] def q13r1 : List AIns := [
  ⟨some 6,none,.no,.mv (.t 0)⟩,
  ⟨some 7,none,.no,.call (.v (.fn 91 [])) [(.t 6)]⟩]
@[go_sem] def q13r2 : List AIns := [
  ⟨some 8,none,.no,.mv (.t 0)⟩,
  ⟨some 9,none,.no,.mv (.t 0)⟩,
  ⟨some 10,none,.no,.nilc (.t 9)⟩,
  ⟨some 11,none,.no,.fa 1 (.t 10)⟩,
  ⟨some 12,none,.no,.load false 1 (.t 11)⟩,
  ⟨some 13,none,.no,.mv (.t 1)⟩,
  ⟨some 14,none,.no,.appB (.t 12) (.t 13)⟩,
  ⟨some 15,none,.no,.nilc (.t 8)⟩,
  ⟨some 16,none,.no,.fa 1 (.t 15)⟩,
  ⟨none,none,.no,.store 1 (.t 16) (.t 14)⟩]
@[go_sem] def q13r3 : List AIns := [
  ⟨some 17,none,.no,.mv (.t 1)⟩,
  ⟨some 18,none,.no,.lenStr (.t 17)⟩,
  ⟨some 4,none,.no,.mv (.t 18)⟩,
  ⟨some 5,none,.no,.mv (.v .any)⟩]
def q13c4 : ACode := .seq (.reg q13r3) .ret
def q13c5 : ACode := .seq (.reg q13r2) q13c4
def q13c6 : ACode := .seq (.reg q13r1) q13c5
def q13c7 : ACode := .seq (.reg q13r0) q13c6
theorem q13ok : cFn TC 78 = some (19, [.t 4, .t 5], q13c7) := by kernel_rfl

@[go_sem] def q14r0 : List AIns := [
  ⟨some 4,none,.no,.mv (.v .any)⟩]
@[go_sem] def q14r1 : List AIns := [
  ⟨some 5,none,.no,.mv (.t 0)⟩,
  ⟨some 6,none,.no,.call (.v (.fn 91 [])) [(.t 5)]⟩]
@[go_sem] def q14r2 : List AIns := [
  ⟨some 7,none,.no,.mv (.t 0)⟩,
  ⟨some 8,none,.no,.mv (.t 0)⟩,
  ⟨some 9,none,.no,.nilc (.t 8)⟩,
  ⟨some 10,none,.no,.fa 1 (.t 9)⟩,
  ⟨some 11,none,.no,.load false 1 (.t 10)⟩,
  ⟨some 12,none,.no,.mv (.t 1)⟩,
  ⟨some 13,none,.no,.lit 1 [(.t 12)]⟩,
  ⟨some 14,none,.no,.appB (.t 11) (.t 13)⟩,
  ⟨some 15,none,.no,.nilc (.t 7)⟩,
  ⟨some 16,none,.no,.fa 1 (.t 15)⟩,
  ⟨none,none,.no,.store 1 (.t 16) (.t 14)⟩]
@[go_sem] def q14r3 : List AIns := [
  ⟨some 4,none,.no,.mv (.v .any)⟩]
def q14c4 : ACode := .seq (.reg q14r3) .ret
def q14c5 : ACode := .seq (.reg q14r2) q14c4
def q14c6 : ACode := .seq (.reg q14r1) q14c5
def q14c7 : ACode := .seq (.reg q14r0) q14c6
theorem q14ok : cFn TC 82 = some (17, [.t 4], q14c7) := by kernel_rfl

@[go_sem] def q15r0 : List AIns := [
  ⟨some 2,none,.no,.alloc zZ0⟩]
@[go_sem] def q15r1 : List AIns := [
  ⟨some 3,none,.no,.mv (.t 0)⟩,
  ⟨some 4,none,.no,.bin .add .none (.v (.str [3])) (.t 3)⟩,
  ⟨some 5,none,.no,.call (.v (.fn 46 [])) [(.t 4)]⟩,
  ⟨none,none,.no,.store 32 (.t 2) (.t 5)⟩]
def q15c2 : ACode := .seq (.reg q15r1) .ret
def q15c3 : ACode := .seq (.reg q15r0) q15c2
theorem q15ok : cFn TC 83 = some (6, [.c 2 true 32], q15c3) := by kernel_rfl

@[go_sem] def q16r0 : List AIns := [
  ⟨some 8,none,.no,.alloc zZ0⟩]
@[go_sem] def q16r1 : List AIns := [
  ⟨some 9,none,.no,.mv (.t 1)⟩,
  ⟨some 10,none,.no,.bin .lss .none (.t 9) (.v (.int .i64 0))⟩,
  ⟨some 11,none,.no,.mv (.t 10)⟩,
  ⟨some 12, some (11, false), .no, .mv (.t 1)⟩,
  ⟨some 13, some (11, false), .no, .bin .geq .none (.t 12) (.v (.int .i64 2147483648))⟩,
  ⟨some 14,none,.no,.pick (.t 11) (.v (.bool true)) (.t 13)⟩,
  ⟨some 15,none,.no,.mv (.t 14)⟩,
  ⟨some 16, some (15, false), .no, .mv (.t 2)⟩,
  ⟨some 17, some (15, false), .no, .bin .lss .none (.t 16) (.v (.int .i64 0))⟩,
  ⟨some 18,none,.no,.pick (.t 15) (.v (.bool true)) (.t 17)⟩,
  ⟨some 19,none,.no,.mv (.t 18)⟩,
  ⟨some 20, some (19, false), .no, .mv (.t 2)⟩,
  ⟨some 21, some (19, false), .no, .bin .geq .none (.t 20) (.v (.int .i64 256))⟩,
  ⟨some 22,none,.no,.pick (.t 19) (.v (.bool true)) (.t 21)⟩,
  ⟨some 23,none,.no,.mv (.t 22)⟩,
  ⟨some 24, some (23, false), .no, .mv (.t 3)⟩,
  ⟨some 25, some (23, false), .no, .bin .lss .none (.t 24) (.v (.int .i64 0))⟩,
  ⟨some 26,none,.no,.pick (.t 23) (.v (.bool true)) (.t 25)⟩,
  ⟨some 27,none,.no,.mv (.t 26)⟩,
  ⟨some 28, some (27, false), .no, .mv (.t 3)⟩,
  ⟨some 29, some (27, false), .no, .bin .gtr .none (.t 28) (.v (.int .i64 1))⟩,
  ⟨some 30,none,.no,.pick (.t 27) (.v (.bool true)) (.t 29)⟩]
@[go_sem] def q16r2 : List AIns := [
  ⟨some 31,none,.no,.build zZ0 []⟩,
  ⟨none,none,.no,.store 32 (.t 8) (.t 31)⟩]
def q16c3 : ACode := .seq (.reg q16r2) .ret
def q16c4 : ACode := .cond (.t 30) q16c3 .skip
def q16c5 : ACode := .seq (.reg q16r1) q16c4
@[go_sem] def q16r6 : List AIns := [
  ⟨some 32,none,.no,.mv (.t 0)⟩,
  ⟨some 33,none,.no,.call (.v (.fn 92 [])) [(.t 32)]⟩,
  ⟨some 34,none,.no,.bin .add .none (.v (.str [2])) (.t 33)⟩,
  ⟨some 35,none,.no,.mv (.t 1)⟩,
  ⟨some 36,none,.no,.conv (.int .u64) (.t 35)⟩,
  ⟨some 37,none,.no,.call (.v (.fn 61 [])) [(.t 36), (.v (.int .i64 4))]⟩,
  ⟨some 38,none,.no,.bin .add .none (.t 34) (.t 37)⟩,
  ⟨some 39,none,.no,.mv (.t 2)⟩,
  ⟨some 40,none,.no,.bin .mul .none (.v (.int .i64 2)) (.t 39)⟩,
  ⟨some 41,none,.no,.mv (.t 3)⟩,
  ⟨some 42,none,.no,.bin .add .none (.t 40) (.t 41)⟩,
  ⟨some 43,none,.no,.conv (.int .u64) (.t 42)⟩,
  ⟨some 44,none,.no,.call (.v (.fn 61 [])) [(.t 43), (.v (.int .i64 2))]⟩,
  ⟨some 45,none,.no,.bin .add .none (.t 38) (.t 44)⟩,
  ⟨some 46,none,.no,.call (.v (.fn 46 [])) [(.t 45)]⟩,
  ⟨none,none,.no,.store 32 (.t 8) (.t 46)⟩]
def q16c7 : ACode := .seq (.reg q16r6) .ret
def q16c8 : ACode := .seq q16c5 q16c7
def q16c9 : ACode := .seq (.reg q16r0) q16c8
theorem q16ok : cFn TC 79 = some (47, [.c 8 true 32], q16c9) := by kernel_rfl

end Am
end Go.Proofs.YtjgljhbmljgaeaaDoor
end
section
/- Abstract code. (Printed by wip/gen.) -/
set_option maxRecDepth 10000
namespace Go.Proofs.YtjgljhbmljgaeaaDoor
namespace Am



@[go_sem] def q17r0 : List AIns := [
  ⟨some 2,none,.no,.mv (.v .nilp)⟩]
@[go_sem] def q17r1 : List AIns := [
  ⟨some 5,none,.no,.mv (.t 0)⟩,
  ⟨some 6,none,.no,.build [(.bool false), (.str []), (.int .u8 0), (.int .u8 0), (.int .u8 0), (.int .u8 0), (.int .u8 0), (.int .u8 0), (.int .u8 0), (.int .u8 0), (.int .u8 0), (.int .u8 0), (.int .u8 0), (.int .u8 0), (.int .u8 0), (.int .u8 0), (.int .u8 0), (.int .u8 0), (.int .u8 0), (.int .u8 0), (.int .u8 0), (.int .u8 0), (.int .u8 0), (.int .u8 0), (.int .u8 0), (.int .u8 0), (.int .u8 0), (.int .u8 0), (.int .u8 0), (.int .u8 0), (.int .u8 0), (.int .u8 0), (.int .u8 0), (.int .u8 0), (.int .u8 0), (.int .u8 0), (.int .u8 0), (.int .u8 0), (.int .u8 0), (.int .u8 0), (.int .u8 0), (.int .u8 0), (.int .u8 0), (.int .u8 0), (.int .u8 0), (.int .u8 0), (.int .u8 0), (.int .u8 0), (.int .u8 0), (.int .u8 0), (.int .u8 0), (.int .u8 0), (.int .u8 0), (.int .u8 0), (.int .u8 0), (.int .u8 0), (.int .u8 0), (.int .u8 0), (.int .u8 0), (.int .u8 0), (.int .u8 0), (.int .u8 0), (.int .u8 0), (.int .u8 0), (.int .u8 0), (.int .u8 0), (.int .u8 0), (.int .u8 0), (.int .u8 0), (.int .u8 0), (.int .u8 0), (.int .u8 0), (.int .u8 0), (.int .u8 0), (.int .u8 0), (.int .u8 0), (.int .u8 0), (.int .u8 0), (.int .u8 0), (.int .u8 0), (.int .u8 0), (.int .u8 0), (.int .u8 0), (.int .u8 0), (.int .u8 0), (.int .u8 0), (.int .u8 0), (.int .u8 0), (.int .u8 0), (.int .u8 0), (.int .u8 0), (.int .u8 0), (.int .u8 0), (.int .u8 0), (.int .u8 0), (.int .u8 0), (.int .u8 0), (.int .u8 0), (.int .u8 0), (.int .u8 0), (.int .u8 0), (.int .u8 0), (.int .u8 0), (.int .u8 0), (.int .u8 0), (.int .u8 0), (.int .u8 0), (.int .u8 0), (.int .u8 0), (.int .u8 0), (.int .u8 0), (.int .u8 0), (.int .u8 0), (.int .u8 0), (.int .u8 0), (.int .u8 0), (.int .u8 0), (.int .u8 0), (.int .u8 0), (.int .u8 0), (.int .u8 0), (.int .u8 0), (.int .u8 0), (.int .u8 0), (.int .u8 0), (.int .u8 0), (.int .u8 0), (.int .u8 0), (.int .u8 0), (.int .u8 0), (.int .u8 0), (.int .u8 0), (.int .u8 0), (.int .u8 0), (.int .u8 0), (.int .u8 0), (.int .u8 0), (.int .u8 0), (.int .u8 0), (.int .u8 0), (.int .u8 0), (.int .u8 0), (.int .u8 0), (.int .u8 0), (.int .u8 0), (.int .u8 0), (.int .u8 0), (.int .u8 0), (.int .u8 0), (.int .u8 0), (.int .u8 0), (.int .u8 0), (.int .u8 0), (.int .u8 0), (.int .u8 0), (.int .u8 0), (.int .u8 0), (.int .u8 0), (.int .u8 0), (.int .u8 0), (.int .u8 0), (.int .u8 0), (.int .u8 0), (.int .u8 0), (.int .u8 0), (.int .u8 0), (.int .u8 0), (.int .u8 0), (.int .u8 0), (.int .u8 0), (.int .u8 0), (.int .u8 0), (.int .u8 0), (.int .u8 0), (.int .u8 0), (.int .u8 0), (.int .u8 0), (.int .u8 0), (.int .u8 0), (.int .u8 0), (.int .u8 0), (.int .u8 0), (.int .u8 0), (.int .u8 0), (.int .u8 0), (.int .u8 0), (.int .u8 0), (.int .u8 0), (.int .u8 0), (.int .u8 0), (.int .u8 0), (.int .u8 0), (.int .u8 0), (.int .u8 0), (.int .u8 0), (.int .u8 0), (.int .u8 0), (.int .u8 0), (.int .u8 0), (.int .u8 0), (.int .u8 0), (.int .u8 0), (.int .u8 0), (.int .u8 0), (.int .u8 0), (.int .u8 0), (.int .u8 0), (.int .u8 0), (.int .u8 0), (.int .u8 0), (.int .u8 0), (.int .u8 0), (.int .u8 0), (.int .u8 0), (.int .u8 0), (.int .u8 0), (.int .u8 0), (.int .u8 0), (.int .u8 0), (.int .u8 0), (.int .u8 0), (.int .u8 0), (.int .u8 0), (.int .u8 0), (.int .u8 0), (.int .u8 0), (.int .u8 0), (.int .u8 0), (.int .u8 0), (.int .u8 0), (.int .u8 0), (.int .u8 0), (.int .u8 0), (.int .u8 0), (.int .u8 0), (.int .u8 0), (.int .u8 0), (.int .u8 0), (.int .u8 0), (.int .u8 0), (.int .u8 0), (.int .u8 0), (.int .u8 0), (.int .u8 0), (.int .u8 0), (.int .u8 0), (.int .u8 0), (.int .u8 0), (.int .u8 0), (.int .u8 0), (.int .u8 0), (.int .u8 0), (.int .u8 0), (.int .u8 0), (.int .u8 0), (.int .u8 0), (.int .u8 0), (.int .u8 0)] [(0, 1, (.v (.bool true))), (1, 1, (.t 5))]⟩,
  ⟨some 7,none,.no,.box (.t 6)⟩,
  ⟨some 3,none,.no,.mv (.t 7)⟩]
@[go_sem] def q17r2 : List AIns := [
  ⟨some 8,none,.no,.mv (.v (.int .i64 0))⟩]
@[go_sem] def q17r3 : List AIns := [
  ⟨some 9,none,.no,.bin .lss .none (.t 8) (.v (.int .i64 8))⟩]
@[go_sem] def q17r4 : List AIns := [
  ⟨some 10,none,.no,.mv (.t 8)⟩,
  ⟨some 4,none,.no,.mv (.t 10)⟩]
@[go_sem] def q17r5 : List AIns := [
  ⟨some 11,none,.no,.mv (.t 3)⟩,
  ⟨some 12,none,.no,.mv (.t 4)⟩,
  ⟨some 13,none,.no,.mv (.t 0)⟩,
  ⟨some 14,none,.no,.mv (.t 4)⟩,
  ⟨some 15,none,.no,.call (.v (.fn 65 [])) [(.t 13), (.t 14)]⟩,
  ⟨some 16,none,.no,.call (.v (.fn 64 [])) [(.t 15)]⟩,
  ⟨some 17,none,.no,.nilc (.t 11)⟩,
  ⟨some 18,none,.no,.fa 2 (.t 17)⟩,
  ⟨some 19,none,.no,.iaArr 8 32 (.t 18) (.t 12)⟩,
  ⟨none,none,.no,.store 32 (.t 19) (.t 16)⟩]
def q17c6 : ACode := .seq (.reg q17r4) (.reg q17r5)
@[go_sem] def q17r7 : List AIns := [
  ⟨some 20,none,.no,.bin .add .none (.t 8) (.v (.int .i64 1))⟩,
  ⟨some 8,none,.no,.mv (.t 20)⟩]
def q17c8 : ACode := .seq (.block 1 q17c6) (.reg q17r7)
def q17c9 : ACode := .seq (.cond (.t 9) .skip (.exit 0)) q17c8
def q17c10 : ACode := .seq (.reg q17r3) q17c9
def q17c11 : ACode := .loop q17c10
def q17c12 : ACode := .block 0 q17c11
def q17c13 : ACode := .seq (.reg q17r2) q17c12
@[go_sem] def q17r14 : List AIns := [
  ⟨some 21,none,.no,.mv (.t 3)⟩,
  ⟨some 2,none,.no,.mv (.t 21)⟩]
def q17c15 : ACode := .seq (.reg q17r14) .ret
def q17c16 : ACode := .seq q17c13 q17c15
def q17c17 : ACode := .seq (.reg q17r1) q17c16
def q17c18 : ACode := .seq (.reg q17r0) q17c17
theorem q17ok : cFn TC 43 = some (22, [.t 2], q17c18) := by kernel_rfl

@[go_sem] def q18r0 : List AIns := [
  ⟨some 2,none,.no,.alloc zZ0⟩]
@[go_sem] def q18r1 : List AIns := [
  ⟨some 3,none,.no,.mv (.t 0)⟩,
  ⟨some 4,none,.no,.bin .eql .ptr (.t 3) (.v .nilp)⟩,
  ⟨some 5,none,.no,.mv (.t 4)⟩,
  ⟨some 6, some (5, false), .no, .mv (.t 0)⟩,
  ⟨some 7, some (5, false), .no, .nilc (.t 6)⟩,
  ⟨some 8, some (5, false), .no, .fa 0 (.t 7)⟩,
  ⟨some 9, some (5, false), .no, .load false 1 (.t 8)⟩,
  ⟨some 10, some (5, false), .no, .un .not (.t 9)⟩,
  ⟨some 11,none,.no,.pick (.t 5) (.v (.bool true)) (.t 10)⟩]
@[go_sem] def q18r2 : List AIns := [
  ⟨some 12,none,.no,.build zZ0 []⟩,
  ⟨none,none,.no,.store 32 (.t 2) (.t 12)⟩]
def q18c3 : ACode := .seq (.reg q18r2) .ret
def q18c4 : ACode := .cond (.t 11) q18c3 .skip
def q18c5 : ACode := .seq (.reg q18r1) q18c4
@[go_sem] def q18r6 : List AIns := [
  ⟨some 13,none,.no,.mv (.t 0)⟩,
  ⟨some 14,none,.no,.nilc (.t 13)⟩,
  ⟨some 15,none,.no,.fa 2 (.t 14)⟩,
  ⟨some 16,none,.no,.slice (.arr 8 32) (.t 15) none none none⟩,
  ⟨some 17,none,.no,.call (.v (.fn 24 [])) [(.t 16)]⟩,
  ⟨none,none,.no,.store 32 (.t 2) (.t 17)⟩]
def q18c7 : ACode := .seq (.reg q18r6) .ret
def q18c8 : ACode := .seq q18c5 q18c7
def q18c9 : ACode := .seq (.reg q18r0) q18c8
theorem q18ok : cFn TC 28 = some (18, [.c 2 true 32], q18c9) := by kernel_rfl

@[go_sem] def q19r0 : List AIns := [
  ⟨some 5,none,.no,.box (.t 2)⟩,
  ⟨some 6,none,.no,.alloc [(.int .i64 0), (.str []), .nilsl]⟩,
  ⟨some 7,none,.no,.mv (.v (.int .i64 0))⟩]
@[go_sem] def q19r1 : List AIns := [
  ⟨some 11,none,.no,.mv (.t 0)⟩,
  ⟨some 12,none,.no,.bin .eql .ptr (.t 11) (.v .nilp)⟩,
  ⟨some 13,none,.no,.mv (.t 12)⟩,
  ⟨some 14, some (13, false), .no, .mv (.t 0)⟩,
  ⟨some 15, some (13, false), .no, .nilc (.t 14)⟩,
  ⟨some 16, some (13, false), .no, .fa 0 (.t 15)⟩,
  ⟨some 17, some (13, false), .no, .load false 1 (.t 16)⟩,
  ⟨some 18, some (13, false), .no, .un .not (.t 17)⟩,
  ⟨some 19,none,.no,.pick (.t 13) (.v (.bool true)) (.t 18)⟩,
  ⟨some 10,none,.no,.mv (.t 19)⟩]
@[go_sem] def q19r2 : List AIns := [
  ⟨some 20,none,.no,.build [(.int .i64 0), (.str []), .nilsl] []⟩,
  ⟨none,none,.no,.store 3 (.t 6) (.t 20)⟩,
  ⟨some 7,none,.no,.mv (.v (.int .i64 1))⟩]
def q19c3 : ACode := .seq (.reg q19r2) .ret
@[go_sem] def q19r4 : List AIns := [
  ⟨some 22,none,.no,.mv (.t 1)⟩,
  ⟨some 23,none,.no,.bin .lss .none (.t 22) (.v (.int .i64 0))⟩,
  ⟨some 24,none,.no,.mv (.t 23)⟩,
  ⟨some 25, some (24, false), .no, .mv (.t 1)⟩,
  ⟨some 26, some (24, false), .no, .bin .geq .none (.t 25) (.v (.int .i64 8))⟩,
  ⟨some 27,none,.no,.pick (.t 24) (.v (.bool true)) (.t 26)⟩,
  ⟨some 21,none,.no,.mv (.t 27)⟩]
@[go_sem] def q19r5 : List AIns := [
  ⟨some 28,none,.no,.build [(.int .i64 0), (.str []), .nilsl] []⟩,
  ⟨none,none,.no,.store 3 (.t 6) (.t 28)⟩,
  ⟨some 7,none,.no,.mv (.v (.int .i64 2))⟩]
def q19c6 : ACode := .seq (.reg q19r5) .ret
def q19c7 : ACode := .cond (.t 21) q19c6 .skip
def q19c8 : ACode := .seq (.reg q19r4) q19c7
def q19c9 : ACode := .cond (.t 10) q19c3 q19c8
def q19c10 : ACode := .seq (.reg q19r1) q19c9
@[go_sem] def q19r11 : List AIns := [
  ⟨some 30,none,.no,.mv (.t 0)⟩,
  ⟨some 31,none,.no,.nilc (.t 30)⟩,
  ⟨some 32,none,.no,.fa 2 (.t 31)⟩,
  ⟨some 33,none,.no,.slice (.arr 8 32) (.t 32) none none none⟩,
  ⟨some 34,none,.no,.mv (.t 1)⟩,
  ⟨some 35,none,.no,.call (.v (.fn 30 [])) [(.t 33), (.t 34)]⟩,
  ⟨some 29,none,.no,.mv (.t 35)⟩,
  ⟨some 36,none,.no,.ext 0 (.t 29)⟩,
  ⟨some 37,none,.no,.ext 1 (.t 29)⟩,
  ⟨some 8,none,.no,.mv (.t 36)⟩,
  ⟨some 9,none,.no,.mv (.t 37)⟩]
@[go_sem] def q19r12 : List AIns := [
  ⟨some 38,none,.no,.mv (.t 1)⟩,
  ⟨some 39,none,.no,.mv (.t 0)⟩,
  ⟨some 40,none,.no,.nilc (.t 39)⟩,
  ⟨some 41,none,.no,.fa 1 (.t 40)⟩,
  ⟨some 42, none, .rd, .load false 1 (.t 41)⟩,
  ⟨some 43,none,.no,.mv (.t 1)⟩,
  ⟨some 44, none, .rd, .load true 32 (.t 5)⟩,
  ⟨some 45,none,.no,.call (.v (.fn 60 [])) [(.t 42), (.t 43), (.t 44)]⟩,
  ⟨some 46,none,.no,.mv (.t 8)⟩,
  ⟨some 47,none,.no,.build [(.int .i64 0), (.str []), .nilsl] [(0, 1, (.t 38)), (1, 1, (.t 45)), (2, 1, (.t 46))]⟩,
  ⟨none,none,.no,.store 3 (.t 6) (.t 47)⟩,
  ⟨some 7,none,.no,.mv (.v (.int .i64 0))⟩]
def q19c13 : ACode := .seq (.reg q19r12) .ret
def q19c14 : ACode := .seq (.reg q19r11) q19c13
def q19c15 : ACode := .seq (.block 0 q19c10) q19c14
def q19c16 : ACode := .seq (.reg q19r0) q19c15
theorem q19ok : cFn TC 39 = some (48, [.c 6 true 3, .t 7], q19c16) := by kernel_rfl

@[go_sem] def q1ar0 : List AIns := [
  ⟨some 3,none,.no,.box (.t 0)⟩,
  ⟨some 4,none,.no,.box (.t 1)⟩,
  ⟨some 5,none,.no,.box (.t 2)⟩,
  ⟨some 6,none,.no,.mv (.v (.int .i64 0))⟩]
@[go_sem] def q1ar1 : List AIns := [
  ⟨some 9,none,.no,.fa 0 (.t 5)⟩,
  ⟨some 10,none,.no,.load false 1 (.t 9)⟩,
  ⟨some 11,none,.no,.bin .lss .none (.t 10) (.v (.int .i64 0))⟩,
  ⟨some 12,none,.no,.mv (.t 11)⟩,
  ⟨some 13, some (12, false), .no, .fa 0 (.t 5)⟩,
  ⟨some 14, some (12, false), .no, .load false 1 (.t 13)⟩,
  ⟨some 15, some (12, false), .no, .bin .geq .none (.t 14) (.v (.int .i64 8))⟩,
  ⟨some 16,none,.no,.pick (.t 12) (.v (.bool true)) (.t 15)⟩]
@[go_sem] def q1ar2 : List AIns := [
  ⟨some 6,none,.no,.mv (.v (.int .i64 2))⟩]
def q1ac3 : ACode := .seq (.reg q1ar2) .ret
def q1ac4 : ACode := .cond (.t 16) q1ac3 .skip
def q1ac5 : ACode := .seq (.reg q1ar1) q1ac4
@[go_sem] def q1ar6 : List AIns := [
  ⟨some 18,none,.no,.fa 1 (.t 5)⟩,
  ⟨some 19,none,.no,.load false 1 (.t 18)⟩,
  ⟨some 20,none,.no,.load true 32 (.t 4)⟩,
  ⟨some 21,none,.no,.call (.v (.fn 66 [])) [(.t 19), (.t 20)]⟩,
  ⟨some 17,none,.no,.mv (.t 21)⟩,
  ⟨some 22,none,.no,.ext 0 (.t 17)⟩,
  ⟨some 23,none,.no,.ext 1 (.t 17)⟩,
  ⟨some 7,none,.no,.alloc zZ0⟩,
  ⟨none,none,.no,.store 32 (.t 7) (.t 22)⟩,
  ⟨some 8,none,.no,.mv (.t 23)⟩]
@[go_sem] def q1ar7 : List AIns := [
  ⟨some 24,none,.no,.mv (.t 8)⟩,
  ⟨some 25,none,.no,.bin .neq .none (.t 24) (.v (.int .i64 0))⟩,
  ⟨some 26,none,.no,.mv (.t 25)⟩,
  ⟨some 27, some (26, false), .no, .load true 32 (.t 7)⟩,
  ⟨some 28, some (26, false), .no, .fa 0 (.t 5)⟩,
  ⟨some 29, some (26, false), .no, .load false 1 (.t 28)⟩,
  ⟨some 30, some (26, false), .no, .fa 2 (.t 5)⟩,
  ⟨some 31, some (26, false), .no, .load false 1 (.t 30)⟩,
  ⟨some 32, some (26, false), .no, .load true 32 (.t 3)⟩,
  ⟨some 33, some (26, false), .no, .call (.v (.fn 36 [])) [(.t 27), (.t 29), (.v (.int .i64 8)), (.t 31), (.t 32)]⟩,
  ⟨some 34, some (26, false), .no, .bin .neq .none (.t 33) (.v (.int .i64 0))⟩,
  ⟨some 35,none,.no,.pick (.t 26) (.v (.bool true)) (.t 34)⟩]
@[go_sem] def q1ar8 : List AIns := [
  ⟨some 6,none,.no,.mv (.v (.int .i64 81))⟩]
def q1ac9 : ACode := .seq (.reg q1ar8) .ret
def q1ac10 : ACode := .cond (.t 35) q1ac9 .skip
def q1ac11 : ACode := .seq (.reg q1ar7) q1ac10
@[go_sem] def q1ar12 : List AIns := [
  ⟨some 6,none,.no,.mv (.v (.int .i64 0))⟩]
def q1ac13 : ACode := .seq (.reg q1ar12) .ret
def q1ac14 : ACode := .seq q1ac11 q1ac13
def q1ac15 : ACode := .seq (.reg q1ar6) q1ac14
def q1ac16 : ACode := .seq q1ac5 q1ac15
def q1ac17 : ACode := .seq (.reg q1ar0) q1ac16
theorem q1aok : cFn TC 45 = some (36, [.t 6], q1ac17) := by kernel_rfl

end Am
end Go.Proofs.YtjgljhbmljgaeaaDoor
end
section
/- strings.Builder: the contracts of WriteString and WriteByte; a builder of one's own. -/
namespace Go.Proofs.YtjgljhbmljgaeaaDoor
namespace Am
attribute [local irreducible] ACallsTo ACallsP
theorem zdr (Y : Store) (r : Nat) (t : List UInt8) (hr : Y[r]? = some (some [[.bld r, .bnil]])) (h0 : t ≠ []) (hl : t.length <= 1073741824) :
    ACallsTo TC 78 [.ptr r 0 0, .str t] Y (.tup [.int .i64 t.length, .any]) (Y.set r (some [[.bld r, .bsl Y.length t.length]]) ++ [some (zh t)]) := by
  have hz : t.length ≠ 0 := by simpa using h0
  have hs := slen hr
  have hc := zb5 Y r _ hr
  refine ACallsTo.of_body_keep q13ok (by simp) ?_
  repeat' (first|refine zW.zs ?_|refine zW.zb ?_|refine zW.zc ?_|refine zW.zt rfl ?_|refine zW.zf rfl ?_|(refine zW.zd rfl (fun ht => ?_) (fun ht => ?_)<;>try (exfalso;omega))|((first|refine zW.zr ?_|refine zW.zk ?_|refine zW.ze ?_|refine zW.zq ?_|(apply callW.mk_pu; (first | exact (fun _ => hc))) | (apply callW.za; (first | exact (hc))) | ((first|apply zg0|apply zg1|apply zg2|apply zg3|apply zg4|apply zg5|apply zg6|apply zg7)<;>intro ht));all_goals try simp (disch:=first|omega|(simp only [lens,z13,zn,List.length_drop];first|done|omega)) only [go_sem,reduceEqDiff,Nat.reduceBEq,reduceAdd,reduceMul,reduceSub,reduceLeDiff,reduceToNat,reducePow, hr, hz, hs, z41]))
theorem zds (Y : Store) (r rb : Nat) (s t : List UInt8) (hr : Y[r]? = some (some [[.bld r, .bsl rb s.length]])) (hb : Y[rb]? = some (some (zh s))) (hne : rb ≠ r) (h0 : t ≠ []) (hl : s.length + t.length <= 1073741824) :
    ACallsTo TC 78 [.ptr r 0 0, .str t] Y (.tup [.int .i64 t.length, .any]) ((Y.set rb none).set r (some [[.bld r, .bsl Y.length (s.length + t.length)]]) ++ [some (zh (s ++ t))]) := by
  have hz : t.length ≠ 0 := by simpa using h0
  have hs := slen hr
  have hc := zb5 Y r _ hr
  refine ACallsTo.of_body_keep q13ok (by simp) ?_
  repeat' (first|refine zW.zs ?_|refine zW.zb ?_|refine zW.zc ?_|refine zW.zt rfl ?_|refine zW.zf rfl ?_|(refine zW.zd rfl (fun ht => ?_) (fun ht => ?_)<;>try (exfalso;omega))|((first|refine zW.zr ?_|refine zW.zk ?_|refine zW.ze ?_|refine zW.zq ?_|(apply callW.mk_pu; (first | exact (fun _ => hc))) | (apply callW.za; (first | exact (hc))) | ((first|apply zg0|apply zg1|apply zg2|apply zg3|apply zg4|apply zg5|apply zg6|apply zg7)<;>intro ht));all_goals try simp (disch:=first|omega|(simp only [lens,z13,zn,List.length_drop];first|done|omega)) only [go_sem,reduceEqDiff,Nat.reduceBEq,reduceAdd,reduceMul,reduceSub,reduceLeDiff,reduceToNat,reducePow, hr, hb, hz, hs, hne, z41]))
theorem ziy (Y : Store) (r : Nat) (b : UInt8) (hr : Y[r]? = some (some [[.bld r, .bnil]])) :
    ACallsTo TC 82 [.ptr r 0 0, .int .u8 b.toNat] Y .any (Y.set r (some [[.bld r, .bsl Y.length 1]]) ++ [some (zh [b])]) := by
  have hs := slen hr
  have hc := zb5 Y r _ hr
  have hb : zh [b] = [[.int .u8 b.toNat]] := rfl
  rw [hb]
  refine ACallsTo.of_body_keep q14ok (by simp) ?_
  repeat' (first|refine zW.zs ?_|refine zW.zb ?_|refine zW.zc ?_|refine zW.zt rfl ?_|refine zW.zf rfl ?_|(refine zW.zd rfl (fun ht => ?_) (fun ht => ?_)<;>try (exfalso;omega))|((first|refine zW.zr ?_|refine zW.zk ?_|refine zW.ze ?_|refine zW.zq ?_|(apply callW.mk_pu; (first | exact (fun _ => hc))) | (apply callW.za; (first | exact (hc))) | ((first|apply zg0|apply zg1|apply zg2|apply zg3|apply zg4|apply zg5|apply zg6|apply zg7)<;>intro ht));all_goals try simp (disch:=first|omega|(simp only [lens,z13,zn,List.length_drop];first|done|omega)) only [go_sem,reduceEqDiff,Nat.reduceBEq,reduceAdd,reduceMul,reduceSub,reduceLeDiff,reduceToNat,reducePow, hr, hs, z41]))
/-- A builder of one's own, with its bytes. -/
def BldN (τ Y' : Store) (r : Nat) (s : List UInt8) : Prop :=
  τ.length <= r /\ (∃ news, Y' = τ ++ news) /\ ((s = [] /\ Y'[r]? = some (some [[.bld r, .bnil]])) ∨
    (s ≠ [] /\ ∃ rb, τ.length <= rb /\ rb ≠ r /\ Y'[r]? = some (some [[.bld r, .bsl rb s.length]]) /\ Y'[rb]? = some (some (zh s))))
theorem BldN.new {τ news : Store} {r : Nat} (hr : τ.length <= r) (h : (τ ++ news)[r]? = some (some [[.bld r, .bnil]])) : BldN τ (τ ++ news) r [] := ⟨hr, ⟨news, rfl⟩, .inl ⟨rfl, h⟩⟩
theorem BldN.ext {τ Y' : Store} {r : Nat} {s : List UInt8} (h : BldN τ Y' r s) : ∃ news, Y' = τ ++ news := h.2.1
theorem BldN.more {τ Y' : Store} {r : Nat} {s : List UInt8} (h : BldN τ Y' r s) (y : Store) : BldN τ (Y' ++ y) r s := by
  obtain ⟨h1, ⟨news, rfl⟩, h2⟩ := h
  refine ⟨h1, ⟨news ++ y, by rw [List.append_assoc]⟩, ?_⟩
  rcases h2 with ⟨e, h2⟩ | ⟨e, rb, h3, h4, h5, h6⟩
  · exact .inl ⟨e, by rw [List.getElem?_append_left (slen h2)]; exact h2⟩
  · exact .inr ⟨e, rb, h3, h4, by rw [List.getElem?_append_left (slen h5)]; exact h5, by rw [List.getElem?_append_left (slen h6)]; exact h6⟩
theorem z8u {τ news : Store} {r : Nat} (x : Option AObj) (h : τ.length <= r) : (τ ++ news).set r x = τ ++ news.set (r - τ.length) x := by rw [List.set_append_right _ _ h]
theorem BldN.write {τ Y' : Store} {r : Nat} {s t : List UInt8} (h : BldN τ Y' r s) (h0 : t ≠ []) (hl : s.length + t.length <= 1073741824) :
    ∃ Y2, ACallsTo TC 78 [.ptr r 0 0, .str t] Y' (.tup [.int .i64 t.length, .any]) Y2 /\ BldN τ Y2 r (s ++ t) := by
  obtain ⟨h1, ⟨news, rfl⟩, ⟨rfl, h2⟩ | ⟨e, rb, h3, h4, h5, h6⟩⟩ := h
  · refine ⟨_, zdr _ r t h2 h0 (by simpa using hl), h1, ⟨_, by rw [z8u _ h1, List.append_assoc]⟩, .inr ⟨by simpa using h0, (τ ++ news).length, by simp, ?_, ?_, ?_⟩⟩
    · have := slen h2; omega
    · rw [List.getElem?_append_left (by rw [List.length_set]; exact slen h2), List.getElem?_set_self (slen h2)]; rfl
    · rw [List.getElem?_append_right (by rw [List.length_set]; exact Nat.le_refl _), List.length_set, Nat.sub_self]; rfl
  · refine ⟨_, zds _ r rb s t h5 h6 h4 h0 hl, h1, ⟨_, by rw [z8u _ h3, z8u _ h1, List.append_assoc]⟩, .inr ⟨by simp [e], (τ ++ news).length, by simp, ?_, ?_, ?_⟩⟩
    · have := slen h5; omega
    · rw [List.getElem?_append_left (by rw [List.length_set, List.length_set]; exact slen h5), List.getElem?_set_self (by rw [List.length_set]; exact slen h5)]; simp
    · rw [List.getElem?_append_right (by rw [List.length_set, List.length_set]; exact Nat.le_refl _), List.length_set, List.length_set, Nat.sub_self]; rfl
theorem BldN.byte {τ Y' : Store} {r : Nat} (b : UInt8) (h : BldN τ Y' r []) : ∃ Y2, ACallsTo TC 82 [.ptr r 0 0, .int .u8 b.toNat] Y' .any Y2 /\ BldN τ Y2 r [b] := by
  obtain ⟨h1, ⟨news, rfl⟩, ⟨_, h2⟩ | ⟨e, _⟩⟩ := h
  · refine ⟨_, ziy _ r b h2, h1, ⟨_, by rw [z8u _ h1, List.append_assoc]⟩, .inr ⟨by simp, (τ ++ news).length, by simp, ?_, ?_, ?_⟩⟩
    · have := slen h2; omega
    · rw [List.getElem?_append_left (by rw [List.length_set]; exact slen h2), List.getElem?_set_self (slen h2)]; rfl
    · rw [List.getElem?_append_right (by rw [List.length_set]; exact Nat.le_refl _), List.length_set, Nat.sub_self]; rfl
  · exact absurd rfl e
theorem BldN.string {τ Y' : Store} {r : Nat} {s : List UInt8} (h : BldN τ Y' r s) (h0 : s ≠ []) (hl : s.length <= 1073741824) :
    ∃ news, ACallsTo TC 80 [.ptr r 0 0] Y' (.str s) (τ ++ news) := by
  obtain ⟨h1, ⟨news, rfl⟩, ⟨rfl, h2⟩ | ⟨e, rb, h3, h4, h5, h6⟩⟩ := h
  · exact absurd rfl h0
  · have := zav _ r rb s h0 hl h5 h6
    rw [z8u _ h3] at this
    exact ⟨_, this⟩
end Am
end Go.Proofs.YtjgljhbmljgaeaaDoor
end
section
/- Codec: contracts: the program's list. -/
namespace Go.Proofs.YtjgljhbmljgaeaaDoor
namespace Am
attribute [local irreducible] ACallsTo ACallsP
theorem z6a (Y : Store) (h : Hash) : ACallsTo TC 62 [.agg (hc h)] Y (.str h.1) Y := z88 Y h.1 h.2
end Am
end Go.Proofs.YtjgljhbmljgaeaaDoor
end
section
/- Lamport: contracts: shown, Leaf. -/
namespace Go.Proofs.YtjgljhbmljgaeaaDoor
namespace Am
attribute [local irreducible] ACallsTo ACallsP
def z6j (s : List UInt8) : Hash := shaH (3 :: s)
def z2p (hs : List Hash) : Hash := if hs.length = 512 then shaH (4 :: catS hs) else zeroH
theorem zbf (h : Hash) : h.1 ≠ [] := fun e => by have := h.2; rw [e] at this; simp at this
theorem z3d {k : Nat} (h : Hash) : RL k (.agg (hc h)) := by simp only [RL]; exact za5 h
theorem z9v : hc zeroH = [.int .u8 0, .int .u8 0, .int .u8 0, .int .u8 0, .int .u8 0, .int .u8 0, .int .u8 0, .int .u8 0, .int .u8 0, .int .u8 0, .int .u8 0, .int .u8 0, .int .u8 0, .int .u8 0, .int .u8 0, .int .u8 0, .int .u8 0, .int .u8 0, .int .u8 0, .int .u8 0, .int .u8 0, .int .u8 0, .int .u8 0, .int .u8 0, .int .u8 0, .int .u8 0, .int .u8 0, .int .u8 0, .int .u8 0, .int .u8 0, .int .u8 0, .int .u8 0] := rfl
theorem z8v (Y : Store) (s : List UInt8) (h : s.length < 100000000000) : ACallsTo TC 46 [.str s] Y (.agg (hc (shaH s))) Y := z7d Y s h
theorem zgn (Y : Store) (s : List UInt8) (h : s.length < 900000000) : ACallsTo TC 69 [.str s] Y (.agg (hc (shaH s))) Y := z71 Y s h
theorem zh8 (Y : Store) (s : List UInt8) (h : s.length < 1000000) : ACallsTo TC 83 [.str s] Y (.agg (hc (z6j s))) Y := by
  have hS := fun Y => z8v Y (3 :: s) (by simp; omega)
  refine ACallsTo.of_body q15ok (by simp) fun hw _ => ?_
  unfold z6j
  repeat' (first|refine zW.zs ?_|refine zW.zb ?_|refine zW.zc ?_|refine zW.zt rfl ?_|refine zW.zf rfl ?_|(refine zW.zd rfl (fun ht => ?_) (fun ht => ?_)<;>try (exfalso;omega))|((first|refine zW.zr ?_|refine zW.zk ?_|refine zW.ze ?_|refine zW.zq ?_|(apply callW.mk_pu; (first | exact (fun _ => hS _))) | (apply callW.za; (first | exact (hS _))) | ((first|apply zg0|apply zg1|apply zg2|apply zg3|apply zg4|apply zg5|apply zg6|apply zg7)<;>intro ht));all_goals try simp (disch:=first|omega|(simp only [lens,z6,z7,List.length_reverse,z13,zn,List.length_drop];first|done|omega)) only [go_sem,reduceEqDiff,Nat.reduceBEq,reduceAdd,reduceMul,reduceSub,reduceLeDiff,reduceToNat,reducePow]))
  exact DownV.pure hw (z3d _)
set_option maxHeartbeats 4000000 in
theorem zdh (Y : Store) (hs : List Hash) (x : AV) (hx : SlV 32 (hr hs) x) (hl : hs.length < 1000000) : ACallsTo TC 64 [x] Y (.agg (hc (z2p hs))) Y := by
  refine ACallsTo.of_body qzok (by simp) fun hw _ => ?_
  have r1 := hx.len
  rw [z7] at r1
  unfold z1k at r1
  unfold z2p
  by_cases h5 : hs.length = 512
  · rw [if_pos h5]
    have h5' : (hs.length : Int) = 512 := by omega
    have hτ : (Y ++ [some [hc zeroH]]).length = Y.length + 1 := by simp
    have b0 : BldN (Y ++ [some [hc zeroH]]) (Y ++ [some [hc zeroH]] ++ [some [[.bld (Y.length + 1), .bnil]]]) (Y.length + 1) [] := BldN.new (by omega) (by rw [List.getElem?_append_right (by omega)]; simp)
    have out : ∀ {Y' : Store} {s : List UInt8}, BldN (Y ++ [some [hc zeroH]]) Y' (Y.length + 1) s -> Y'[Y.length]? = some (some [hc zeroH]) /\ Ext Y Y' := fun h => by
      obtain ⟨news, rfl⟩ := h.ext
      exact ⟨by simp, ⟨some [hc zeroH] :: news, by simp⟩⟩
    obtain ⟨Y1, w1, b1⟩ : ∃ Y1, ACallsTo TC 82 [.ptr (Y.length + 1) 0 0, .int .u8 4] (Y ++ [some [hc zeroH]] ++ [some [[AV.bld (Y.length + 1), AV.bnil]]]) .any Y1 /\ BldN (Y ++ [some [hc zeroH]]) Y1 (Y.length + 1) [4] := b0.byte 4
    rw [List.append_assoc, z9v] at w1
    repeat' (first|refine zW.zs ?_|refine zW.zb ?_|refine zW.zc ?_|refine zW.zt rfl ?_|refine zW.zf rfl ?_|(refine zW.zd rfl (fun ht => ?_) (fun ht => ?_)<;>try (exfalso;omega))|((first|refine zW.zr ?_|refine zW.zk ?_|refine zW.ze ?_|refine zW.zq ?_|(apply callW.mk_pu; (first | exact (fun _ => w1))) | (apply callW.za; (first | exact (w1))) | ((first|apply zg0|apply zg1|apply zg2|apply zg3|apply zg4|apply zg5|apply zg6|apply zg7)<;>intro ht));all_goals try simp (disch:=first|omega|(simp only [lens,z6,z7,List.length_reverse,z13,zn,List.length_drop];first|done|omega)) only [go_sem,reduceEqDiff,Nat.reduceBEq,reduceAdd,reduceMul,reduceSub,reduceLeDiff,reduceToNat,reducePow, r1, h5']))
    refine zW.loop (fun m O Y' => ∃ i : Nat, m + i = hs.length /\ BldN (Y ++ [some [hc zeroH]]) Y' (Y.length + 1) (4 :: catS (hs.take i)) /\ O 2 = .ptr Y.length 0 0 /\ O 3 = .ptr (Y.length + 1) 0 0 /\ O 11 = x /\ O 12 = .int .i64 512 /\ O 13 = .int .i64 i) hs.length ?_ ?_
    · exact ⟨0, by omega, by simpa [catS] using b1, by simp (disch:=first|omega|(simp only [lens,z6,z7,List.length_reverse,z13,zn,List.length_drop];first|done|omega)) only [go_sem,reduceEqDiff,Nat.reduceBEq,reduceAdd,reduceMul,reduceSub,reduceLeDiff,reduceToNat,reducePow], by simp (disch:=first|omega|(simp only [lens,z6,z7,List.length_reverse,z13,zn,List.length_drop];first|done|omega)) only [go_sem,reduceEqDiff,Nat.reduceBEq,reduceAdd,reduceMul,reduceSub,reduceLeDiff,reduceToNat,reducePow], by simp (disch:=first|omega|(simp only [lens,z6,z7,List.length_reverse,z13,zn,List.length_drop];first|done|omega)) only [go_sem,reduceEqDiff,Nat.reduceBEq,reduceAdd,reduceMul,reduceSub,reduceLeDiff,reduceToNat,reducePow], by simp (disch:=first|omega|(simp only [lens,z6,z7,List.length_reverse,z13,zn,List.length_drop];first|done|omega)) only [go_sem,reduceEqDiff,Nat.reduceBEq,reduceAdd,reduceMul,reduceSub,reduceLeDiff,reduceToNat,reducePow], by simp (disch:=first|omega|(simp only [lens,z6,z7,List.length_reverse,z13,zn,List.length_drop];first|done|omega)) only [go_sem,reduceEqDiff,Nat.reduceBEq,reduceAdd,reduceMul,reduceSub,reduceLeDiff,reduceToNat,reducePow]; rfl⟩
    · clear w1 b1 b0
      rintro m O Y' ⟨i, hm, hB, q2, q3, q11, q12, q13⟩
      have hcl := zb2 (hs.take i)
      rw [List.length_take] at hcl
      by_cases hi : i < hs.length
      · obtain ⟨e1, rfl⟩ := hx.vsl (by rw [z7]; omega)
        have hH := fun Y => z6a Y (hd hs i)
        have hst := zk7 hi
        have h32 := (hd hs i).2
        obtain ⟨Y2, w2, b2⟩ := (hB.more [some [hc (hd hs i)]]).write (t := (hd hs i).1) (zbf _) (by simp; omega)
        have hi5 : (i : Int) < 512 := by omega
        repeat' (first|refine zW.zs ?_|refine zW.zb ?_|refine zW.zc ?_|refine zW.zt rfl ?_|refine zW.zf rfl ?_|(refine zW.zd rfl (fun ht => ?_) (fun ht => ?_)<;>try (exfalso;omega))|((first|refine zW.zr ?_|refine zW.zk ?_|refine zW.ze ?_|refine zW.zq ?_|(apply callW.mk_pu; (first | exact (fun _ => hH _) | exact (fun _ => w2))) | (apply callW.za; (first | exact (hH _) | exact (w2))) | ((first|apply zg0|apply zg1|apply zg2|apply zg3|apply zg4|apply zg5|apply zg6|apply zg7)<;>intro ht));all_goals try simp (disch:=first|omega|(simp only [lens,z6,z7,List.length_reverse,z13,zn,List.length_drop];first|done|omega)) only [go_sem,reduceEqDiff,Nat.reduceBEq,reduceAdd,reduceMul,reduceSub,reduceLeDiff,reduceToNat,reducePow, q2, q3, q11, q12, q13, hi5]))
        refine ⟨m - 1, by omega, i + 1, by omega, ?_, by simp⟩
        rw [hst, <- List.cons_append]; exact b2
      · have e : hs.take i = hs := List.take_of_length_le (by omega)
        rw [e] at hB
        have hcl2 := zb2 hs
        obtain ⟨c0, he⟩ := out hB
        obtain ⟨news, w3⟩ := hB.string (by simp) (by simp; omega)
        have hi5 : ¬ (i : Int) < 512 := by omega
        have hS := fun Y => z8v Y (4 :: catS hs) (by simp; omega)
        have ha : Y ++ [some [hc zeroH]] ++ news = Y ++ (some [hc zeroH] :: news) := by simp
        rw [ha] at w3
        repeat' (first|refine zW.zs ?_|refine zW.zb ?_|refine zW.zc ?_|refine zW.zt rfl ?_|refine zW.zf rfl ?_|(refine zW.zd rfl (fun ht => ?_) (fun ht => ?_)<;>try (exfalso;omega))|((first|refine zW.zr ?_|refine zW.zk ?_|refine zW.ze ?_|refine zW.zq ?_|(apply callW.mk_pu; (first | exact (fun _ => w3) | exact (fun _ => hS _))) | (apply callW.za; (first | exact (w3) | exact (hS _))) | ((first|apply zg0|apply zg1|apply zg2|apply zg3|apply zg4|apply zg5|apply zg6|apply zg7)<;>intro ht));all_goals try simp (disch:=first|omega|(simp only [lens,z6,z7,List.length_reverse,z13,zn,List.length_drop];first|done|omega)) only [go_sem,reduceEqDiff,Nat.reduceBEq,reduceAdd,reduceMul,reduceSub,reduceLeDiff,reduceToNat,reducePow, q2, q3, q11, q12, q13, hi5]))
        exact DownV.pure hw (z3d _)
  · have h5' : ¬ (hs.length : Int) = 512 := by omega
    rw [if_neg h5]
    repeat' (first|refine zW.zs ?_|refine zW.zb ?_|refine zW.zc ?_|refine zW.zt rfl ?_|refine zW.zf rfl ?_|(refine zW.zd rfl (fun ht => ?_) (fun ht => ?_)<;>try (exfalso;omega))|((first|refine zW.zr ?_|refine zW.zk ?_|refine zW.ze ?_|refine zW.zq ?_|((first|apply zg0|apply zg1|apply zg2|apply zg3|apply zg4|apply zg5|apply zg6|apply zg7)<;>intro ht));all_goals try simp (disch:=first|omega|(simp only [lens,z6,z7,List.length_reverse,z13,zn,List.length_drop];first|done|omega)) only [go_sem,reduceEqDiff,Nat.reduceBEq,reduceAdd,reduceMul,reduceSub,reduceLeDiff,reduceToNat,reducePow, r1, h5']))
    exact DownV.pure hw (z3d zeroH)
end Am
end Go.Proofs.YtjgljhbmljgaeaaDoor
end
section
/- Lamport: contracts: the reference's Leaf. -/
namespace Go.Proofs.YtjgljhbmljgaeaaDoor
namespace Am
attribute [local irreducible] ACallsTo ACallsP
theorem Leaf_h (Y : Store) (hs : List Hash) (x : AV) (hx : RdSl Y 32 (hr hs) x) (hl : hs.length < 1000000) : ACallsTo TC 64 [x] Y (.agg (hc (z2p hs))) Y := by
  obtain ⟨x0, h0, hd⟩ := hx.lend (z2t hs)
  have := ACallsTo.lend glok (zdh [] hs x0 h0 hl) (drs1 hd)
  rwa [show sh Y.length (.agg (hc (z2p hs))) = .agg (hc (z2p hs)) from by simp only [sh, zcv], z7c, List.append_nil] at this
theorem OwnR.appB {k : Nat} {Y' : Store} {v : AV} {es ys : List (List AV)} (h : OwnR 1 k Y' v es) : z3w Y' v ys = aApp Y' 1 v ys := by
  rcases h with ⟨rfl, rfl⟩ | ⟨r, _, _, rfl, h⟩ <;> rfl
end Am
end Go.Proofs.YtjgljhbmljgaeaaDoor
end
section
/- Lamport: contracts: Recover. -/
namespace Go.Proofs.YtjgljhbmljgaeaaDoor
namespace Am
def recS (sig d : List UInt8) (i : Nat) (L : List Hash) : List Hash :=
  (L.set (2 * i + bitS d i) (z6j ((sig.take (32 * i + 32)).drop (32 * i)))).set (2 * i + 1 - bitS d i) (toH ((sig.drop (8192 + 32 * i)).take 32))
def recF (sig d : List UInt8) : Nat -> List Hash
  | 0 => List.replicate 512 zeroH
  | i + 1 => recS sig d i (recF sig d i)
theorem z3r (sig d : List UInt8) : ∀ i, (recF sig d i).length = 512
  | 0 => by rw [recF, List.length_replicate]
  | i + 1 => by rw [recF, recS, List.length_set, List.length_set, z3r sig d i]
theorem z9k (s : List UInt8) (i : Int) : bitS s i <= 1 := by
  unfold bitS
  split <;> omega
def recV (sig d : List UInt8) : AV := if sig.length = 16384 then .tup [.agg (hc (z2p (recF sig d 256))), .int .i64 0] else .tup [.agg (hc zeroH), .int .i64 10]
theorem zfb : List.replicate 512 (hc zeroH) = hr (List.replicate 512 zeroH) := by rw [hr, List.map_replicate]
theorem rl_hi {k : Nat} {h : Hash} {e : Int} : RL k (.tup [.agg (hc h), .int .i64 e]) := by simp only [RL, RLs]; exact ⟨za5 h, trivial, trivial⟩
attribute [local irreducible] ACallsTo ACallsP
set_option maxHeartbeats 8000000 in
theorem ziq (Y : Store) (sig : List UInt8) (dg : Hash) (hs : sig.length < 1000000) : ACallsTo TC 66 [.str sig, .agg (hc dg)] Y (recV sig dg.1) Y := by
  refine ACallsTo.of_body q12ok (by simp) fun hw _ => ?_
  unfold recV
  by_cases hl : sig.length = 16384
  · have hl' : (sig.length : Int) = 16384 := by omega
    rw [if_pos hl]
    have hC := fun Y => z6a Y dg
    have hz := zfb
    rw [z9v] at hz
    repeat' (first|refine zW.zs ?_|refine zW.zb ?_|refine zW.zc ?_|refine zW.zt rfl ?_|refine zW.zf rfl ?_|(refine zW.zd rfl (fun ht => ?_) (fun ht => ?_)<;>try (exfalso;omega))|((first|refine zW.zr ?_|refine zW.zk ?_|refine zW.ze ?_|refine zW.zq ?_|(apply callW.mk_pu; (first | exact (fun _ => hC _))) | (apply callW.za; (first | exact (hC _))) | ((first|apply zg0|apply zg1|apply zg2|apply zg3|apply zg4|apply zg5|apply zg6|apply zg7)<;>intro ht));all_goals try simp (disch:=first|omega|(simp only [lens,z6,z7,List.length_reverse,z13,zn,List.length_drop,z3r];first|done|omega)) only [go_sem,reduceEqDiff,Nat.reduceBEq,reduceAdd,reduceMul,reduceSub,reduceLeDiff,reduceToNat,reducePow, hl', hz]))
    refine zW.loop (fun m O Y' => ∃ i : Nat, m + i = 256 /\ Ext Y Y' /\ Y'[Y.length + 1]? = some (some [hc zeroH]) /\ Y'[Y.length + 2]? = some (some (hr (recF sig dg.1 i))) /\ O 0 = .str sig /\ O 4 = .ptr (Y.length + 1) 0 0 /\ O 6 = .str dg.1 /\ O 7 = .sl (Y.length + 2) 0 512 (some 512) 32 /\ O 19 = .int .i64 i) 256 ?_ ?_
    · exact ⟨0, by omega, (Ext.refl Y).app, by rw [z1n (by omega), Nat.add_sub_cancel_left]; rfl, by rw [z1n (by omega), Nat.add_sub_cancel_left]; rfl, by simp (disch:=first|omega|(simp only [lens,z6,z7,List.length_reverse,z13,zn,List.length_drop,z3r];first|done|omega)) only [go_sem,reduceEqDiff,Nat.reduceBEq,reduceAdd,reduceMul,reduceSub,reduceLeDiff,reduceToNat,reducePow], by simp (disch:=first|omega|(simp only [lens,z6,z7,List.length_reverse,z13,zn,List.length_drop,z3r];first|done|omega)) only [go_sem,reduceEqDiff,Nat.reduceBEq,reduceAdd,reduceMul,reduceSub,reduceLeDiff,reduceToNat,reducePow], by simp (disch:=first|omega|(simp only [lens,z6,z7,List.length_reverse,z13,zn,List.length_drop,z3r];first|done|omega)) only [go_sem,reduceEqDiff,Nat.reduceBEq,reduceAdd,reduceMul,reduceSub,reduceLeDiff,reduceToNat,reducePow], by simp (disch:=first|omega|(simp only [lens,z6,z7,List.length_reverse,z13,zn,List.length_drop,z3r];first|done|omega)) only [go_sem,reduceEqDiff,Nat.reduceBEq,reduceAdd,reduceMul,reduceSub,reduceLeDiff,reduceToNat,reducePow], by simp (disch:=first|omega|(simp only [lens,z6,z7,List.length_reverse,z13,zn,List.length_drop,z3r];first|done|omega)) only [go_sem,reduceEqDiff,Nat.reduceBEq,reduceAdd,reduceMul,reduceSub,reduceLeDiff,reduceToNat,reducePow]; rfl⟩
    · rintro m O Y' ⟨i, hm, he, c1, c2, q0, q4, q6, q7, q19⟩
      have d1 := slen c1
      have d2 := slen c2
      have hrl := z3r sig dg.1 i
      by_cases hi : i < 256
      · have hi' : (i : Int) < 256 := by omega
        have hdl := dg.2
        have hB := fun Y => ze4 Y dg.1 i (by omega) (by omega)
        have hb1 := z9k dg.1 i
        have hnx : recF sig dg.1 (i + 1) = recS sig dg.1 i (recF sig dg.1 i) := rfl
        unfold recS at hnx
        have hSh := fun Y => zh8 Y ((sig.take (32 * i + 32)).drop (32 * i)) (by rw [List.length_drop, List.length_take]; omega)
        have hU := fun Y => zkh Y (sig.drop (8192 + 32 * i)) (by rw [List.length_drop]; omega)
        rw [zhu (by rw [List.length_drop]; omega), zhv] at hU
        generalize recF sig dg.1 i = L at *
        generalize bitS dg.1 i = b at *
        generalize z6j ((sig.take (32 * i + 32)).drop (32 * i)) = A at *
        generalize toH ((sig.drop (8192 + 32 * i)).take 32) = B at *
        have n1 : ((i : Int) * 32).toNat = 32 * i := by omega
        have n2 : (((i : Int) + 1) * 32).toNat = 32 * i + 32 := by omega
        have n3 : ((256 + (i : Int)) * 32).toNat = 8192 + 32 * i := by omega
        have n4 : (2 * (i : Int) + b).toNat = 2 * i + b := by omega
        have n5 : (2 * (i : Int) + 1 - b).toNat = 2 * i + 1 - b := by omega
        have m1 : (L.set (2 * i + b) A).length = 512 := by rw [List.length_set]; exact hrl
        have g1 := z9w (l := L) (i := 2 * i + b) (by omega)
        have g2 := z9w (l := L.set (2 * i + b) A) (i := 2 * i + 1 - b) (by omega)
        repeat' (first|refine zW.zs ?_|refine zW.zb ?_|refine zW.zc ?_|refine zW.zt rfl ?_|refine zW.zf rfl ?_|(refine zW.zd rfl (fun ht => ?_) (fun ht => ?_)<;>try (exfalso;omega))|((first|refine zW.zr ?_|refine zW.zk ?_|refine zW.ze ?_|refine zW.zq ?_|(apply callW.mk_pu; (first | exact (fun _ => hB _) | exact (fun _ => hSh _) | exact (fun _ => hU _))) | (apply callW.za; (first | exact (hB _) | exact (hSh _) | exact (hU _))) | ((first|apply zg0|apply zg1|apply zg2|apply zg3|apply zg4|apply zg5|apply zg6|apply zg7)<;>intro ht));all_goals try simp (disch:=first|omega|(simp only [lens,z6,z7,List.length_reverse,z13,zn,List.length_drop,z3r];first|done|omega)) only [go_sem,reduceEqDiff,Nat.reduceBEq,reduceAdd,reduceMul,reduceSub,reduceLeDiff,reduceToNat,reducePow, q0, q4, q6, q7, q19, c1, c2, hi', hl', n1, n2, n3, n4, n5, hrl, m1, g1, g2]))
        exact ⟨m - 1, by omega, i + 1, by omega, he.set (by omega), by rw [hnx], by simp⟩
      · have hi' : ¬ (i : Int) < 256 := by omega
        obtain rfl : i = 256 := by omega
        have hL := fun y => Leaf_h (Y' ++ y) (recF sig dg.1 256) (.sl (Y.length + 2) 0 512 (some 512) 32) (.inr ⟨Y.length + 2, 0, some 512, hr (recF sig dg.1 256), by rw [z7, hrl], by rw [gapp d2]; exact c2, by rw [z7, hrl]; decide, by rw [List.drop_zero, List.take_of_length_le (Nat.le_refl _)]⟩) (by omega)
        have hL0 := hL []
        rw [List.append_nil] at hL0
        repeat' (first|refine zW.zs ?_|refine zW.zb ?_|refine zW.zc ?_|refine zW.zt rfl ?_|refine zW.zf rfl ?_|(refine zW.zd rfl (fun ht => ?_) (fun ht => ?_)<;>try (exfalso;omega))|((first|refine zW.zr ?_|refine zW.zk ?_|refine zW.ze ?_|refine zW.zq ?_|(apply callW.mk_pu; (first | exact (fun _ => hL0))) | (apply callW.za; (first | exact (hL0))) | ((first|apply zg0|apply zg1|apply zg2|apply zg3|apply zg4|apply zg5|apply zg6|apply zg7)<;>intro ht));all_goals try simp (disch:=first|omega|(simp only [lens,z6,z7,List.length_reverse,z13,zn,List.length_drop,z3r];first|done|omega)) only [go_sem,reduceEqDiff,Nat.reduceBEq,reduceAdd,reduceMul,reduceSub,reduceLeDiff,reduceToNat,reducePow, q0, q4, q6, q7, q19, c1, c2, hi']))
        exact Ext.pure hw (he.set (by omega)) rl_hi
  · have hl' : ¬ (sig.length : Int) = 16384 := by omega
    rw [if_neg hl]
    repeat' (first|refine zW.zs ?_|refine zW.zb ?_|refine zW.zc ?_|refine zW.zt rfl ?_|refine zW.zf rfl ?_|(refine zW.zd rfl (fun ht => ?_) (fun ht => ?_)<;>try (exfalso;omega))|((first|refine zW.zr ?_|refine zW.zk ?_|refine zW.ze ?_|refine zW.zq ?_|((first|apply zg0|apply zg1|apply zg2|apply zg3|apply zg4|apply zg5|apply zg6|apply zg7)<;>intro ht));all_goals try simp (disch:=first|omega|(simp only [lens,z6,z7,List.length_reverse,z13,zn,List.length_drop,z3r];first|done|omega)) only [go_sem,reduceEqDiff,Nat.reduceBEq,reduceAdd,reduceMul,reduceSub,reduceLeDiff,reduceToNat,reducePow, hl']))
    exact DownV.pure hw (rl_hi (h := zeroH))
end Am
end Go.Proofs.YtjgljhbmljgaeaaDoor
end
section
/- Paths: Check: plain, and the program's contract. -/
namespace Go.Proofs.YtjgljhbmljgaeaaDoor
namespace Am
def z26 : Nat -> Nat -> Nat -> Nat × Nat
  | 0, i, l => (i, l)
  | f + 1, i, l => if i % 2 = 0 /\ 0 < i then z26 f (i / 2) (l / 2) else (i, l)
/-- What is come to, what is left of the last one's number, how many were used. -/
def z21 : List Hash -> Hash -> Nat -> Nat -> Hash × Nat × Nat
  | [], h, _, l => (h, l, 0)
  | p :: ps, h, i, l => if l = 0 then (h, 0, 0) else
    if i % 2 = 1 \/ i = l then let r := z21 ps (zx p h) ((z26 13 i l).1 / 2) ((z26 13 i l).2 / 2); (r.1, r.2.1, r.2.2 + 1)
    else let r := z21 ps (zx h p) (i / 2) (l / 2); (r.1, r.2.1, r.2.2 + 1)
def z2o (r : Hash × Nat × Nat) (root : Hash) (len : Nat) : Int := if r.2.1 ≠ 0 \/ r.2.2 ≠ len \/ r.1 ≠ root then 80 else 0
def chkP (leaf : Hash) (i n : Int) (path : List Hash) (root : Hash) : Int :=
  if n < 1 \/ 4096 < n \/ i < 0 \/ n <= i then 2 else z2o (z21 path leaf i.toNat (n.toNat - 1)) root path.length
theorem zhi {f i l : Nat} (h : ¬ (i % 2 = 0 /\ 0 < i)) : z26 f i l = (i, l) := by
  cases f with
  | zero => rfl
  | succ f => rw [z26, if_neg h]
attribute [local irreducible] ACallsTo ACallsP
set_option maxHeartbeats 16000000 in
theorem zi9 (Y : Store) (leaf : Hash) (i n : Int) (path : List Hash) (x : AV) (root : Hash) (hx : SlV 32 (hr path) x) (hl : path.length < 1000000) (hi : -9223372036854775808 <= i /\ i <= 9223372036854775807) (hn : -9223372036854775808 <= n /\ n <= 9223372036854775807) :
    ACallsTo TC 36 [.agg (hc leaf), .int .i64 i, .int .i64 n, x, .agg (hc root)] Y (.int .i64 (chkP leaf i n path root)) Y := by
  have r1 := hx.len
  rw [z7] at r1
  unfold z1k at r1
  unfold chkP
  by_cases hb : n < 1 \/ 4096 < n \/ i < 0 \/ n <= i
  · rw [if_pos hb]
    refine ACallsTo.of_body qxok (by simp) fun hw _ => ?_
    repeat' (first|refine zW.zs ?_|refine zW.zb ?_|refine zW.zc ?_|refine zW.zt rfl ?_|refine zW.zf rfl ?_|(refine zW.zd rfl (fun ht => ?_) (fun ht => ?_)<;>try (exfalso;omega))|((first|refine zW.zr ?_|refine zW.zk ?_|refine zW.ze ?_|refine zW.zq ?_|((first|apply zg0|apply zg1|apply zg2|apply zg3|apply zg4|apply zg5|apply zg6|apply zg7)<;>intro ht));all_goals try simp (disch:=first|omega|(simp only [lens,z6,z7,List.length_reverse,List.length_drop];first|done|omega)) only [go_sem,reduceEqDiff,Nat.reduceBEq,reduceAdd,reduceMul,reduceSub,reduceLeDiff,reduceToNat,reducePow, r1]))
    all_goals exact DownV.pure hw (zz _ rfl)
  · rw [if_neg hb]
    obtain ⟨i, rfl⟩ : ∃ k : Nat, i = k := ⟨i.toNat, by omega⟩
    obtain ⟨l, rfl⟩ : ∃ l : Nat, n = ((l + 1 : Nat) : Int) := ⟨n.toNat - 1, by omega⟩
    rw [Int.toNat_natCast, Int.toNat_natCast, Nat.add_sub_cancel]
    have hl1 : ((l + 1 : Nat) : Int) - 1 = (l : Int) := by omega
    refine ACallsTo.of_body qxok (by simp) fun hw _ => ?_
    repeat' (first|refine zW.zs ?_|refine zW.zb ?_|refine zW.zc ?_|refine zW.zt rfl ?_|refine zW.zf rfl ?_|(refine zW.zd rfl (fun ht => ?_) (fun ht => ?_)<;>try (exfalso;omega))|((first|refine zW.zr ?_|refine zW.zk ?_|refine zW.ze ?_|refine zW.zq ?_|((first|apply zg0|apply zg1|apply zg2|apply zg3|apply zg4|apply zg5|apply zg6|apply zg7)<;>intro ht));all_goals try simp (disch:=first|omega|(simp only [lens,z6,z7,List.length_reverse,List.length_drop];first|done|omega)) only [go_sem,reduceEqDiff,Nat.reduceBEq,reduceAdd,reduceMul,reduceSub,reduceLeDiff,reduceToNat,reducePow, r1, hl1]))
    obtain ⟨R, hR⟩ : ∃ R, z21 path leaf i l = R := ⟨_, rfl⟩
    rw [hR]
    refine zW.loop (fun m O Y' => ∃ (k i' l' : Nat) (h : Hash), m + k = path.length /\ Ext Y Y' /\ i' <= l' /\ l' < 4096 /\ R = ((z21 (path.drop k) h i' l').1, (z21 (path.drop k) h i' l').2.1, (z21 (path.drop k) h i' l').2.2 + k) /\ Y'[Y.length]? = some (some [hc h]) /\ Y'[Y.length + 1]? = some (some [hc root]) ∧
      O 1 = .int .i64 i' /\ O 3 = x /\ O 5 = .ptr Y.length 0 0 /\ O 9 = .ptr (Y.length + 1) 0 0 /\ O 11 = .int .i64 l' /\ O 12 = .int .i64 k /\ O 32 = x /\ O 33 = .int .i64 path.length /\ O 34 = .int .i64 k) path.length ?_ ?_
    · exact ⟨0, i, l, leaf, by omega, (Ext.refl Y).app, by omega, by omega, by rw [List.drop_zero, hR]; rfl, by simp, by simp, by simp (disch:=first|omega|(simp only [lens,z6,z7,List.length_reverse,List.length_drop];first|done|omega)) only [go_sem,reduceEqDiff,Nat.reduceBEq,reduceAdd,reduceMul,reduceSub,reduceLeDiff,reduceToNat,reducePow], by simp (disch:=first|omega|(simp only [lens,z6,z7,List.length_reverse,List.length_drop];first|done|omega)) only [go_sem,reduceEqDiff,Nat.reduceBEq,reduceAdd,reduceMul,reduceSub,reduceLeDiff,reduceToNat,reducePow], by simp (disch:=first|omega|(simp only [lens,z6,z7,List.length_reverse,List.length_drop];first|done|omega)) only [go_sem,reduceEqDiff,Nat.reduceBEq,reduceAdd,reduceMul,reduceSub,reduceLeDiff,reduceToNat,reducePow], by simp (disch:=first|omega|(simp only [lens,z6,z7,List.length_reverse,List.length_drop];first|done|omega)) only [go_sem,reduceEqDiff,Nat.reduceBEq,reduceAdd,reduceMul,reduceSub,reduceLeDiff,reduceToNat,reducePow], by simp (disch:=first|omega|(simp only [lens,z6,z7,List.length_reverse,List.length_drop];first|done|omega)) only [go_sem,reduceEqDiff,Nat.reduceBEq,reduceAdd,reduceMul,reduceSub,reduceLeDiff,reduceToNat,reducePow], by simp (disch:=first|omega|(simp only [lens,z6,z7,List.length_reverse,List.length_drop];first|done|omega)) only [go_sem,reduceEqDiff,Nat.reduceBEq,reduceAdd,reduceMul,reduceSub,reduceLeDiff,reduceToNat,reducePow]; rfl, by simp (disch:=first|omega|(simp only [lens,z6,z7,List.length_reverse,List.length_drop];first|done|omega)) only [go_sem,reduceEqDiff,Nat.reduceBEq,reduceAdd,reduceMul,reduceSub,reduceLeDiff,reduceToNat,reducePow], by simp (disch:=first|omega|(simp only [lens,z6,z7,List.length_reverse,List.length_drop];first|done|omega)) only [go_sem,reduceEqDiff,Nat.reduceBEq,reduceAdd,reduceMul,reduceSub,reduceLeDiff,reduceToNat,reducePow, r1], by simp (disch:=first|omega|(simp only [lens,z6,z7,List.length_reverse,List.length_drop];first|done|omega)) only [go_sem,reduceEqDiff,Nat.reduceBEq,reduceAdd,reduceMul,reduceSub,reduceLeDiff,reduceToNat,reducePow]; rfl⟩
    · clear hR
      rintro m O Y' ⟨k, i', l', h, hm, he, hil, hl4, hR, c0, c1, q1, q3, q5, q9, q11, q12, q32, q33, q34⟩
      have d0 := slen c0
      have d1 := slen c1
      by_cases hk : k < path.length
      · have hdr : path.drop k = hd path k :: path.drop (k + 1) := by
          rw [List.drop_eq_getElem_cons hk, z8g hk]
        rw [hdr] at hR
        obtain ⟨ex, rfl⟩ := hx.vsl (by rw [z7]; omega)
        by_cases hl0 : l' = 0
        · subst hl0
          simp only [z21, if_true] at hR
          subst hR
          repeat' (first|refine zW.zs ?_|refine zW.zb ?_|refine zW.zc ?_|refine zW.zt rfl ?_|refine zW.zf rfl ?_|(refine zW.zd rfl (fun ht => ?_) (fun ht => ?_)<;>try (exfalso;omega))|((first|refine zW.zr ?_|refine zW.zk ?_|refine zW.ze ?_|refine zW.zq ?_|((first|apply zg0|apply zg1|apply zg2|apply zg3|apply zg4|apply zg5|apply zg6|apply zg7)<;>intro ht));all_goals try simp (disch:=first|omega|(simp only [lens,z6,z7,List.length_reverse,List.length_drop];first|done|omega)) only [go_sem,reduceEqDiff,Nat.reduceBEq,reduceAdd,reduceMul,reduceSub,reduceLeDiff,reduceToNat,reducePow, q1, q3, q5, q9, q11, q12, q32, q33, q34, c0, c1]))
          have hE : z2o (h, 0, 0 + k) root path.length = 80 := by
            unfold z2o
            rw [if_pos (.inr (.inl (by show 0 + k ≠ _; omega)))]
          rw [Nat.zero_add] at hE
          rw [hE]
          exact Ext.pure hw he.app (zz _ rfl)
        · have hl0' : ¬ (l' : Int) = 0 := by omega
          have t1 : (i' : Int) / 2 = ((i' / 2 : Nat) : Int) := by simp
          have t2 : (l' : Int) / 2 = ((l' / 2 : Nat) : Int) := by simp
          by_cases hcc : i' % 2 = 1 \/ i' = l'
          · simp only [z21] at hR
            rw [if_neg hl0, if_pos hcc] at hR
            have hN := fun Y => zhq Y (hd path k) h
            generalize zx (hd path k) h = h2 at *
            rcases Nat.mod_two_eq_zero_or_one i' with hp | hp
            · have hp' : (i' : Int) % 2 = 0 := by omega
              have hil2 : (i' : Int) = l' := by omega
              have hil3 : i' = l' := by omega
              repeat' (first|refine zW.zs ?_|refine zW.zb ?_|refine zW.zc ?_|refine zW.zt rfl ?_|refine zW.zf rfl ?_|(refine zW.zd rfl (fun ht => ?_) (fun ht => ?_)<;>try (exfalso;omega))|((first|refine zW.zr ?_|refine zW.zk ?_|refine zW.ze ?_|refine zW.zq ?_|(apply callW.mk_pu; (first | exact (fun _ => hN _))) | (apply callW.za; (first | exact (hN _))) | ((first|apply zg0|apply zg1|apply zg2|apply zg3|apply zg4|apply zg5|apply zg6|apply zg7)<;>intro ht));all_goals try simp (disch:=first|omega|(simp only [lens,z6,z7,List.length_reverse,List.length_drop];first|done|omega)) only [go_sem,reduceEqDiff,Nat.reduceBEq,reduceAdd,reduceMul,reduceSub,reduceLeDiff,reduceToNat,reducePow, q1, q3, q5, q9, q11, q12, q32, q33, q34, c0, c1, hl0', hp', hil2]))
              refine zW.loop (fun m2 O2 Y2 => ∃ (i2 l2 f : Nat), m2 = i2 /\ Y2 = Y'.set Y.length (some [hc h2]) ++ [some [hc (hd path k)]] /\ z26 f i2 l2 = z26 13 i' l' /\ i2 < 2 ^ f /\ i2 <= l2 /\ l2 <= l' /\ O2 1 = .int .i64 i2 /\ O2 3 = .vsl 32 (hr path) ex /\ O2 5 = .ptr Y.length 0 0 /\ O2 9 = .ptr (Y.length + 1) 0 0 /\ O2 11 = .int .i64 l2 /\ O2 12 = .int .i64 k /\ O2 32 = .vsl 32 (hr path) ex /\ O2 33 = .int .i64 path.length /\ O2 34 = .int .i64 k) i' ?_ ?_
              · exact ⟨i', l', 13, rfl, rfl, rfl, by omega, hil, Nat.le_refl _, by simp (disch:=first|omega|(simp only [lens,z6,z7,List.length_reverse,List.length_drop];first|done|omega)) only [go_sem,reduceEqDiff,Nat.reduceBEq,reduceAdd,reduceMul,reduceSub,reduceLeDiff,reduceToNat,reducePow, q1], by simp (disch:=first|omega|(simp only [lens,z6,z7,List.length_reverse,List.length_drop];first|done|omega)) only [go_sem,reduceEqDiff,Nat.reduceBEq,reduceAdd,reduceMul,reduceSub,reduceLeDiff,reduceToNat,reducePow, q3], by simp (disch:=first|omega|(simp only [lens,z6,z7,List.length_reverse,List.length_drop];first|done|omega)) only [go_sem,reduceEqDiff,Nat.reduceBEq,reduceAdd,reduceMul,reduceSub,reduceLeDiff,reduceToNat,reducePow, q5], by simp (disch:=first|omega|(simp only [lens,z6,z7,List.length_reverse,List.length_drop];first|done|omega)) only [go_sem,reduceEqDiff,Nat.reduceBEq,reduceAdd,reduceMul,reduceSub,reduceLeDiff,reduceToNat,reducePow, q9], by simp (disch:=first|omega|(simp only [lens,z6,z7,List.length_reverse,List.length_drop];first|done|omega)) only [go_sem,reduceEqDiff,Nat.reduceBEq,reduceAdd,reduceMul,reduceSub,reduceLeDiff,reduceToNat,reducePow, q11], by simp (disch:=first|omega|(simp only [lens,z6,z7,List.length_reverse,List.length_drop];first|done|omega)) only [go_sem,reduceEqDiff,Nat.reduceBEq,reduceAdd,reduceMul,reduceSub,reduceLeDiff,reduceToNat,reducePow, q12], by simp (disch:=first|omega|(simp only [lens,z6,z7,List.length_reverse,List.length_drop];first|done|omega)) only [go_sem,reduceEqDiff,Nat.reduceBEq,reduceAdd,reduceMul,reduceSub,reduceLeDiff,reduceToNat,reducePow, q32], by simp (disch:=first|omega|(simp only [lens,z6,z7,List.length_reverse,List.length_drop];first|done|omega)) only [go_sem,reduceEqDiff,Nat.reduceBEq,reduceAdd,reduceMul,reduceSub,reduceLeDiff,reduceToNat,reducePow, q33], by simp (disch:=first|omega|(simp only [lens,z6,z7,List.length_reverse,List.length_drop];first|done|omega)) only [go_sem,reduceEqDiff,Nat.reduceBEq,reduceAdd,reduceMul,reduceSub,reduceLeDiff,reduceToNat,reducePow, q34]⟩
              · rintro m2 O2 Y2 ⟨i2, l2, f, rfl, rfl, hst, hf, hil2, hll, p1, p3, p5, p9, p11, p12, p32, p33, p34⟩
                have t3 : (m2 : Int) / 2 = ((m2 / 2 : Nat) : Int) := by simp
                have t4 : (l2 : Int) / 2 = ((l2 / 2 : Nat) : Int) := by simp
                clear q1 q3 q5 q9 q11 q12 q32 q33 q34
                by_cases hc2 : m2 % 2 = 0 /\ 0 < m2
                · have u1 : (m2 : Int) % 2 = 0 := by omega
                  have u2 : (m2 : Int) > 0 := by omega
                  cases f with
                  | zero => simp at hf; omega
                  | succ f =>
                    rw [z26, if_pos hc2] at hst
                    rw [Nat.pow_succ] at hf
                    repeat' (first|refine zW.zs ?_|refine zW.zb ?_|refine zW.zc ?_|refine zW.zt rfl ?_|refine zW.zf rfl ?_|(refine zW.zd rfl (fun ht => ?_) (fun ht => ?_)<;>try (exfalso;omega))|((first|refine zW.zr ?_|refine zW.zk ?_|refine zW.ze ?_|refine zW.zq ?_|((first|apply zg0|apply zg1|apply zg2|apply zg3|apply zg4|apply zg5|apply zg6|apply zg7)<;>intro ht));all_goals try simp (disch:=first|omega|(simp only [lens,z6,z7,List.length_reverse,List.length_drop];first|done|omega)) only [go_sem,reduceEqDiff,Nat.reduceBEq,reduceAdd,reduceMul,reduceSub,reduceLeDiff,reduceToNat,reducePow, p1, p3, p5, p9, p11, p12, p32, p33, p34, u1, u2, t3, t4]))
                    exact ⟨m2 / 2, by omega, m2 / 2, l2 / 2, f, rfl, hst, by omega, by omega, by omega, by simp⟩
                · rw [zhi hc2] at hst
                  rw [<- hst] at hR
                  rcases Nat.eq_zero_or_pos m2 with hz | hz
                  · subst hz
                    repeat' (first|refine zW.zs ?_|refine zW.zb ?_|refine zW.zc ?_|refine zW.zt rfl ?_|refine zW.zf rfl ?_|(refine zW.zd rfl (fun ht => ?_) (fun ht => ?_)<;>try (exfalso;omega))|((first|refine zW.zr ?_|refine zW.zk ?_|refine zW.ze ?_|refine zW.zq ?_|((first|apply zg0|apply zg1|apply zg2|apply zg3|apply zg4|apply zg5|apply zg6|apply zg7)<;>intro ht));all_goals try simp (disch:=first|omega|(simp only [lens,z6,z7,List.length_reverse,List.length_drop];first|done|omega)) only [go_sem,reduceEqDiff,Nat.reduceBEq,reduceAdd,reduceMul,reduceSub,reduceLeDiff,reduceToNat,reducePow, p1, p3, p5, p9, p11, p12, p32, p33, p34, t3, t4]))
                    exact ⟨m - 1, by omega, k + 1, 0, l2 / 2, h2, by omega, (he.set (by omega)).app, by omega, by omega, by rw [hR]; simp [Nat.add_assoc, Nat.add_comm 1 k], by simp [c1]⟩
                  · have u1 : ¬ (m2 : Int) % 2 = 0 := by omega
                    repeat' (first|refine zW.zs ?_|refine zW.zb ?_|refine zW.zc ?_|refine zW.zt rfl ?_|refine zW.zf rfl ?_|(refine zW.zd rfl (fun ht => ?_) (fun ht => ?_)<;>try (exfalso;omega))|((first|refine zW.zr ?_|refine zW.zk ?_|refine zW.ze ?_|refine zW.zq ?_|((first|apply zg0|apply zg1|apply zg2|apply zg3|apply zg4|apply zg5|apply zg6|apply zg7)<;>intro ht));all_goals try simp (disch:=first|omega|(simp only [lens,z6,z7,List.length_reverse,List.length_drop];first|done|omega)) only [go_sem,reduceEqDiff,Nat.reduceBEq,reduceAdd,reduceMul,reduceSub,reduceLeDiff,reduceToNat,reducePow, p1, p3, p5, p9, p11, p12, p32, p33, p34, u1, t3, t4]))
                    exact ⟨m - 1, by omega, k + 1, m2 / 2, l2 / 2, h2, by omega, (he.set (by omega)).app, by omega, by omega, by rw [hR]; simp [Nat.add_assoc, Nat.add_comm 1 k], by simp [c1]⟩
            · have hp' : (i' : Int) % 2 = 1 := by omega
              repeat' (first|refine zW.zs ?_|refine zW.zb ?_|refine zW.zc ?_|refine zW.zt rfl ?_|refine zW.zf rfl ?_|(refine zW.zd rfl (fun ht => ?_) (fun ht => ?_)<;>try (exfalso;omega))|((first|refine zW.zr ?_|refine zW.zk ?_|refine zW.ze ?_|refine zW.zq ?_|(apply callW.mk_pu; (first | exact (fun _ => hN _))) | (apply callW.za; (first | exact (hN _))) | ((first|apply zg0|apply zg1|apply zg2|apply zg3|apply zg4|apply zg5|apply zg6|apply zg7)<;>intro ht));all_goals try simp (disch:=first|omega|(simp only [lens,z6,z7,List.length_reverse,List.length_drop];first|done|omega)) only [go_sem,reduceEqDiff,Nat.reduceBEq,reduceAdd,reduceMul,reduceSub,reduceLeDiff,reduceToNat,reducePow, q1, q3, q5, q9, q11, q12, q32, q33, q34, c0, c1, hl0', hp']))
              refine zW.loop (fun m2 O2 Y2 => ∃ (i2 l2 f : Nat), m2 = i2 /\ Y2 = Y'.set Y.length (some [hc h2]) ++ [some [hc (hd path k)]] /\ z26 f i2 l2 = z26 13 i' l' /\ i2 < 2 ^ f /\ i2 <= l2 /\ l2 <= l' /\ O2 1 = .int .i64 i2 /\ O2 3 = .vsl 32 (hr path) ex /\ O2 5 = .ptr Y.length 0 0 /\ O2 9 = .ptr (Y.length + 1) 0 0 /\ O2 11 = .int .i64 l2 /\ O2 12 = .int .i64 k /\ O2 32 = .vsl 32 (hr path) ex /\ O2 33 = .int .i64 path.length /\ O2 34 = .int .i64 k) i' ?_ ?_
              · exact ⟨i', l', 13, rfl, rfl, rfl, by omega, hil, Nat.le_refl _, by simp (disch:=first|omega|(simp only [lens,z6,z7,List.length_reverse,List.length_drop];first|done|omega)) only [go_sem,reduceEqDiff,Nat.reduceBEq,reduceAdd,reduceMul,reduceSub,reduceLeDiff,reduceToNat,reducePow, q1], by simp (disch:=first|omega|(simp only [lens,z6,z7,List.length_reverse,List.length_drop];first|done|omega)) only [go_sem,reduceEqDiff,Nat.reduceBEq,reduceAdd,reduceMul,reduceSub,reduceLeDiff,reduceToNat,reducePow, q3], by simp (disch:=first|omega|(simp only [lens,z6,z7,List.length_reverse,List.length_drop];first|done|omega)) only [go_sem,reduceEqDiff,Nat.reduceBEq,reduceAdd,reduceMul,reduceSub,reduceLeDiff,reduceToNat,reducePow, q5], by simp (disch:=first|omega|(simp only [lens,z6,z7,List.length_reverse,List.length_drop];first|done|omega)) only [go_sem,reduceEqDiff,Nat.reduceBEq,reduceAdd,reduceMul,reduceSub,reduceLeDiff,reduceToNat,reducePow, q9], by simp (disch:=first|omega|(simp only [lens,z6,z7,List.length_reverse,List.length_drop];first|done|omega)) only [go_sem,reduceEqDiff,Nat.reduceBEq,reduceAdd,reduceMul,reduceSub,reduceLeDiff,reduceToNat,reducePow, q11], by simp (disch:=first|omega|(simp only [lens,z6,z7,List.length_reverse,List.length_drop];first|done|omega)) only [go_sem,reduceEqDiff,Nat.reduceBEq,reduceAdd,reduceMul,reduceSub,reduceLeDiff,reduceToNat,reducePow, q12], by simp (disch:=first|omega|(simp only [lens,z6,z7,List.length_reverse,List.length_drop];first|done|omega)) only [go_sem,reduceEqDiff,Nat.reduceBEq,reduceAdd,reduceMul,reduceSub,reduceLeDiff,reduceToNat,reducePow, q32], by simp (disch:=first|omega|(simp only [lens,z6,z7,List.length_reverse,List.length_drop];first|done|omega)) only [go_sem,reduceEqDiff,Nat.reduceBEq,reduceAdd,reduceMul,reduceSub,reduceLeDiff,reduceToNat,reducePow, q33], by simp (disch:=first|omega|(simp only [lens,z6,z7,List.length_reverse,List.length_drop];first|done|omega)) only [go_sem,reduceEqDiff,Nat.reduceBEq,reduceAdd,reduceMul,reduceSub,reduceLeDiff,reduceToNat,reducePow, q34]⟩
              · rintro m2 O2 Y2 ⟨i2, l2, f, rfl, rfl, hst, hf, hil2, hll, p1, p3, p5, p9, p11, p12, p32, p33, p34⟩
                have t3 : (m2 : Int) / 2 = ((m2 / 2 : Nat) : Int) := by simp
                have t4 : (l2 : Int) / 2 = ((l2 / 2 : Nat) : Int) := by simp
                clear q1 q3 q5 q9 q11 q12 q32 q33 q34
                by_cases hc2 : m2 % 2 = 0 /\ 0 < m2
                · have u1 : (m2 : Int) % 2 = 0 := by omega
                  have u2 : (m2 : Int) > 0 := by omega
                  cases f with
                  | zero => simp at hf; omega
                  | succ f =>
                    rw [z26, if_pos hc2] at hst
                    rw [Nat.pow_succ] at hf
                    repeat' (first|refine zW.zs ?_|refine zW.zb ?_|refine zW.zc ?_|refine zW.zt rfl ?_|refine zW.zf rfl ?_|(refine zW.zd rfl (fun ht => ?_) (fun ht => ?_)<;>try (exfalso;omega))|((first|refine zW.zr ?_|refine zW.zk ?_|refine zW.ze ?_|refine zW.zq ?_|((first|apply zg0|apply zg1|apply zg2|apply zg3|apply zg4|apply zg5|apply zg6|apply zg7)<;>intro ht));all_goals try simp (disch:=first|omega|(simp only [lens,z6,z7,List.length_reverse,List.length_drop];first|done|omega)) only [go_sem,reduceEqDiff,Nat.reduceBEq,reduceAdd,reduceMul,reduceSub,reduceLeDiff,reduceToNat,reducePow, p1, p3, p5, p9, p11, p12, p32, p33, p34, u1, u2, t3, t4]))
                    exact ⟨m2 / 2, by omega, m2 / 2, l2 / 2, f, rfl, hst, by omega, by omega, by omega, by simp⟩
                · rw [zhi hc2] at hst
                  rw [<- hst] at hR
                  rcases Nat.eq_zero_or_pos m2 with hz | hz
                  · subst hz
                    repeat' (first|refine zW.zs ?_|refine zW.zb ?_|refine zW.zc ?_|refine zW.zt rfl ?_|refine zW.zf rfl ?_|(refine zW.zd rfl (fun ht => ?_) (fun ht => ?_)<;>try (exfalso;omega))|((first|refine zW.zr ?_|refine zW.zk ?_|refine zW.ze ?_|refine zW.zq ?_|((first|apply zg0|apply zg1|apply zg2|apply zg3|apply zg4|apply zg5|apply zg6|apply zg7)<;>intro ht));all_goals try simp (disch:=first|omega|(simp only [lens,z6,z7,List.length_reverse,List.length_drop];first|done|omega)) only [go_sem,reduceEqDiff,Nat.reduceBEq,reduceAdd,reduceMul,reduceSub,reduceLeDiff,reduceToNat,reducePow, p1, p3, p5, p9, p11, p12, p32, p33, p34, t3, t4]))
                    exact ⟨m - 1, by omega, k + 1, 0, l2 / 2, h2, by omega, (he.set (by omega)).app, by omega, by omega, by rw [hR]; simp [Nat.add_assoc, Nat.add_comm 1 k], by simp [c1]⟩
                  · have u1 : ¬ (m2 : Int) % 2 = 0 := by omega
                    repeat' (first|refine zW.zs ?_|refine zW.zb ?_|refine zW.zc ?_|refine zW.zt rfl ?_|refine zW.zf rfl ?_|(refine zW.zd rfl (fun ht => ?_) (fun ht => ?_)<;>try (exfalso;omega))|((first|refine zW.zr ?_|refine zW.zk ?_|refine zW.ze ?_|refine zW.zq ?_|((first|apply zg0|apply zg1|apply zg2|apply zg3|apply zg4|apply zg5|apply zg6|apply zg7)<;>intro ht));all_goals try simp (disch:=first|omega|(simp only [lens,z6,z7,List.length_reverse,List.length_drop];first|done|omega)) only [go_sem,reduceEqDiff,Nat.reduceBEq,reduceAdd,reduceMul,reduceSub,reduceLeDiff,reduceToNat,reducePow, p1, p3, p5, p9, p11, p12, p32, p33, p34, u1, t3, t4]))
                    exact ⟨m - 1, by omega, k + 1, m2 / 2, l2 / 2, h2, by omega, (he.set (by omega)).app, by omega, by omega, by rw [hR]; simp [Nat.add_assoc, Nat.add_comm 1 k], by simp [c1]⟩
          · simp only [z21] at hR
            rw [if_neg hl0, if_neg hcc] at hR
            have hN := fun Y => zhq Y h (hd path k)
            generalize zx h (hd path k) = h2 at *
            have hp' : (i' : Int) % 2 = 0 := by omega
            have hne : ¬ (i' : Int) = l' := by omega
            repeat' (first|refine zW.zs ?_|refine zW.zb ?_|refine zW.zc ?_|refine zW.zt rfl ?_|refine zW.zf rfl ?_|(refine zW.zd rfl (fun ht => ?_) (fun ht => ?_)<;>try (exfalso;omega))|((first|refine zW.zr ?_|refine zW.zk ?_|refine zW.ze ?_|refine zW.zq ?_|(apply callW.mk_pu; (first | exact (fun _ => hN _))) | (apply callW.za; (first | exact (hN _))) | ((first|apply zg0|apply zg1|apply zg2|apply zg3|apply zg4|apply zg5|apply zg6|apply zg7)<;>intro ht));all_goals try simp (disch:=first|omega|(simp only [lens,z6,z7,List.length_reverse,List.length_drop];first|done|omega)) only [go_sem,reduceEqDiff,Nat.reduceBEq,reduceAdd,reduceMul,reduceSub,reduceLeDiff,reduceToNat,reducePow, q1, q3, q5, q9, q11, q12, q32, q33, q34, c0, c1, hl0', hp', hne, t1, t2]))
            exact ⟨m - 1, by omega, k + 1, i' / 2, l' / 2, h2, by omega, (he.set (by omega)).app, by omega, by omega, by rw [hR]; simp [Nat.add_assoc, Nat.add_comm 1 k], by simp [c1]⟩
      · obtain rfl : k = path.length := by omega
        rw [List.drop_of_length_le (Nat.le_refl _)] at hR
        simp only [z21, Nat.zero_add] at hR
        subst hR
        unfold z2o
        by_cases h1 : l' = 0
        · subst h1
          by_cases h2 : h = root
          · subst h2
            rw [if_neg (by simp)]
            repeat' (first|refine zW.zs ?_|refine zW.zb ?_|refine zW.zc ?_|refine zW.zt rfl ?_|refine zW.zf rfl ?_|(refine zW.zd rfl (fun ht => ?_) (fun ht => ?_)<;>try (exfalso;omega))|((first|refine zW.zr ?_|refine zW.zk ?_|refine zW.ze ?_|refine zW.zq ?_|((first|apply zg0|apply zg1|apply zg2|apply zg3|apply zg4|apply zg5|apply zg6|apply zg7)<;>intro ht));all_goals try simp (disch:=first|omega|(simp only [lens,z6,z7,List.length_reverse,List.length_drop];first|done|omega)) only [go_sem,reduceEqDiff,Nat.reduceBEq,reduceAdd,reduceMul,reduceSub,reduceLeDiff,reduceToNat,reducePow, q1, q3, q5, q9, q11, q12, q32, q33, q34, c0, c1, r1]))
            exact Ext.pure hw he (zz _ rfl)
          · rw [if_pos (.inr (.inr h2))]
            repeat' (first|refine zW.zs ?_|refine zW.zb ?_|refine zW.zc ?_|refine zW.zt rfl ?_|refine zW.zf rfl ?_|(refine zW.zd rfl (fun ht => ?_) (fun ht => ?_)<;>try (exfalso;omega))|((first|refine zW.zr ?_|refine zW.zk ?_|refine zW.ze ?_|refine zW.zq ?_|((first|apply zg0|apply zg1|apply zg2|apply zg3|apply zg4|apply zg5|apply zg6|apply zg7)<;>intro ht));all_goals try simp (disch:=first|omega|(simp only [lens,z6,z7,List.length_reverse,List.length_drop];first|done|omega)) only [go_sem,reduceEqDiff,Nat.reduceBEq,reduceAdd,reduceMul,reduceSub,reduceLeDiff,reduceToNat,reducePow, q1, q3, q5, q9, q11, q12, q32, q33, q34, c0, c1, r1, h2]))
            exact Ext.pure hw he (zz _ rfl)
        · rw [if_pos (.inl h1)]
          have hl0' : ¬ (l' : Int) = 0 := by omega
          repeat' (first|refine zW.zs ?_|refine zW.zb ?_|refine zW.zc ?_|refine zW.zt rfl ?_|refine zW.zf rfl ?_|(refine zW.zd rfl (fun ht => ?_) (fun ht => ?_)<;>try (exfalso;omega))|((first|refine zW.zr ?_|refine zW.zk ?_|refine zW.ze ?_|refine zW.zq ?_|((first|apply zg0|apply zg1|apply zg2|apply zg3|apply zg4|apply zg5|apply zg6|apply zg7)<;>intro ht));all_goals try simp (disch:=first|omega|(simp only [lens,z6,z7,List.length_reverse,List.length_drop];first|done|omega)) only [go_sem,reduceEqDiff,Nat.reduceBEq,reduceAdd,reduceMul,reduceSub,reduceLeDiff,reduceToNat,reducePow, q1, q3, q5, q9, q11, q12, q32, q33, q34, c0, c1, r1, hl0']))
          exact Ext.pure hw he (zz _ rfl)
end Am
end Go.Proofs.YtjgljhbmljgaeaaDoor
end
section
/- Paths: the reference's Check; both say the same of eight. -/
namespace Go.Proofs.YtjgljhbmljgaeaaDoor
namespace Am
attribute [local irreducible] ACallsTo ACallsP
end Am
end Go.Proofs.YtjgljhbmljgaeaaDoor
end
section
/- Paths: the reference's Check; both say the same of eight. -/
namespace Go.Proofs.YtjgljhbmljgaeaaDoor
namespace Am
theorem spl8 : zj 8 = 4 := zab 2
theorem spl4 : zj 4 = 2 := zab 1
theorem spl2 : zj 2 = 1 := zab 0
attribute [local irreducible] ACallsTo ACallsP
end Am
end Go.Proofs.YtjgljhbmljgaeaaDoor
end
section
/- Keytree: contracts: Verify. -/
namespace Go.Proofs.YtjgljhbmljgaeaaDoor
namespace Am
def verI (root dg : Hash) (i : Int) (sig : List UInt8) (path : List Hash) : Int :=
  if i < 0 \/ 8 <= i then 2 else if sig.length = 16384 then (if chkP (z2p (recF sig dg.1 256)) i 8 path root = 0 then 0 else 81) else 81
theorem RdSl.cells {Y : Store} {sz : Nat} {es : List (List AV)} {x : AV} (h : RdSl Y sz es x) : cellsOf x = some [x] := by
  rcases h with h | ⟨r, off, lim, o, rfl, _⟩
  · exact zcy h
  · rfl
attribute [local irreducible] ACallsTo ACallsP
theorem zao (Y : Store) (leaf : Hash) (i n : Int) (path : List Hash) (x : AV) (root : Hash) (hx : RdSl Y 32 (hr path) x) (hl : path.length < 1000000) (hi : -9223372036854775808 <= i /\ i <= 9223372036854775807) (hn : -9223372036854775808 <= n /\ n <= 9223372036854775807) :
    ACallsTo TC 36 [.agg (hc leaf), .int .i64 i, .int .i64 n, x, .agg (hc root)] Y (.int .i64 (chkP leaf i n path root)) Y := by
  obtain ⟨x0, h0, hd⟩ := hx.lend (z2t path)
  have hi' : ∀ i : Int, RL 0 (.int .i64 i) := fun i => by simp [RL]
  have := ACallsTo.lend glok (zi9 [] leaf i n path x0 root h0 hl hi hn) (drsc (rl0 (z3d leaf) Y) (drsc (rl0 (hi' i) Y) (drsc (rl0 (hi' n) Y) (drsc hd (drs1 (rl0 (z3d root) Y))))))
  rwa [show sh Y.length (.int .i64 (chkP leaf i n path root)) = .int .i64 (chkP leaf i n path root) from rfl, z7c, List.append_nil] at this
set_option maxHeartbeats 4000000 in
theorem zix (Y : Store) (root dg : Hash) (i : Int) (sig : List UInt8) (path : List Hash) (x : AV) (hx : RdSl Y 32 (hr path) x) (hl : path.length < 1000000) (hs : sig.length < 1000000) (hi : -9223372036854775808 <= i /\ i <= 9223372036854775807) :
    ACallsTo TC 45 [.agg (hc root), .agg (hc dg), .agg [.int .i64 i, .str sig, x]] Y (.int .i64 (verI root dg i sig path)) Y := by
  have xc := hx.cells
  unfold cellsOf at xc
  have hR := fun Y => ziq Y sig dg hs
  have hC := fun y => zao (Y ++ y) (z2p (recF sig dg.1 256)) i 8 path x root hx.app hl hi (by omega)
  unfold verI
  unfold recV at hR
  refine ACallsTo.of_body q1aok (by simp) fun hw _ => ?_
  by_cases hb : i < 0 \/ 8 <= i
  · rw [if_pos hb]
    repeat' (first|refine zW.zs ?_|refine zW.zb ?_|refine zW.zc ?_|refine zW.zt rfl ?_|refine zW.zf rfl ?_|(refine zW.zd rfl (fun ht => ?_) (fun ht => ?_)<;>try (exfalso;omega))|((first|refine zW.zr ?_|refine zW.zk ?_|refine zW.ze ?_|refine zW.zq ?_|((first|apply zg0|apply zg1|apply zg2|apply zg3|apply zg4|apply zg5|apply zg6|apply zg7)<;>intro ht));all_goals try simp (disch:=first|omega|(simp only [lens,z6,z7,List.length_reverse];first|done|omega)) only [go_sem,reduceEqDiff,Nat.reduceBEq,reduceAdd,reduceMul,reduceSub,reduceLeDiff,reduceToNat,reducePow, xc]))
    all_goals exact DownV.pure hw (zz _ rfl)
  · rw [if_neg hb]
    by_cases h16 : sig.length = 16384
    · rw [if_pos h16]
      rw [if_pos h16] at hR
      generalize z2p (recF sig dg.1 256) = L at *
      generalize chkP L i 8 path root = c at *
      by_cases h0 : c = 0
      · subst h0
        rw [if_pos rfl]
        repeat' (first|refine zW.zs ?_|refine zW.zb ?_|refine zW.zc ?_|refine zW.zt rfl ?_|refine zW.zf rfl ?_|(refine zW.zd rfl (fun ht => ?_) (fun ht => ?_)<;>try (exfalso;omega))|((first|refine zW.zr ?_|refine zW.zk ?_|refine zW.ze ?_|refine zW.zq ?_|(apply callW.mk_pu; (first | exact (fun _ => hR _) | exact (fun _ => hC _))) | (apply callW.za; (first | exact (hR _) | exact (hC _))) | ((first|apply zg0|apply zg1|apply zg2|apply zg3|apply zg4|apply zg5|apply zg6|apply zg7)<;>intro ht));all_goals try simp (disch:=first|omega|(simp only [lens,z6,z7,List.length_reverse];first|done|omega)) only [go_sem,reduceEqDiff,Nat.reduceBEq,reduceAdd,reduceMul,reduceSub,reduceLeDiff,reduceToNat,reducePow, xc]))
        all_goals exact DownV.pure hw (zz _ rfl)
      · rw [if_neg h0]
        repeat' (first|refine zW.zs ?_|refine zW.zb ?_|refine zW.zc ?_|refine zW.zt rfl ?_|refine zW.zf rfl ?_|(refine zW.zd rfl (fun ht => ?_) (fun ht => ?_)<;>try (exfalso;omega))|((first|refine zW.zr ?_|refine zW.zk ?_|refine zW.ze ?_|refine zW.zq ?_|(apply callW.mk_pu; (first | exact (fun _ => hR _) | exact (fun _ => hC _))) | (apply callW.za; (first | exact (hR _) | exact (hC _))) | ((first|apply zg0|apply zg1|apply zg2|apply zg3|apply zg4|apply zg5|apply zg6|apply zg7)<;>intro ht));all_goals try simp (disch:=first|omega|(simp only [lens,z6,z7,List.length_reverse];first|done|omega)) only [go_sem,reduceEqDiff,Nat.reduceBEq,reduceAdd,reduceMul,reduceSub,reduceLeDiff,reduceToNat,reducePow, xc, h0]))
        all_goals exact DownV.pure hw (zz _ rfl)
    · rw [if_neg h16]
      rw [if_neg h16] at hR
      repeat' (first|refine zW.zs ?_|refine zW.zb ?_|refine zW.zc ?_|refine zW.zt rfl ?_|refine zW.zf rfl ?_|(refine zW.zd rfl (fun ht => ?_) (fun ht => ?_)<;>try (exfalso;omega))|((first|refine zW.zr ?_|refine zW.zk ?_|refine zW.ze ?_|refine zW.zq ?_|(apply callW.mk_pu; (first | exact (fun _ => hR _))) | (apply callW.za; (first | exact (hR _))) | ((first|apply zg0|apply zg1|apply zg2|apply zg3|apply zg4|apply zg5|apply zg6|apply zg7)<;>intro ht));all_goals try simp (disch:=first|omega|(simp only [lens,z6,z7,List.length_reverse];first|done|omega)) only [go_sem,reduceEqDiff,Nat.reduceBEq,reduceAdd,reduceMul,reduceSub,reduceLeDiff,reduceToNat,reducePow, xc]))
      all_goals exact DownV.pure hw (zz _ rfl)
end Am
end Go.Proofs.YtjgljhbmljgaeaaDoor
end
section
/- Lamport: contracts: Secret, Public. -/
namespace Go.Proofs.YtjgljhbmljgaeaaDoor
namespace Am
/-- A secret of a key. -/
def secM (seed : List UInt8) (idx k : Int) : List UInt8 := 2 :: (z7f seed ++ (putS idx 4 ++ putS k 2))
def secH (seed : List UInt8) (idx k : Int) : Hash := shaH (secM seed idx k)
/-- A key's secrets, shown. -/
def shwH (seed : List UInt8) (idx k : Int) : Hash := z6j (secH seed idx k).1
def pubH (seed : List UInt8) (idx : Int) : List Hash := (List.range 512).map fun k : Nat => shwH seed idx k
theorem za2 (x n : Int) : (putS x n).length <= 8 := by
  unfold putS
  split
  · rw [z36]; omega
  · simp
theorem zhn (s : List UInt8) : (z7f s).length <= s.length + 11 := by
  unfold z7f
  have := zfx s.length
  rw [List.length_append]; omega
theorem zpd (seed : List UInt8) (idx k : Int) : (secM seed idx k).length <= seed.length + 40 := by
  unfold secM
  have := zhn seed
  have := za2 idx 4
  have := za2 k 2
  simp only [List.length_cons, List.length_append]; omega
attribute [local irreducible] ACallsTo ACallsP
set_option maxHeartbeats 4000000 in
theorem zdn (Y : Store) (seed : List UInt8) (idx i b : Int) (hs : seed.length < 1000000) (hx : 0 <= idx /\ idx < 2147483648) (hi : 0 <= i /\ i < 256) (hb : 0 <= b /\ b <= 1) : ACallsTo TC 79 [.str seed, .int .i64 idx, .int .i64 i, .int .i64 b] Y (.agg (hc (secH seed idx (2 * i + b)))) Y := by
  have hT := fun Y => zkg Y seed (by omega)
  have hP1 := fun Y => z69 Y idx 4 (by omega) (by omega)
  have hP2 := fun Y => z69 Y (2 * i + b) 2 (by omega) (by omega)
  have hS := fun Y => z8v Y (secM seed idx (2 * i + b)) (by have := zpd seed idx (2 * i + b); omega)
  have l1 := zhn seed
  have l2 := za2 idx 4
  have l3 := za2 (2 * i + b) 2
  unfold secH
  unfold secM at *
  generalize z7f seed = T at *
  generalize putS idx 4 = A at *
  generalize putS (2 * i + b) 2 = B at *
  refine ACallsTo.of_body q16ok (by simp) fun hw _ => ?_
  repeat' (first|refine zW.zs ?_|refine zW.zb ?_|refine zW.zc ?_|refine zW.zt rfl ?_|refine zW.zf rfl ?_|(refine zW.zd rfl (fun ht => ?_) (fun ht => ?_)<;>try (exfalso;omega))|((first|refine zW.zr ?_|refine zW.zk ?_|refine zW.ze ?_|refine zW.zq ?_|(apply callW.mk_pu; (first | exact (fun _ => hT _) | exact (fun _ => hP1 _) | exact (fun _ => hP2 _) | exact (fun _ => hS _))) | (apply callW.za; (first | exact (hT _) | exact (hP1 _) | exact (hP2 _) | exact (hS _))) | ((first|apply zg0|apply zg1|apply zg2|apply zg3|apply zg4|apply zg5|apply zg6|apply zg7)<;>intro ht));all_goals try simp (disch:=first|omega|(simp only [lens,z6,z7,List.length_reverse,List.length_map];first|done|omega)) only [go_sem,reduceEqDiff,Nat.reduceBEq,reduceAdd,reduceMul,reduceSub,reduceLeDiff,reduceToNat,reducePow]))
  exact DownV.pure hw (z3d _)
end Am
end Go.Proofs.YtjgljhbmljgaeaaDoor
end
section
/- Lamport: contracts: Public. -/
namespace Go.Proofs.YtjgljhbmljgaeaaDoor
namespace Am
theorem z3l (seed : List UInt8) (idx : Int) : (pubH seed idx).length = 512 := by simp [pubH]
theorem zgh (seed : List UInt8) (idx : Int) (k : Nat) (h : k < 512) : hd (pubH seed idx) k = shwH seed idx k := by
  rw [z8g (by rw [z3l]; exact h)]
  simp [pubH]
theorem zoe (seed : List UInt8) (idx : Int) (k : Nat) (h : k < 512) : (pubH seed idx).take (k + 1) = (pubH seed idx).take k ++ [shwH seed idx k] := by
  rw [zd9 (by rw [z3l]; exact h), zgh _ _ _ h]
/-- So many of a key's shown secrets, the others not yet. -/
def pubZ (seed : List UInt8) (idx : Int) (k : Nat) : List Hash := (pubH seed idx).take k ++ List.replicate (512 - k) zeroH
theorem zoj (seed : List UInt8) (idx : Int) (k : Nat) (h : k <= 512) : (pubZ seed idx k).length = 512 := by
  unfold pubZ
  rw [List.length_append, List.length_take, z3l, List.length_replicate]; omega
theorem zok (seed : List UInt8) (idx : Int) (k : Nat) (h : k < 512) : (pubZ seed idx k).set k (shwH seed idx k) = pubZ seed idx (k + 1) := by
  unfold pubZ
  have e : 512 - k = (512 - (k + 1)) + 1 := by omega
  have l : ((pubH seed idx).take k).length = k := by rw [List.length_take, z3l]; omega
  rw [e, List.replicate_succ, List.set_append_right _ _ (by omega), l, Nat.sub_self, List.set_cons_zero, zoe _ _ _ h, List.append_assoc]
  rfl
theorem zol (seed : List UInt8) (idx : Int) : pubZ seed idx 0 = List.replicate 512 zeroH := by unfold pubZ; rw [List.take_zero, Nat.sub_zero]; exact List.nil_append _
theorem zoi (seed : List UInt8) (idx : Int) : pubZ seed idx 512 = pubH seed idx := by
  unfold pubZ
  rw [List.take_of_length_le (by rw [z3l]; omega)]; simp
attribute [local irreducible] ACallsTo ACallsP pubH
set_option maxHeartbeats 8000000 in
theorem zdl (Y : Store) (seed : List UInt8) (idx : Int) (hs : seed.length < 1000000) (hx : 0 <= idx /\ idx < 2147483648) : ACallsTo TC 65 [.str seed, .int .i64 idx] Y (z11 32 (hr (pubH seed idx))) Y := by
  refine ACallsTo.of_body q10ok (by simp) fun hw _ => ?_
  have hz := zfb
  rw [z9v] at hz
  repeat' (first|refine zW.zs ?_|refine zW.zb ?_|refine zW.zc ?_|refine zW.zt rfl ?_|refine zW.zf rfl ?_|(refine zW.zd rfl (fun ht => ?_) (fun ht => ?_)<;>try (exfalso;omega))|((first|refine zW.zr ?_|refine zW.zk ?_|refine zW.ze ?_|refine zW.zq ?_|((first|apply zg0|apply zg1|apply zg2|apply zg3|apply zg4|apply zg5|apply zg6|apply zg7)<;>intro ht));all_goals try simp (disch:=first|omega|(simp only [lens,z6,z7,List.length_reverse,List.length_map];first|done|omega)) only [go_sem,reduceEqDiff,Nat.reduceBEq,reduceAdd,reduceMul,reduceSub,reduceLeDiff,reduceToNat,reducePow, hz]))
  refine zW.loop (fun m O Y' => ∃ k : Nat, m + k = 512 /\ Ext Y Y' /\ Y'[Y.length]? = some (some (hr (pubZ seed idx k))) /\ O 0 = .str seed /\ O 1 = .int .i64 idx /\ O 5 = .sl Y.length 0 512 (some 512) 32 /\ O 15 = .int .i64 512 /\ O 16 = .int .i64 k) 512 ?_ ?_
  · exact ⟨0, by omega, (Ext.refl Y).app, by rw [z1n (by omega), Nat.sub_self, zol]; rfl, by simp (disch:=first|omega|(simp only [lens,z6,z7,List.length_reverse,List.length_map];first|done|omega)) only [go_sem,reduceEqDiff,Nat.reduceBEq,reduceAdd,reduceMul,reduceSub,reduceLeDiff,reduceToNat,reducePow], by simp (disch:=first|omega|(simp only [lens,z6,z7,List.length_reverse,List.length_map];first|done|omega)) only [go_sem,reduceEqDiff,Nat.reduceBEq,reduceAdd,reduceMul,reduceSub,reduceLeDiff,reduceToNat,reducePow], by simp (disch:=first|omega|(simp only [lens,z6,z7,List.length_reverse,List.length_map];first|done|omega)) only [go_sem,reduceEqDiff,Nat.reduceBEq,reduceAdd,reduceMul,reduceSub,reduceLeDiff,reduceToNat,reducePow], by simp (disch:=first|omega|(simp only [lens,z6,z7,List.length_reverse,List.length_map];first|done|omega)) only [go_sem,reduceEqDiff,Nat.reduceBEq,reduceAdd,reduceMul,reduceSub,reduceLeDiff,reduceToNat,reducePow]; rfl, by simp (disch:=first|omega|(simp only [lens,z6,z7,List.length_reverse,List.length_map];first|done|omega)) only [go_sem,reduceEqDiff,Nat.reduceBEq,reduceAdd,reduceMul,reduceSub,reduceLeDiff,reduceToNat,reducePow]; rfl⟩
  · rintro m O Y' ⟨k, hm, he, c2, q0, q1, q5, q15, q16⟩
    have d2 := slen c2
    by_cases hk : k < 512
    · have hrl := zoj seed idx k (by omega)
      have hSe := fun Y => zdn Y seed idx ((k / 2 : Nat) : Int) ((k % 2 : Nat) : Int) hs hx (by omega) (by omega)
      have hkk : 2 * ((k / 2 : Nat) : Int) + ((k % 2 : Nat) : Int) = k := by omega
      rw [hkk] at hSe
      have hH := fun Y => z6a Y (secH seed idx k)
      have hSh := fun Y => zh8 Y (secH seed idx k).1 (by have := (secH seed idx k).2; omega)
      have hst := zok seed idx k hk
      rw [show z6j (secH seed idx k).1 = shwH seed idx k from rfl] at hSh
      generalize pubZ seed idx k = L at *
      generalize shwH seed idx k = A at *
      generalize secH seed idx k = B at *
      have e1 : (k : Int) / 2 = ((k / 2 : Nat) : Int) := by omega
      have e2 : (k : Int) % 2 = ((k % 2 : Nat) : Int) := by omega
      have g1 := z9w (l := L) (i := k) (by omega)
      repeat' (first|refine zW.zs ?_|refine zW.zb ?_|refine zW.zc ?_|refine zW.zt rfl ?_|refine zW.zf rfl ?_|(refine zW.zd rfl (fun ht => ?_) (fun ht => ?_)<;>try (exfalso;omega))|((first|refine zW.zr ?_|refine zW.zk ?_|refine zW.ze ?_|refine zW.zq ?_|(apply callW.mk_pu; (first | exact (fun _ => hSe _) | exact (fun _ => hH _) | exact (fun _ => hSh _))) | (apply callW.za; (first | exact (hSe _) | exact (hH _) | exact (hSh _))) | ((first|apply zg0|apply zg1|apply zg2|apply zg3|apply zg4|apply zg5|apply zg6|apply zg7)<;>intro ht));all_goals try simp (disch:=first|omega|(simp only [lens,z6,z7,List.length_reverse,List.length_map];first|done|omega)) only [go_sem,reduceEqDiff,Nat.reduceBEq,reduceAdd,reduceMul,reduceSub,reduceLeDiff,reduceToNat,reducePow, q0, q1, q5, q15, q16, c2, e1, e2, hrl, g1]))
      exact ⟨m - 1, by omega, k + 1, by omega, he.set (by omega), by rw [<- hst], by simp⟩
    · obtain rfl : k = 512 := by omega
      rw [zoi] at c2
      obtain ⟨news, rfl⟩ := he
      repeat' (first|refine zW.zs ?_|refine zW.zb ?_|refine zW.zc ?_|refine zW.zt rfl ?_|refine zW.zf rfl ?_|(refine zW.zd rfl (fun ht => ?_) (fun ht => ?_)<;>try (exfalso;omega))|((first|refine zW.zr ?_|refine zW.zk ?_|refine zW.ze ?_|refine zW.zq ?_|((first|apply zg0|apply zg1|apply zg2|apply zg3|apply zg4|apply zg5|apply zg6|apply zg7)<;>intro ht));all_goals try simp (disch:=first|omega|(simp only [lens,z6,z7,List.length_reverse,List.length_map];first|done|omega)) only [go_sem,reduceEqDiff,Nat.reduceBEq,reduceAdd,reduceMul,reduceSub,reduceLeDiff,reduceToNat,reducePow, q0, q1, q5, q15, q16]))
      refine DownV.all hw ?_
      have hne : hr (pubH seed idx) ≠ [] := fun e => by have := congrArg List.length e; rw [z7, z3l] at this; simp at this
      unfold z11
      rw [if_neg hne]
      have hf := FrzD.sl (τ := Y) (news := news) (r := Y.length) (off := 0) (lim := some 512) (esz := 32) (o := hr (pubH seed idx)) (es := hr (pubH seed idx)) (by omega) c2 (by omega) (by simp) (z2t _)
      rw [show (hr (pubH seed idx)).length = 512 by rw [z7, z3l]] at hf
      exact hf
end Am
end Go.Proofs.YtjgljhbmljgaeaaDoor
end
section
/- Lamport: contracts: Sign. -/
namespace Go.Proofs.YtjgljhbmljgaeaaDoor
namespace Am
/-- A builder, with its bytes. -/
def BldAt (Y : Store) (r : Nat) (sid : Option Nat) (s : List UInt8) : Prop :=
  (s = [] /\ sid = none /\ Y[r]? = some (some [[.bld r, .bnil]])) \/ (s ≠ [] /\ ∃ rb, sid = some rb /\ rb ≠ r /\ Y[r]? = some (some [[.bld r, .bsl rb s.length]]) /\ Y[rb]? = some (some (zh s)))
structure BlFr (Y Y' : Store) (r : Nat) (sid sid' : Option Nat) : Prop where
  st : ∀ j, j < Y.length -> j ≠ r -> sid ≠ some j -> Y'[j]? = Y[j]?
  new : ∀ q, sid' = some q -> Y.length <= q
  le : Y.length <= Y'.length
theorem BldAt.lt {Y : Store} {r : Nat} {sid : Option Nat} {s : List UInt8} (h : BldAt Y r sid s) : r < Y.length /\ ∀ q, sid = some q -> q < Y.length /\ q ≠ r := by
  rcases h with ⟨_, rfl, h⟩ | ⟨_, rb, rfl, hne, h, h2⟩
  · exact ⟨slen h, by simp⟩
  · exact ⟨slen h, fun q e => by cases e; exact ⟨slen h2, hne⟩⟩
theorem BldAt.keep {Y Y' : Store} {r : Nat} {sid : Option Nat} {s : List UInt8} (h : BldAt Y r sid s) (h0 : Y'[r]? = Y[r]?) (hk : ∀ q, sid = some q -> Y'[q]? = Y[q]?) : BldAt Y' r sid s := by
  rcases h with ⟨e, e2, h⟩ | ⟨e, rb, e2, hne, h, h2⟩
  · exact .inl ⟨e, e2, by rw [h0]; exact h⟩
  · exact .inr ⟨e, rb, e2, hne, by rw [h0]; exact h, by rw [hk rb e2]; exact h2⟩
theorem BldAt.write {Y : Store} {r : Nat} {sid : Option Nat} {s t : List UInt8} (h : BldAt Y r sid s) (h0 : t ≠ []) (hl : s.length + t.length <= 1073741824) :
    ∃ Y2 sid', ACallsTo TC 78 [.ptr r 0 0, .str t] Y (.tup [.int .i64 t.length, .any]) Y2 /\ BldAt Y2 r sid' (s ++ t) /\ BlFr Y Y2 r sid sid' := by
  rcases h with ⟨rfl, rfl, h⟩ | ⟨e, rb, rfl, hne, h, h2⟩
  · have hr := slen h
    refine ⟨_, some Y.length, zdr Y r t h h0 (by simpa using hl), .inr ⟨by simpa using h0, Y.length, rfl, by omega, ?_, ?_⟩, fun j hj hjr _ => ?_, by simp, by simp⟩
    · rw [gapp (by simpa using hr), z2d hr]; rfl
    · rw [z1n (by simp)]; simp
    · rw [gapp (by simpa using hj), z18 (fun e => hjr e.symm)]
  · have hr := slen h
    refine ⟨_, some Y.length, zds Y r rb s t h h2 hne h0 hl, .inr ⟨by simp [e], Y.length, rfl, by omega, ?_, ?_⟩, fun j hj hjr hjq => ?_, by simp, by simp⟩
    · rw [gapp (by simpa using hr), z2d (by simpa using hr)]; simp
    · rw [z1n (by simp)]; simp
    · rw [gapp (by simpa using hj), z18 (fun e => hjr e.symm), z18 (fun e => hjq (by rw [e]))]
/-- Two builders behind all elder objects. -/
structure Bl2 (τ Y' : Store) (ra rb : Nat) (s t : List UInt8) : Prop where
  is : ∃ sa sb, BldAt Y' ra sa s /\ BldAt Y' rb sb t /\ (∀ q, sa = some q -> τ.length <= q /\ q ≠ rb /\ sb ≠ some q) /\ (∀ q, sb = some q -> τ.length <= q /\ q ≠ ra)
  la : τ.length <= ra
  lb : τ.length <= rb
  ne : ra ≠ rb
  le : τ.length <= Y'.length
  st : ∀ q, q < τ.length -> Y'[q]? = τ[q]?
theorem Bl2.get {τ Y' : Store} {ra rb : Nat} {s t : List UInt8} (h : Bl2 τ Y' ra rb s t) {q : Nat} {o : Option AObj} (hq : τ[q]? = some o) : Y'[q]? = some o := by
  rw [h.st q (slen hq)]; exact hq
theorem Bl2.writeA {τ Y' : Store} {ra rb : Nat} {s t u : List UInt8} (h : Bl2 τ Y' ra rb s t) (h0 : u ≠ []) (hl : s.length + u.length <= 1073741824) :
    ∃ Y2, ACallsTo TC 78 [.ptr ra 0 0, .str u] Y' (.tup [.int .i64 u.length, .any]) Y2 /\ Bl2 τ Y2 ra rb (s ++ u) t := by
  obtain ⟨sa, sb, h1, h2, h3, h4⟩ := h.is
  obtain ⟨Y2, sa', hw, hB, fr⟩ := h1.write h0 hl
  have l2 := h2.lt
  refine ⟨Y2, hw, ⟨sa', sb, hB, h2.keep (fr.st rb l2.1 (fun e => h.ne e.symm) fun e => (h3 rb e).2.1 rfl) (fun q hq => fr.st q (l2.2 q hq).1 (h4 q hq).2 fun e => (h3 q e).2.2 hq), fun q hq => ?_, h4⟩, h.la, h.lb, h.ne, by have := h.le; have := fr.le; omega, fun q hq => ?_⟩
  · have := fr.new q hq
    exact ⟨by have := h.le; omega, by omega, fun e => by have := (l2.2 q e).1; omega⟩
  · rw [fr.st q (by have := h.le; omega) (fun e => by have := h.la; omega) (fun e => by have := (h3 q e).1; omega)]
    exact h.st q hq
theorem Bl2.writeB {τ Y' : Store} {ra rb : Nat} {s t u : List UInt8} (h : Bl2 τ Y' ra rb s t) (h0 : u ≠ []) (hl : t.length + u.length <= 1073741824) :
    ∃ Y2, ACallsTo TC 78 [.ptr rb 0 0, .str u] Y' (.tup [.int .i64 u.length, .any]) Y2 /\ Bl2 τ Y2 ra rb s (t ++ u) := by
  obtain ⟨sa, sb, h1, h2, h3, h4⟩ := h.is
  obtain ⟨Y2, sb', hw, hB, fr⟩ := h2.write h0 hl
  have l1 := h1.lt
  have hn : ∀ q, sb' = some q -> τ.length <= q /\ q ≠ ra /\ sa ≠ some q := fun q hq => by
    have := fr.new q hq
    exact ⟨by have := h.le; omega, by omega, fun e => by have := (l1.2 q e).1; omega⟩
  refine ⟨Y2, hw, ⟨sa, sb', h1.keep (fr.st ra l1.1 h.ne fun e => (h4 ra e).2 rfl) (fun q hq => fr.st q (l1.2 q hq).1 (h3 q hq).2.1 (h3 q hq).2.2), hB, fun q hq => ⟨(h3 q hq).1, (h3 q hq).2.1, fun e => (hn q e).2.2 hq⟩, fun q hq => ⟨(hn q hq).1, (hn q hq).2.1⟩⟩, h.la, h.lb, h.ne, by have := h.le; have := fr.le; omega, fun q hq => ?_⟩
  rw [fr.st q (by have := h.le; omega) (fun e => by have := h.lb; omega) (fun e => by have := (h4 q e).1; omega)]
  exact h.st q hq
/-- Both texts, taken. -/
theorem Bl2.strings {τ Y' : Store} {ra rb : Nat} {s t : List UInt8} (h : Bl2 τ Y' ra rb s t) (hs : s ≠ []) (ht : t ≠ []) (hl : s.length <= 1073741824) (hl2 : t.length <= 1073741824) :
    ∃ Y2 Y3, ACallsTo TC 80 [.ptr ra 0 0] Y' (.str s) Y2 /\ ACallsTo TC 80 [.ptr rb 0 0] Y2 (.str t) Y3 /\ τ.length <= Y3.length /\ ∀ q, q < τ.length -> Y3[q]? = τ[q]? := by
  obtain ⟨sa, sb, h1, h2, h3, h4⟩ := h.is
  rcases h1 with ⟨e, _⟩ | ⟨_, qa, rfl, na, a1, a2⟩
  · exact absurd e hs
  rcases h2 with ⟨e, _⟩ | ⟨_, qb, rfl, nb, b1, b2⟩
  · exact absurd e ht
  obtain ⟨x1, x2, x3⟩ := h3 qa rfl
  obtain ⟨y1, y2⟩ := h4 qb rfl
  have hab : qa ≠ qb := fun e => x3 (by rw [e])
  refine ⟨_, _, zav Y' ra qa s hs hl a1 a2, zav _ rb qb t ht hl2 (by rw [z18 x2]; exact b1) (by rw [z18 hab]; exact b2), by simp; exact h.le, fun q hq => ?_⟩
  rw [z18 (by omega), z18 (by omega)]
  exact h.st q hq
/-- A signature: the secrets of the bits, and the others, shown. -/
def sgA (seed : List UInt8) (idx : Int) (d : List UInt8) : Nat -> List UInt8
  | 0 => []
  | n + 1 => sgA seed idx d n ++ (secH seed idx (2 * (n : Int) + bitS d n)).1
def sgB (seed : List UInt8) (idx : Int) (d : List UInt8) : Nat -> List UInt8
  | 0 => []
  | n + 1 => sgB seed idx d n ++ (shwH seed idx ((2 * n + 1 - bitS d n : Nat) : Int)).1
def ksgS (seed : List UInt8) (idx : Int) (d : List UInt8) : List UInt8 := sgA seed idx d 256 ++ sgB seed idx d 256
theorem z62 (seed : List UInt8) (idx : Int) (d : List UInt8) : ∀ n, (sgA seed idx d n).length = 32 * n
  | 0 => rfl
  | n + 1 => by rw [sgA, List.length_append, z62 seed idx d n, (secH seed idx _).2]; omega
theorem z7b (seed : List UInt8) (idx : Int) (d : List UInt8) : ∀ n, (sgB seed idx d n).length = 32 * n
  | 0 => rfl
  | n + 1 => by rw [sgB, List.length_append, z7b seed idx d n, (shwH seed idx _).2]; omega
theorem zfm (seed : List UInt8) (idx : Int) (d : List UInt8) : (ksgS seed idx d).length = 16384 := by
  unfold ksgS
  rw [List.length_append, z62, z7b]
attribute [local irreducible] ACallsTo ACallsP pubH
set_option maxHeartbeats 8000000 in
theorem ziv (Y : Store) (seed : List UInt8) (idx : Int) (dg : Hash) (hs : seed.length < 1000000) (hx : 0 <= idx /\ idx < 2147483648) : ACallsTo TC 60 [.str seed, .int .i64 idx, .agg (hc dg)] Y (.str (ksgS seed idx dg.1)) Y := by
  refine ACallsTo.of_body q11ok (by simp) fun hw _ => ?_
  have hP := fun Y => zdl Y seed idx hs hx
  have hne : hr (pubH seed idx) ≠ [] := fun e => by have := congrArg List.length e; rw [z7, z3l] at this; simp at this
  have hpv : z11 32 (hr (pubH seed idx)) = .vsl 32 (hr (pubH seed idx)) false := by unfold z11; rw [if_neg hne]
  rw [hpv] at hP
  have hC := fun Y => z6a Y dg
  repeat' (first|refine zW.zs ?_|refine zW.zb ?_|refine zW.zc ?_|refine zW.zt rfl ?_|refine zW.zf rfl ?_|(refine zW.zd rfl (fun ht => ?_) (fun ht => ?_)<;>try (exfalso;omega))|((first|refine zW.zr ?_|refine zW.zk ?_|refine zW.ze ?_|refine zW.zq ?_|(apply callW.mk_pu; (first | exact (fun _ => hP _) | exact (fun _ => hC _))) | (apply callW.za; (first | exact (hP _) | exact (hC _))) | ((first|apply zg0|apply zg1|apply zg2|apply zg3|apply zg4|apply zg5|apply zg6|apply zg7)<;>intro ht));all_goals try simp (disch:=first|omega|(simp only [lens,z6,z7,List.length_reverse,List.length_map];first|done|omega)) only [go_sem,reduceEqDiff,Nat.reduceBEq,reduceAdd,reduceMul,reduceSub,reduceLeDiff,reduceToNat,reducePow]))
  refine zW.loop (fun m O Y' => ∃ i : Nat, m + i = 256 /\ Bl2 (Y ++ [some [hc dg]]) Y' (Y.length + 1) (Y.length + 2) (sgA seed idx dg.1 i) (sgB seed idx dg.1 i) /\ O 0 = .str seed /\ O 1 = .int .i64 idx /\ O 7 = .vsl 32 (hr (pubH seed idx)) false /\ O 8 = .str dg.1 /\ O 9 = .ptr (Y.length + 1) 0 0 /\ O 10 = .ptr (Y.length + 2) 0 0 /\ O 20 = .int .i64 i) 256 ?_ ?_
  · refine ⟨0, by omega, ?_, by simp (disch:=first|omega|(simp only [lens,z6,z7,List.length_reverse,List.length_map];first|done|omega)) only [go_sem,reduceEqDiff,Nat.reduceBEq,reduceAdd,reduceMul,reduceSub,reduceLeDiff,reduceToNat,reducePow], by simp (disch:=first|omega|(simp only [lens,z6,z7,List.length_reverse,List.length_map];first|done|omega)) only [go_sem,reduceEqDiff,Nat.reduceBEq,reduceAdd,reduceMul,reduceSub,reduceLeDiff,reduceToNat,reducePow], by simp (disch:=first|omega|(simp only [lens,z6,z7,List.length_reverse,List.length_map];first|done|omega)) only [go_sem,reduceEqDiff,Nat.reduceBEq,reduceAdd,reduceMul,reduceSub,reduceLeDiff,reduceToNat,reducePow], by simp (disch:=first|omega|(simp only [lens,z6,z7,List.length_reverse,List.length_map];first|done|omega)) only [go_sem,reduceEqDiff,Nat.reduceBEq,reduceAdd,reduceMul,reduceSub,reduceLeDiff,reduceToNat,reducePow], by simp (disch:=first|omega|(simp only [lens,z6,z7,List.length_reverse,List.length_map];first|done|omega)) only [go_sem,reduceEqDiff,Nat.reduceBEq,reduceAdd,reduceMul,reduceSub,reduceLeDiff,reduceToNat,reducePow], by simp (disch:=first|omega|(simp only [lens,z6,z7,List.length_reverse,List.length_map];first|done|omega)) only [go_sem,reduceEqDiff,Nat.reduceBEq,reduceAdd,reduceMul,reduceSub,reduceLeDiff,reduceToNat,reducePow], by simp (disch:=first|omega|(simp only [lens,z6,z7,List.length_reverse,List.length_map];first|done|omega)) only [go_sem,reduceEqDiff,Nat.reduceBEq,reduceAdd,reduceMul,reduceSub,reduceLeDiff,reduceToNat,reducePow]; rfl⟩
    refine ⟨⟨none, none, .inl ⟨rfl, rfl, ?_⟩, .inl ⟨rfl, rfl, ?_⟩, by simp, by simp⟩, by simp, by simp, by omega, by simp, fun q hq => ?_⟩
    · rw [z1n (by omega), Nat.add_sub_cancel_left]; rfl
    · rw [z1n (by omega), Nat.add_sub_cancel_left]; rfl
    · rw [show Y ++ [some [hc dg], some [[AV.bld (Y.length + 1), AV.bnil]], some [[AV.bld (Y.length + 2), AV.bnil]]] = (Y ++ [some [hc dg]]) ++ [some [[AV.bld (Y.length + 1), AV.bnil]], some [[AV.bld (Y.length + 2), AV.bnil]]] by simp]
      exact gapp hq
  · rintro m O Y' ⟨i, hm, hB, q0, q1, q7, q8, q9, q10, q20⟩
    have lA := z62 seed idx dg.1 i
    have lB := z7b seed idx dg.1 i
    by_cases hi : i < 256
    · have hi' : (i : Int) < 256 := by omega
      have hBt := fun Y => ze4 Y dg.1 i (by have := dg.2; omega) (by omega)
      have hb1 := z9k dg.1 i
      have hSe := fun Y => zdn Y seed idx i (bitS dg.1 i) hs hx (by omega) (by omega)
      have hH1 := fun Y => z6a Y (secH seed idx (2 * (i : Int) + bitS dg.1 i))
      have hpa := zgh seed idx (2 * i + 1 - bitS dg.1 i) (by omega)
      have hH2 := fun Y => z6a Y (shwH seed idx ((2 * i + 1 - bitS dg.1 i : Nat) : Int))
      have hg := z9w (l := pubH seed idx) (i := 2 * i + 1 - bitS dg.1 i) (by rw [z3l]; omega)
      rw [hpa] at hg
      have hplen := z3l seed idx
      have eA : sgA seed idx dg.1 (i + 1) = sgA seed idx dg.1 i ++ (secH seed idx (2 * (i : Int) + bitS dg.1 i)).1 := rfl
      have eB : sgB seed idx dg.1 (i + 1) = sgB seed idx dg.1 i ++ (shwH seed idx ((2 * i + 1 - bitS dg.1 i : Nat) : Int)).1 := rfl
      generalize shwH seed idx ((2 * i + 1 - bitS dg.1 i : Nat) : Int) = A at *
      generalize secH seed idx (2 * (i : Int) + bitS dg.1 i) = B at *
      generalize pubH seed idx = PB at *
      generalize bitS dg.1 i = b at *
      obtain ⟨Y2, w2, B2⟩ := hB.writeA (zbf B) (by rw [lA, B.2]; omega)
      obtain ⟨Y3, w3, B3⟩ := B2.writeB (zbf A) (by rw [lB, A.2]; omega)
      rw [<- eA] at B3
      rw [<- eB] at B3
      have n5 : (2 * (i : Int) + 1 - b).toNat = 2 * i + 1 - b := by omega
      repeat' (first|refine zW.zs ?_|refine zW.zb ?_|refine zW.zc ?_|refine zW.zt rfl ?_|refine zW.zf rfl ?_|(refine zW.zd rfl (fun ht => ?_) (fun ht => ?_)<;>try (exfalso;omega))|((first|refine zW.zr ?_|refine zW.zk ?_|refine zW.ze ?_|refine zW.zq ?_|(apply callW.mk_pu; (first | exact (fun _ => hBt _) | exact (fun _ => hSe _) | exact (fun _ => hH1 _) | exact (fun _ => hH2 _) | exact (fun _ => w2) | exact (fun _ => w3))) | (apply callW.za; (first | exact (hBt _) | exact (hSe _) | exact (hH1 _) | exact (hH2 _) | exact (w2) | exact (w3))) | ((first|apply zg0|apply zg1|apply zg2|apply zg3|apply zg4|apply zg5|apply zg6|apply zg7)<;>intro ht));all_goals try simp (disch:=first|omega|(simp only [lens,z6,z7,List.length_reverse,List.length_map];first|done|omega)) only [go_sem,reduceEqDiff,Nat.reduceBEq,reduceAdd,reduceMul,reduceSub,reduceLeDiff,reduceToNat,reducePow, q0, q1, q7, q8, q9, q10, q20, hi', n5, hplen, hg]))
      exact ⟨m - 1, by omega, i + 1, by omega, B3, by simp⟩
    · obtain rfl : i = 256 := by omega
      have hi' : ¬ ((256 : Nat) : Int) < 256 := by omega
      obtain ⟨Y2, Y3, w2, w3, hle, hst⟩ := hB.strings (fun e => by rw [e] at lA; simp at lA) (fun e => by rw [e] at lB; simp at lB) (by omega) (by omega)
      unfold ksgS
      generalize sgA seed idx dg.1 256 = TA at *
      generalize sgB seed idx dg.1 256 = TB at *
      repeat' (first|refine zW.zs ?_|refine zW.zb ?_|refine zW.zc ?_|refine zW.zt rfl ?_|refine zW.zf rfl ?_|(refine zW.zd rfl (fun ht => ?_) (fun ht => ?_)<;>try (exfalso;omega))|((first|refine zW.zr ?_|refine zW.zk ?_|refine zW.ze ?_|refine zW.zq ?_|(apply callW.mk_pu; (first | exact (fun _ => w2) | exact (fun _ => w3))) | (apply callW.za; (first | exact (w2) | exact (w3))) | ((first|apply zg0|apply zg1|apply zg2|apply zg3|apply zg4|apply zg5|apply zg6|apply zg7)<;>intro ht));all_goals try simp (disch:=first|omega|(simp only [lens,z6,z7,List.length_reverse,List.length_map];first|done|omega)) only [go_sem,reduceEqDiff,Nat.reduceBEq,reduceAdd,reduceMul,reduceSub,reduceLeDiff,reduceToNat,reducePow, q0, q1, q7, q8, q9, q10, q20, hi']))
      obtain ⟨news, rfl⟩ := zb9 (Y := Y) (Y' := Y3) (by have := hle; simp at this; omega) fun q hq => by rw [hst q (by simp; omega)]; exact gapp hq
      exact DownV.pure hw (by simp [RL])
end Am
end Go.Proofs.YtjgljhbmljgaeaaDoor
end
section
/- A tree of keys, worked out: from its secrets to its leaves. -/
set_option maxRecDepth 4000
namespace Go.Proofs.YtjgljhbmljgaeaaDoor
namespace Am
open Pk (P Q M one pkN)
section
variable (c : UInt8) (i k : Nat)
end
section
variable (c : UInt8) (kk : Nat -> Nat)
end
end Am
end Go.Proofs.YtjgljhbmljgaeaaDoor
end
section
/- Paths: contracts: Path, of eight leaves in an array. -/
namespace Go.Proofs.YtjgljhbmljgaeaaDoor
namespace Am
/-- What proves that a leaf is among leaves, from the top on. -/
def z1z : Nat -> List Hash -> Nat -> List Hash
  | 0, _, _ => []
  | f + 1, l, i => if l.length <= 1 then [] else if i < zj l.length then z1b (l.drop (zj l.length)) :: z1z f (l.take (zj l.length)) i else z1b (l.take (zj l.length)) :: z1z f (l.drop (zj l.length)) (i - zj l.length)
def z1m (l : List Hash) (i : Nat) : List Hash := (z1z 3 l i).reverse
attribute [local irreducible] ACallsTo ACallsP
theorem zis (Y : Store) (r : Nat) (a b c : Hash) (hg : Y[r]? = some (some (hr [a, b, c]))) : ACallsTo TC 54 [.sl r 0 3 none 32] Y (.tup []) (Y.set r (some (hr [c, b, a]))) := by
  have d := slen hg
  have hl : (hr [a, b, c]).length = 3 := rfl
  have e0 : (hr [a, b, c])[0]? = some (hc a) := rfl
  have e2 : (hr [a, b, c])[2]? = some (hc c) := rfl
  have s1 : ((hr [a, b, c]).set 0 (hc c)).set 2 (hc a) = hr [c, b, a] := rfl
  refine ACallsTo.of_body_keep qyok (by simp) ?_
  repeat' (first|refine zW.zs ?_|refine zW.zb ?_|refine zW.zc ?_|refine zW.zt rfl ?_|refine zW.zf rfl ?_|(refine zW.zd rfl (fun ht => ?_) (fun ht => ?_)<;>try (exfalso;omega))|((first|refine zW.zr ?_|refine zW.zk ?_|refine zW.ze ?_|refine zW.zq ?_|((first|apply zg0|apply zg1|apply zg2|apply zg3|apply zg4|apply zg5|apply zg6|apply zg7)<;>intro ht));all_goals try simp (disch:=first|omega|(simp only [lens,z6,z7,List.length_reverse,List.length_map,List.length_take,List.length_drop];first|done|omega)) only [go_sem,reduceEqDiff,Nat.reduceBEq,reduceAdd,reduceMul,reduceSub,reduceLeDiff,reduceToNat,reducePow]))
  refine zW.loop (fun m O Y' => (m = 1 /\ Y' = Y /\ O 0 = .sl r 0 3 none 32 /\ O 2 = .int .i64 0 /\ O 3 = .int .i64 2) \/ (m = 0 /\ Y' = Y.set r (some (hr [c, b, a])) /\ O 2 = .int .i64 1 /\ O 3 = .int .i64 1)) 1 ?_ ?_
  · exact .inl ⟨rfl, rfl, by simp (disch:=first|omega|(simp only [lens,z6,z7,List.length_reverse,List.length_map,List.length_take,List.length_drop];first|done|omega)) only [go_sem,reduceEqDiff,Nat.reduceBEq,reduceAdd,reduceMul,reduceSub,reduceLeDiff,reduceToNat,reducePow], by simp (disch:=first|omega|(simp only [lens,z6,z7,List.length_reverse,List.length_map,List.length_take,List.length_drop];first|done|omega)) only [go_sem,reduceEqDiff,Nat.reduceBEq,reduceAdd,reduceMul,reduceSub,reduceLeDiff,reduceToNat,reducePow], by simp (disch:=first|omega|(simp only [lens,z6,z7,List.length_reverse,List.length_map,List.length_take,List.length_drop];first|done|omega)) only [go_sem,reduceEqDiff,Nat.reduceBEq,reduceAdd,reduceMul,reduceSub,reduceLeDiff,reduceToNat,reducePow]; rfl⟩
  · rintro m O Y' (⟨rfl, rfl, q0, q2, q3⟩ | ⟨rfl, rfl, q2, q3⟩)
    · generalize hr [a, b, c] = L at *
      repeat' (first|refine zW.zs ?_|refine zW.zb ?_|refine zW.zc ?_|refine zW.zt rfl ?_|refine zW.zf rfl ?_|(refine zW.zd rfl (fun ht => ?_) (fun ht => ?_)<;>try (exfalso;omega))|((first|refine zW.zr ?_|refine zW.zk ?_|refine zW.ze ?_|refine zW.zq ?_|((first|apply zg0|apply zg1|apply zg2|apply zg3|apply zg4|apply zg5|apply zg6|apply zg7)<;>intro ht));all_goals try simp (disch:=first|omega|(simp only [lens,z6,z7,List.length_reverse,List.length_map,List.length_take,List.length_drop];first|done|omega)) only [go_sem,reduceEqDiff,Nat.reduceBEq,reduceAdd,reduceMul,reduceSub,reduceLeDiff,reduceToNat,reducePow, q0, q2, q3, hg, hl, e0, e2, s1]))
      exact ⟨0, by omega, .inr ⟨rfl, rfl, rfl⟩⟩
    · repeat' (first|refine zW.zs ?_|refine zW.zb ?_|refine zW.zc ?_|refine zW.zt rfl ?_|refine zW.zf rfl ?_|(refine zW.zd rfl (fun ht => ?_) (fun ht => ?_)<;>try (exfalso;omega))|((first|refine zW.zr ?_|refine zW.zk ?_|refine zW.ze ?_|refine zW.zq ?_|((first|apply zg0|apply zg1|apply zg2|apply zg3|apply zg4|apply zg5|apply zg6|apply zg7)<;>intro ht));all_goals try simp (disch:=first|omega|(simp only [lens,z6,z7,List.length_reverse,List.length_map,List.length_take,List.length_drop];first|done|omega)) only [go_sem,reduceEqDiff,Nat.reduceBEq,reduceAdd,reduceMul,reduceSub,reduceLeDiff,reduceToNat,reducePow, q2, q3, z41]))
end Am
end Go.Proofs.YtjgljhbmljgaeaaDoor
end
section
/- Paths: contracts: Path; a tree's leaves, lent. -/
namespace Go.Proofs.YtjgljhbmljgaeaaDoor
namespace Am
theorem zgf (l : List Hash) (i : Nat) (h : l.length = 8) : (z1z 3 l i).length = 3 := by
  have e8 := spl8
  have e4 := spl4
  have e2 := spl2
  unfold z1z
  rw [if_neg (by omega), h, e8]
  split
  · unfold z1z
    rw [List.length_take, h, if_neg (by omega), show min 4 8 = 4 from rfl, e4, List.length_cons]
    split
    · unfold z1z
      simp [h, e2, z1z]
      split <;> rfl
    · unfold z1z
      simp [h, e2, z1z]
      split <;> rfl
  · unfold z1z
    rw [List.length_drop, h, if_neg (by omega), show 8 - 4 = 4 from rfl, e4, List.length_cons]
    split
    · unfold z1z
      simp [h, e2, z1z]
      split <;> rfl
    · unfold z1z
      simp [h, e2, z1z]
      split <;> rfl
attribute [local irreducible] ACallsTo ACallsP
set_option maxHeartbeats 8000000 in
theorem Path_v (Y : Store) (K : List Hash) (ex : Bool) (i : Nat) (hK : K.length = 8) (hi : i < 8) : ACallsTo TC 30 [.vsl 32 (hr K) ex, .int .i64 i] Y (.tup [.sl Y.length 0 3 none 32, .int .i64 0]) (Y ++ [some (hr (z1m K i))]) := by
  refine ACallsTo.of_body qwok (by simp) fun hw _ => ?_
  have hK' : (K.length : Int) = 8 := by omega
  repeat' (first|refine zW.zs ?_|refine zW.zb ?_|refine zW.zc ?_|refine zW.zt rfl ?_|refine zW.zf rfl ?_|(refine zW.zd rfl (fun ht => ?_) (fun ht => ?_)<;>try (exfalso;omega))|((first|refine zW.zr ?_|refine zW.zk ?_|refine zW.ze ?_|refine zW.zq ?_|((first|apply zg0|apply zg1|apply zg2|apply zg3|apply zg4|apply zg5|apply zg6|apply zg7)<;>intro ht));all_goals try simp (disch:=first|omega|(simp only [lens,z6,z7,List.length_reverse,List.length_map,List.length_take,List.length_drop];first|done|omega)) only [go_sem,reduceEqDiff,Nat.reduceBEq,reduceAdd,reduceMul,reduceSub,reduceLeDiff,reduceToNat,reducePow, hK']))
  refine zW.loop (fun m O Y' => ∃ (l acc : List Hash) (j : Nat) (ex : Bool) (v : AV), l.length = 2 ^ m /\ m <= 3 /\ j < l.length /\ acc.length + m = 3 /\ OwnN 32 Y Y' v (hr acc) /\ z1z 3 K i = acc ++ z1z m l j /\ O 0 = .vsl 32 (hr l) ex /\ O 1 = .int .i64 j /\ O 6 = v) 3 ?_ ?_
  · exact ⟨K, [], i, ex, .nilsl, hK, by omega, by omega, rfl, ⟨[], by simp, .inl ⟨rfl, rfl⟩⟩, rfl, by simp (disch:=first|omega|(simp only [lens,z6,z7,List.length_reverse,List.length_map,List.length_take,List.length_drop];first|done|omega)) only [go_sem,reduceEqDiff,Nat.reduceBEq,reduceAdd,reduceMul,reduceSub,reduceLeDiff,reduceToNat,reducePow], by simp (disch:=first|omega|(simp only [lens,z6,z7,List.length_reverse,List.length_map,List.length_take,List.length_drop];first|done|omega)) only [go_sem,reduceEqDiff,Nat.reduceBEq,reduceAdd,reduceMul,reduceSub,reduceLeDiff,reduceToNat,reducePow], by simp (disch:=first|omega|(simp only [lens,z6,z7,List.length_reverse,List.length_map,List.length_take,List.length_drop];first|done|omega)) only [go_sem,reduceEqDiff,Nat.reduceBEq,reduceAdd,reduceMul,reduceSub,reduceLeDiff,reduceToNat,reducePow]⟩
  · rintro m O Y' ⟨l, acc, j, ex, v, hl, hm, hj, hacc, hO, hp, q0, q1, q6⟩
    match m, hl, hm, hacc, hp with
    | 0, hl, _, hacc, hp =>
      have hl1 : ¬ (l.length : Int) > 1 := by omega
      have hp0 : z1z 0 l j = [] := rfl
      rw [hp0, List.append_nil] at hp
      obtain ⟨news, hne⟩ := hO.ext
      have hn0 : hr acc ≠ [] := fun e => by rw [hr_nil_iff] at e; subst e; simp at hacc
      obtain ⟨r, rfl, hg, hk⟩ := hO.sl hn0
      match acc, hacc with
      | [a, b, c], _ =>
        have hRv := zis Y' r a b c hg
        have dr := slen hg
        have hph : z1m K i = [c, b, a] := by unfold z1m; rw [hp]; rfl
        rw [show (hr [a, b, c]).length = 3 from rfl] at *
        repeat' (first|refine zW.zs ?_|refine zW.zb ?_|refine zW.zc ?_|refine zW.zt rfl ?_|refine zW.zf rfl ?_|(refine zW.zd rfl (fun ht => ?_) (fun ht => ?_)<;>try (exfalso;omega))|((first|refine zW.zr ?_|refine zW.zk ?_|refine zW.ze ?_|refine zW.zq ?_|(apply callW.mk_pu; (first | exact (fun _ => hRv))) | (apply callW.za; (first | exact (hRv))) | ((first|apply zg0|apply zg1|apply zg2|apply zg3|apply zg4|apply zg5|apply zg6|apply zg7)<;>intro ht));all_goals try simp (disch:=first|omega|(simp only [lens,z6,z7,List.length_reverse,List.length_map,List.length_take,List.length_drop];first|done|omega)) only [go_sem,reduceEqDiff,Nat.reduceBEq,reduceAdd,reduceMul,reduceSub,reduceLeDiff,reduceToNat,reducePow, q0, q1, q6, hl1]))
        rw [hph]
        obtain ⟨news2, hn2⟩ : Ext Y (Y'.set r (some (hr [c, b, a]))) := Ext.set ⟨news, hne⟩ hk
        rw [hn2]
        have hg2 : (Y ++ news2)[r]? = some (some (hr [c, b, a])) := by rw [<- hn2, z2d dr]
        obtain ⟨j, rfl⟩ : ∃ j, r = Y.length + j := ⟨r - Y.length, by omega⟩
        rw [z1n (by omega), Nat.add_sub_cancel_left] at hg2
        exact DownV.tup2 (DownV.own hw hg2 (z2t _))
    | m + 1, hl, hm, hacc, hp =>
      have hl1 : (l.length : Int) > 1 := by have : 1 <= 2 ^ m := Nat.one_le_two_pow; rw [hl, Nat.pow_succ]; omega
      have hlen2 : l.length <= 8 := by rw [hl]; have : 2 ^ (m + 1) <= 2 ^ 3 := Nat.pow_le_pow_right (by omega) hm; omega
      have hsk : zj l.length = 2 ^ m := by rw [hl]; exact zab m
      have hSp := fun Y => z8y Y l.length (by omega)
      rw [hsk] at hSp
      have hpm : 2 ^ m + 2 ^ m = l.length := by rw [hl, Nat.pow_succ]; omega
      have hpos : 0 < 2 ^ m := Nat.pos_of_ne_zero (by simp)
      have hRa := fun Y t => zaf Y (l.take (2 ^ m)) (.vsl 32 (hr (l.take (2 ^ m))) t) (.of (.inr ⟨t, rfl⟩)) (by rw [List.length_take]; omega)
      have hRb := fun Y t => zaf Y (l.drop (2 ^ m)) (.vsl 32 (hr (l.drop (2 ^ m))) t) (.of (.inr ⟨t, rfl⟩)) (by rw [List.length_drop]; omega)
      have hun : z1z (m + 1) l j = if j < 2 ^ m then z1b (l.drop (2 ^ m)) :: z1z m (l.take (2 ^ m)) j else z1b (l.take (2 ^ m)) :: z1z m (l.drop (2 ^ m)) (j - 2 ^ m) := by
        rw [z1z, if_neg (by omega), hsk]
      have tl : (l.take (2 ^ m)).length = 2 ^ m := by rw [List.length_take]; omega
      have dl : (l.drop (2 ^ m)).length = 2 ^ m := by rw [List.length_drop]; omega
      rw [hun] at hp
      generalize hkk : 2 ^ m = k at *
      by_cases hj2 : j < k
      · rw [if_pos hj2] at hp
        have hj2' : (j : Int) < k := by omega
        generalize z1b (l.drop k) = R at *
        obtain ⟨v', Y2, ha, hO2⟩ := hO.app (ys := [hc R]) (by simp) (by rw [z7]; simp; omega)
        rw [show hr acc ++ [hc R] = hr (acc ++ [R]) by simp [hr]] at hO2
        repeat' (first|refine zW.zs ?_|refine zW.zb ?_|refine zW.zc ?_|refine zW.zt rfl ?_|refine zW.zf rfl ?_|(refine zW.zd rfl (fun ht => ?_) (fun ht => ?_)<;>try (exfalso;omega))|((first|refine zW.zr ?_|refine zW.zk ?_|refine zW.ze ?_|refine zW.zq ?_|(apply callW.mk_pu; (first | exact (fun _ => hSp _) | exact (fun _ => hRa _ _) | exact (fun _ => hRb _ _))) | (apply callW.za; (first | exact (hSp _) | exact (hRa _ _) | exact (hRb _ _))) | ((first|apply zg0|apply zg1|apply zg2|apply zg3|apply zg4|apply zg5|apply zg6|apply zg7)<;>intro ht));all_goals try simp (disch:=first|omega|(simp only [lens,z6,z7,List.length_reverse,List.length_map,List.length_take,List.length_drop];first|done|omega)) only [go_sem,reduceEqDiff,Nat.reduceBEq,reduceAdd,reduceMul,reduceSub,reduceLeDiff,reduceToNat,reducePow, q0, q1, q6, hl1, hj2', ha, Int.toNat_natCast]))
        exact ⟨m, by omega, l.take k, acc ++ [R], j, _, v', by rw [tl, hkk], by omega, by omega, by simp; omega, hO2, by rw [hp]; simp, rfl, rfl, rfl⟩
      · rw [if_neg hj2] at hp
        have hj2' : ¬ (j : Int) < k := by omega
        generalize z1b (l.take k) = R at *
        obtain ⟨v', Y2, ha, hO2⟩ := hO.app (ys := [hc R]) (by simp) (by rw [z7]; simp; omega)
        rw [show hr acc ++ [hc R] = hr (acc ++ [R]) by simp [hr]] at hO2
        repeat' (first|refine zW.zs ?_|refine zW.zb ?_|refine zW.zc ?_|refine zW.zt rfl ?_|refine zW.zf rfl ?_|(refine zW.zd rfl (fun ht => ?_) (fun ht => ?_)<;>try (exfalso;omega))|((first|refine zW.zr ?_|refine zW.zk ?_|refine zW.ze ?_|refine zW.zq ?_|(apply callW.mk_pu; (first | exact (fun _ => hSp _) | exact (fun _ => hRa _ _) | exact (fun _ => hRb _ _))) | (apply callW.za; (first | exact (hSp _) | exact (hRa _ _) | exact (hRb _ _))) | ((first|apply zg0|apply zg1|apply zg2|apply zg3|apply zg4|apply zg5|apply zg6|apply zg7)<;>intro ht));all_goals try simp (disch:=first|omega|(simp only [lens,z6,z7,List.length_reverse,List.length_map,List.length_take,List.length_drop];first|done|omega)) only [go_sem,reduceEqDiff,Nat.reduceBEq,reduceAdd,reduceMul,reduceSub,reduceLeDiff,reduceToNat,reducePow, q0, q1, q6, hl1, hj2', ha, Int.toNat_natCast]))
        exact ⟨m, by omega, l.drop k, acc ++ [R], j - k, _, v', by rw [dl, hkk], by omega, by omega, by simp; omega, hO2, by rw [hp]; simp, rfl, by congr 1; omega, rfl⟩
end Am
end Go.Proofs.YtjgljhbmljgaeaaDoor
end
section
/- A tree of keys: contracts: New, Root, Sign. -/
namespace Go.Proofs.YtjgljhbmljgaeaaDoor
namespace Am
/-- The leaves of a seed's tree. -/
def keyL (seed : List UInt8) : List Hash := (List.range 8).map fun i : Nat => z2p (pubH seed i)
theorem z2x (seed : List UInt8) : (keyL seed).length = 8 := by simp [keyL]
def keyZ (seed : List UInt8) (i : Nat) : List Hash := (keyL seed).take i ++ List.replicate (8 - i) zeroH
theorem zmm (seed : List UInt8) (k : Nat) (h : k <= 8) : (keyZ seed k).length = 8 := by
  unfold keyZ
  rw [List.length_append, List.length_take, z2x, List.length_replicate]; omega
theorem zmj (seed : List UInt8) (i : Nat) (h : i < 8) : (keyL seed).take (i + 1) = (keyL seed).take i ++ [z2p (pubH seed i)] := by
  rw [zd9 (by rw [z2x]; exact h), z8g (by rw [z2x]; exact h)]
  simp [keyL]
theorem zmn (seed : List UInt8) (k : Nat) (h : k < 8) : (keyZ seed k).set k (z2p (pubH seed k)) = keyZ seed (k + 1) := by
  unfold keyZ
  have e : 8 - k = (8 - (k + 1)) + 1 := by omega
  have l : ((keyL seed).take k).length = k := by rw [List.length_take, z2x]; omega
  rw [e, List.replicate_succ, List.set_append_right _ _ (by omega), l, Nat.sub_self, List.set_cons_zero, zmj _ _ h, List.append_assoc]
  rfl
theorem zml (seed : List UInt8) : keyZ seed 8 = keyL seed := by
  unfold keyZ
  rw [List.take_of_length_le (by rw [z2x]; omega)]; simp
/-- A tree's cells. -/
def z1g (b : Bool) (seed : List UInt8) (K : List Hash) : List AV := .bool b :: .str seed :: (hr K).flatten
theorem zez : ∀ (K : List Hash), (hr K).flatten.length = 32 * K.length
  | [] => rfl
  | h :: K => by rw [z8i, List.flatten_cons, List.length_append, z6, zez K, List.length_cons]; omega
@[go_sem] theorem zda (b : Bool) (seed : List UInt8) (K : List Hash) : (z1g b seed K).length = 2 + 32 * K.length := by rw [z1g, List.length_cons, List.length_cons, zez]; omega
@[go_sem] theorem treeC_0 (b : Bool) (seed : List UInt8) (K : List Hash) : (z1g b seed K)[0]? = some (.bool b) := rfl
@[go_sem] theorem treeC_1 (b : Bool) (seed : List UInt8) (K : List Hash) : (z1g b seed K)[1]? = some (.str seed) := rfl
theorem zf0 : ∀ (K : List Hash) (i : Nat) (x : Hash), i < K.length -> (hr K).flatten.take (32 * i) ++ (hc x ++ (hr K).flatten.drop (32 * i + 32)) = (hr (K.set i x)).flatten
  | h :: K, 0, x, _ => by
    rw [Nat.mul_zero, List.take_zero, List.nil_append, Nat.zero_add, List.set_cons_zero, z8i, z8i, List.flatten_cons, List.flatten_cons, List.drop_append_of_le_length (by rw [z6]; omega), List.drop_of_length_le (by rw [z6]; omega), List.nil_append]
  | h :: K, i + 1, x, hi => by
    rw [z8i, List.flatten_cons, show 32 * (i + 1) = 32 + 32 * i by omega, show 32 + 32 * i + 32 = 32 + (32 * i + 32) by omega, <- List.drop_drop, List.drop_append_of_le_length (l₁ := hc h) (by rw [z6]; omega), List.drop_of_length_le (l := hc h) (by rw [z6]; omega), List.nil_append]
    have e : (hc h ++ (hr K).flatten).take (32 + 32 * i) = hc h ++ (hr K).flatten.take (32 * i) := by
      rw [List.take_append, List.take_of_length_le (l := hc h) (by rw [z6]; omega), z6, Nat.add_sub_cancel_left]
    rw [e, List.append_assoc, zf0 K i x (by simpa using hi), List.set_cons_succ, z8i, List.flatten_cons]
theorem zqm (b : Bool) (seed : List UInt8) (K : List Hash) (i : Nat) (x : Hash) (hi : i < K.length) : (z1g b seed K).take (2 + i * 32) ++ (hc x ++ (z1g b seed K).drop (2 + i * 32 + 32)) = z1g b seed (K.set i x) := by
  have h := zf0 K i x hi
  unfold z1g
  rw [show 2 + i * 32 + 32 = (32 * i + 32) + 1 + 1 by omega, show 2 + i * 32 = 32 * i + 1 + 1 by omega, List.take_succ_cons, List.take_succ_cons, List.drop_succ_cons, List.drop_succ_cons, List.cons_append, List.cons_append, h]
theorem zhp {Y : Store} {r : Nat} {seed : List UInt8} {K : List Hash} (cap : Nat) (hg : Y[r]? = some (some [z1g true seed K])) (hK : K.length = 8) : DR (z3g Y) (.vsl 32 (hr K) false) (.asl r 0 2 8 cap 32) := by
  have h := zmq (Y := Y) (r := r) (i := 0) (off := 2) (cap := cap) (esz := 32) (o := [z1g true seed K]) (es := hr K) (cs := z1g true seed K) (rest := []) hg rfl (by rw [zda]; omega) (by rw [List.append_nil]; rfl) (fun e he => by
    simp only [hr, List.mem_map] at he
    obtain ⟨x, _, rfl⟩ := he
    exact z6 x) (by rw [z7, hK]; omega) (z2t K)
  rwa [z7, hK] at h
attribute [local irreducible] ACallsTo ACallsP pubH
theorem ziu (Y : Store) (r : Nat) (seed : List UInt8) (K : List Hash) (cap : Nat) (hg : Y[r]? = some (some [z1g true seed K])) (hK : K.length = 8) : ACallsTo TC 24 [.asl r 0 2 8 cap 32] Y (.agg (hc (z1b K))) Y := by
  have := ACallsTo.lend glok (zaf [] K (.vsl 32 (hr K) false) (.of (.inr ⟨false, rfl⟩)) (by omega)) (drs1 (zhp cap hg hK))
  have e : sh Y.length (.agg (hc (z1b K))) = .agg (hc (z1b K)) := by simp only [sh, zcv]
  rwa [e, z7c, List.append_nil] at this
theorem zik (Y : Store) (r : Nat) (seed : List UInt8) (K : List Hash) (cap i : Nat) (hg : Y[r]? = some (some [z1g true seed K])) (hK : K.length = 8) (hi : i < 8) : ACallsTo TC 30 [.asl r 0 2 8 cap 32, .int .i64 i] Y (.tup [.sl Y.length 0 3 none 32, .int .i64 0]) (Y ++ [some (hr (z1m K i))]) := by
  have := ACallsTo.lend glok (Path_v [] K false i hK hi) (drsc (zhp cap hg hK) (drs1 (rl0 (by simp [RL]) Y)))
  have e : shS Y.length ([] ++ [some (hr (z1m K i))]) = [some (hr (z1m K i))] := by
    simp only [List.nil_append, shS, List.map_cons, List.map_nil, Option.map_some, shss, hr, List.map_map]
    congr 2
    exact List.map_congr_left fun h _ => zcv _ h
  rw [e] at this
  simpa [sh, shs] using this
set_option maxRecDepth 100000 in
theorem zqo : ([.bool false, .str [], .int .u8 0, .int .u8 0, .int .u8 0, .int .u8 0, .int .u8 0, .int .u8 0, .int .u8 0, .int .u8 0, .int .u8 0, .int .u8 0, .int .u8 0, .int .u8 0, .int .u8 0, .int .u8 0, .int .u8 0, .int .u8 0, .int .u8 0, .int .u8 0, .int .u8 0, .int .u8 0, .int .u8 0, .int .u8 0, .int .u8 0, .int .u8 0, .int .u8 0, .int .u8 0, .int .u8 0, .int .u8 0, .int .u8 0, .int .u8 0, .int .u8 0, .int .u8 0, .int .u8 0, .int .u8 0, .int .u8 0, .int .u8 0, .int .u8 0, .int .u8 0, .int .u8 0, .int .u8 0, .int .u8 0, .int .u8 0, .int .u8 0, .int .u8 0, .int .u8 0, .int .u8 0, .int .u8 0, .int .u8 0, .int .u8 0, .int .u8 0, .int .u8 0, .int .u8 0, .int .u8 0, .int .u8 0, .int .u8 0, .int .u8 0, .int .u8 0, .int .u8 0, .int .u8 0, .int .u8 0, .int .u8 0, .int .u8 0, .int .u8 0, .int .u8 0, .int .u8 0, .int .u8 0, .int .u8 0, .int .u8 0, .int .u8 0, .int .u8 0, .int .u8 0, .int .u8 0, .int .u8 0, .int .u8 0, .int .u8 0, .int .u8 0, .int .u8 0, .int .u8 0, .int .u8 0, .int .u8 0, .int .u8 0, .int .u8 0, .int .u8 0, .int .u8 0, .int .u8 0, .int .u8 0, .int .u8 0, .int .u8 0, .int .u8 0, .int .u8 0, .int .u8 0, .int .u8 0, .int .u8 0, .int .u8 0, .int .u8 0, .int .u8 0, .int .u8 0, .int .u8 0, .int .u8 0, .int .u8 0, .int .u8 0, .int .u8 0, .int .u8 0, .int .u8 0, .int .u8 0, .int .u8 0, .int .u8 0, .int .u8 0, .int .u8 0, .int .u8 0, .int .u8 0, .int .u8 0, .int .u8 0, .int .u8 0, .int .u8 0, .int .u8 0, .int .u8 0, .int .u8 0, .int .u8 0, .int .u8 0, .int .u8 0, .int .u8 0, .int .u8 0, .int .u8 0, .int .u8 0, .int .u8 0, .int .u8 0, .int .u8 0, .int .u8 0, .int .u8 0, .int .u8 0, .int .u8 0, .int .u8 0, .int .u8 0, .int .u8 0, .int .u8 0, .int .u8 0, .int .u8 0, .int .u8 0, .int .u8 0, .int .u8 0, .int .u8 0, .int .u8 0, .int .u8 0, .int .u8 0, .int .u8 0, .int .u8 0, .int .u8 0, .int .u8 0, .int .u8 0, .int .u8 0, .int .u8 0, .int .u8 0, .int .u8 0, .int .u8 0, .int .u8 0, .int .u8 0, .int .u8 0, .int .u8 0, .int .u8 0, .int .u8 0, .int .u8 0, .int .u8 0, .int .u8 0, .int .u8 0, .int .u8 0, .int .u8 0, .int .u8 0, .int .u8 0, .int .u8 0, .int .u8 0, .int .u8 0, .int .u8 0, .int .u8 0, .int .u8 0, .int .u8 0, .int .u8 0, .int .u8 0, .int .u8 0, .int .u8 0, .int .u8 0, .int .u8 0, .int .u8 0, .int .u8 0, .int .u8 0, .int .u8 0, .int .u8 0, .int .u8 0, .int .u8 0, .int .u8 0, .int .u8 0, .int .u8 0, .int .u8 0, .int .u8 0, .int .u8 0, .int .u8 0, .int .u8 0, .int .u8 0, .int .u8 0, .int .u8 0, .int .u8 0, .int .u8 0, .int .u8 0, .int .u8 0, .int .u8 0, .int .u8 0, .int .u8 0, .int .u8 0, .int .u8 0, .int .u8 0, .int .u8 0, .int .u8 0, .int .u8 0, .int .u8 0, .int .u8 0, .int .u8 0, .int .u8 0, .int .u8 0, .int .u8 0, .int .u8 0, .int .u8 0, .int .u8 0, .int .u8 0, .int .u8 0, .int .u8 0, .int .u8 0, .int .u8 0, .int .u8 0, .int .u8 0, .int .u8 0, .int .u8 0, .int .u8 0, .int .u8 0, .int .u8 0, .int .u8 0, .int .u8 0, .int .u8 0, .int .u8 0, .int .u8 0, .int .u8 0, .int .u8 0, .int .u8 0, .int .u8 0, .int .u8 0, .int .u8 0, .int .u8 0, .int .u8 0, .int .u8 0, .int .u8 0, .int .u8 0, .int .u8 0, .int .u8 0, .int .u8 0, .int .u8 0, .int .u8 0, .int .u8 0] : List AV) = z1g false [] (List.replicate 8 zeroH) := by kernel_rfl
set_option maxHeartbeats 8000000 in
set_option maxRecDepth 100000 in
theorem zmk (Y : Store) (seed : List UInt8) (hs : seed.length < 1000000) : ACallsTo TC 43 [.str seed] Y (.ptr Y.length 0 0) (Y ++ [some [z1g true seed (keyL seed)]]) := by
  refine ACallsTo.of_body_keep q17ok (by simp) ?_
  repeat' (first|refine zW.zs ?_|refine zW.zb ?_|refine zW.zc ?_|refine zW.zt rfl ?_|refine zW.zf rfl ?_|(refine zW.zd rfl (fun ht => ?_) (fun ht => ?_)<;>try (exfalso;omega))|((first|refine zW.zr ?_|refine zW.zk ?_|refine zW.ze ?_|refine zW.zq ?_|((first|apply zg0|apply zg1|apply zg2|apply zg3|apply zg4|apply zg5|apply zg6|apply zg7)<;>intro ht));all_goals try simp (disch:=first|omega|(simp only [lens,z6,z7,List.length_reverse,List.length_map,List.length_take,List.length_drop];first|done|omega)) only [go_sem,reduceEqDiff,Nat.reduceBEq,reduceAdd,reduceMul,reduceSub,reduceLeDiff,reduceToNat,reducePow, zqo]))
  have h0 : (AV.bool true :: AV.str seed :: List.drop 1 (List.drop 1 (z1g false [] (List.replicate 8 zeroH)))) = z1g true seed (keyZ seed 0) := by unfold keyZ; rw [List.take_zero, List.nil_append]; rfl
  rw [h0]
  refine zW.loop (fun m O Y' => ∃ i : Nat, m + i = 8 /\ Y' = Y ++ [some [z1g true seed (keyZ seed i)]] /\ O 0 = .str seed /\ O 3 = .ptr Y.length 0 0 /\ O 8 = .int .i64 i) 8 ?_ ?_
  · exact ⟨0, by omega, rfl, by simp (disch:=first|omega|(simp only [lens,z6,z7,List.length_reverse,List.length_map,List.length_take,List.length_drop];first|done|omega)) only [go_sem,reduceEqDiff,Nat.reduceBEq,reduceAdd,reduceMul,reduceSub,reduceLeDiff,reduceToNat,reducePow], by simp (disch:=first|omega|(simp only [lens,z6,z7,List.length_reverse,List.length_map,List.length_take,List.length_drop];first|done|omega)) only [go_sem,reduceEqDiff,Nat.reduceBEq,reduceAdd,reduceMul,reduceSub,reduceLeDiff,reduceToNat,reducePow], by simp (disch:=first|omega|(simp only [lens,z6,z7,List.length_reverse,List.length_map,List.length_take,List.length_drop];first|done|omega)) only [go_sem,reduceEqDiff,Nat.reduceBEq,reduceAdd,reduceMul,reduceSub,reduceLeDiff,reduceToNat,reducePow]; rfl⟩
  · rintro m O Y' ⟨i, hm, rfl, q0, q3, q8⟩
    by_cases hi : i < 8
    · have hi' : (i : Int) < 8 := by omega
      have hP := fun Y => zdl Y seed i hs (by omega)
      have hL := fun Y => zdh Y (pubH seed i) (z11 32 (hr (pubH seed i))) (z6l _ _) (by rw [z3l]; omega)
      have hst := zmn seed i hi
      have hzl := zmm seed i (by omega)
      have hset := fun x => zqm true seed (keyZ seed i) i x (by omega)
      generalize keyZ seed i = L at *
      generalize hLF : z2p (pubH seed i) = X at *
      generalize z11 32 (hr (pubH seed i)) = PV at *
      repeat' (first|refine zW.zs ?_|refine zW.zb ?_|refine zW.zc ?_|refine zW.zt rfl ?_|refine zW.zf rfl ?_|(refine zW.zd rfl (fun ht => ?_) (fun ht => ?_)<;>try (exfalso;omega))|((first|refine zW.zr ?_|refine zW.zk ?_|refine zW.ze ?_|refine zW.zq ?_|(apply callW.mk_pu; (first | exact (fun _ => hP _) | exact (fun _ => hL _))) | (apply callW.za; (first | exact (hP _) | exact (hL _))) | ((first|apply zg0|apply zg1|apply zg2|apply zg3|apply zg4|apply zg5|apply zg6|apply zg7)<;>intro ht));all_goals try simp (disch:=first|omega|(simp only [lens,z6,z7,List.length_reverse,List.length_map,List.length_take,List.length_drop];first|done|omega)) only [go_sem,reduceEqDiff,Nat.reduceBEq,reduceAdd,reduceMul,reduceSub,reduceLeDiff,reduceToNat,reducePow, q0, q3, q8, hi', hzl, hset, Int.toNat_natCast]))
      exact ⟨m - 1, by omega, i + 1, by omega, by rw [<- hst], by simp⟩
    · obtain rfl : i = 8 := by omega
      have hi' : ¬ ((8 : Nat) : Int) < 8 := by omega
      repeat' (first|refine zW.zs ?_|refine zW.zb ?_|refine zW.zc ?_|refine zW.zt rfl ?_|refine zW.zf rfl ?_|(refine zW.zd rfl (fun ht => ?_) (fun ht => ?_)<;>try (exfalso;omega))|((first|refine zW.zr ?_|refine zW.zk ?_|refine zW.ze ?_|refine zW.zq ?_|((first|apply zg0|apply zg1|apply zg2|apply zg3|apply zg4|apply zg5|apply zg6|apply zg7)<;>intro ht));all_goals try simp (disch:=first|omega|(simp only [lens,z6,z7,List.length_reverse,List.length_map,List.length_take,List.length_drop];first|done|omega)) only [go_sem,reduceEqDiff,Nat.reduceBEq,reduceAdd,reduceMul,reduceSub,reduceLeDiff,reduceToNat,reducePow, q0, q3, q8, hi', z41]))
      rw [zml]
end Am
end Go.Proofs.YtjgljhbmljgaeaaDoor
end
section
/- Trees of keys, worked out: of the seeds "a", "k", "f". -/
set_option maxRecDepth 4000
namespace Go.Proofs.YtjgljhbmljgaeaaDoor
namespace Am
end Am
end Go.Proofs.YtjgljhbmljgaeaaDoor
end
section
/- A tree of keys: contracts: Root, Sign. -/
namespace Go.Proofs.YtjgljhbmljgaeaaDoor
namespace Am
attribute [local irreducible] ACallsTo ACallsP pubH
theorem zho (Y : Store) (r : Nat) (seed : List UInt8) (K : List Hash) (hg : Y[r]? = some (some [z1g true seed K])) (hK : K.length = 8) : ACallsTo TC 28 [.ptr r 0 0] Y (.agg (hc (z1b K))) Y := by
  have d := slen hg
  have hR := fun y cap => ziu (Y ++ y) r seed K cap (by rw [gapp d]; exact hg) hK
  refine ACallsTo.of_body q18ok (by simp) fun hw _ => ?_
  repeat' (first|refine zW.zs ?_|refine zW.zb ?_|refine zW.zc ?_|refine zW.zt rfl ?_|refine zW.zf rfl ?_|(refine zW.zd rfl (fun ht => ?_) (fun ht => ?_)<;>try (exfalso;omega))|((first|refine zW.zr ?_|refine zW.zk ?_|refine zW.ze ?_|refine zW.zq ?_|(apply callW.mk_pu; (first | exact (fun _ => hR _ _))) | (apply callW.za; (first | exact (hR _ _))) | ((first|apply zg0|apply zg1|apply zg2|apply zg3|apply zg4|apply zg5|apply zg6|apply zg7)<;>intro ht));all_goals try simp (disch:=first|omega|(simp only [lens,z6,z7,List.length_reverse,List.length_map,List.length_take,List.length_drop];first|done|omega)) only [go_sem,reduceEqDiff,Nat.reduceBEq,reduceAdd,reduceMul,reduceSub,reduceLeDiff,reduceToNat,reducePow, hg, hK]))
  exact DownV.pure hw (z3d _)
def zcq (i : Int) (s : List UInt8) (p : AV) (e : Int) : AV := .tup [.agg [.int .i64 i, .str s, p], .int .i64 e]
set_option maxHeartbeats 4000000 in
theorem zqn (Y : Store) (r : Nat) (seed : List UInt8) (K : List Hash) (i : Nat) (dg : Hash) (hg : Y[r]? = some (some [z1g true seed K])) (hK : K.length = 8) (hi : i < 8) (hs : seed.length < 1000000) :
    ACallsTo TC 39 [.ptr r 0 0, .int .i64 i, .agg (hc dg)] Y (zcq i (ksgS seed i dg.1) (z11 32 (hr (z1m K i))) 0) Y := by
  have d := slen hg
  have hP := fun y cap => zik (Y ++ y) r seed K cap i (by rw [gapp d]; exact hg) hK hi
  have hS := fun Y => ziv Y seed i dg hs (by omega)
  have hpl : (z1m K i).length = 3 := by unfold z1m; rw [List.length_reverse, zgf K i hK]
  have hne : hr (z1m K i) ≠ [] := fun e => by have := congrArg List.length e; rw [z7, hpl] at this; simp at this
  unfold zcq
  generalize ksgS seed i dg.1 = sig at *
  generalize z1m K i = PH at *
  refine ACallsTo.of_body q19ok (by simp) fun hw _ => ?_
  repeat' (first|refine zW.zs ?_|refine zW.zb ?_|refine zW.zc ?_|refine zW.zt rfl ?_|refine zW.zf rfl ?_|(refine zW.zd rfl (fun ht => ?_) (fun ht => ?_)<;>try (exfalso;omega))|((first|refine zW.zr ?_|refine zW.zk ?_|refine zW.ze ?_|refine zW.zq ?_|(apply callW.mk_pu; (first | exact (fun _ => hP _ _) | exact (fun _ => hS _))) | (apply callW.za; (first | exact (hP _ _) | exact (hS _))) | ((first|apply zg0|apply zg1|apply zg2|apply zg3|apply zg4|apply zg5|apply zg6|apply zg7)<;>intro ht));all_goals try simp (disch:=first|omega|(simp only [lens,z6,z7,List.length_reverse,List.length_map,List.length_take,List.length_drop];first|done|omega)) only [go_sem,reduceEqDiff,Nat.reduceBEq,reduceAdd,reduceMul,reduceSub,reduceLeDiff,reduceToNat,reducePow, hg, hK]))
  refine DownV.all hw (drT (drsc (drA (drsc (FrzD.same (by simp [RL])) (drsc (FrzD.same (by simp [RL])) (drs1 ?_)))) (drs1 (FrzD.same (by simp [RL])))))
  unfold z11
  rw [if_neg hne]
  have hf := FrzD.sl (τ := Y) (news := [some [hc dg], some [[AV.int IntKind.i64 i, AV.str sig, AV.sl (Y.length + 2) 0 3 none 32]], some (hr PH)]) (r := Y.length + 2) (off := 0) (lim := none) (esz := 32) (o := hr PH) (es := hr PH) (by omega) (by rw [z1n (by omega), Nat.add_sub_cancel_left]; rfl) (by omega) (by simp) (z2t _)
  rw [show (hr PH).length = 3 by rw [z7, hpl]] at hf
  exact hf
end Am
end Go.Proofs.YtjgljhbmljgaeaaDoor
end
section
/- Keys: what a signature gives back; that a leaf's path leads to the root. -/
namespace Go.Proofs.YtjgljhbmljgaeaaDoor
namespace Am
theorem zh0 (seed : List UInt8) (idx : Int) (d : List UInt8) (i : Nat) : ∀ n, i <= n -> (sgA seed idx d n).take (32 * i) = sgA seed idx d i
  | 0, h => by obtain rfl : i = 0 := by omega
               rfl
  | n + 1, h => by
    by_cases h1 : i = n + 1
    · subst h1; rw [<- z62 seed idx d (n + 1), List.take_length]
    · rw [sgA, List.take_append_of_le_length (by rw [z62]; omega)]
      exact zh0 seed idx d i n (by omega)
theorem zh1 (seed : List UInt8) (idx : Int) (d : List UInt8) (i : Nat) : ∀ n, i <= n -> (sgB seed idx d n).take (32 * i) = sgB seed idx d i
  | 0, h => by obtain rfl : i = 0 := by omega
               rfl
  | n + 1, h => by
    by_cases h1 : i = n + 1
    · subst h1; rw [<- z7b seed idx d (n + 1), List.take_length]
    · rw [sgB, List.take_append_of_le_length (by rw [z7b]; omega)]
      exact zh1 seed idx d i n (by omega)
theorem zps (seed : List UInt8) (idx : Int) (d : List UInt8) (i : Nat) (h : i < 256) : ((ksgS seed idx d).take (32 * i + 32)).drop (32 * i) = (secH seed idx (2 * (i : Int) + bitS d i)).1 := by
  unfold ksgS
  rw [List.take_append_of_le_length (by rw [z62]; omega), show 32 * i + 32 = 32 * (i + 1) by omega, zh0 seed idx d (i + 1) 256 (by omega), sgA, <- z62 seed idx d i, List.drop_left]
theorem zpr (seed : List UInt8) (idx : Int) (d : List UInt8) (i : Nat) (h : i < 256) : ((ksgS seed idx d).drop (8192 + 32 * i)).take 32 = (shwH seed idx ((2 * i + 1 - bitS d i : Nat) : Int)).1 := by
  unfold ksgS
  have e : (sgA seed idx d 256).length = 8192 := z62 seed idx d 256
  rw [<- List.drop_drop, <- e, List.drop_left]
  have h2 := zh1 seed idx d (i + 1) 256 (by omega)
  rw [show 32 * (i + 1) = 32 * i + 32 by omega] at h2
  rw [List.take_drop, h2, sgB, <- z7b seed idx d i, List.drop_left]
/-- Which shown secret stands where, when a signature of one digest is taken for another one's. -/
def rkK (d d' : List UInt8) (k : Nat) : Nat := if bitS d ((k / 2 : Nat) : Int) = bitS d' ((k / 2 : Nat) : Int) then k else if k % 2 = 0 then k + 1 else k - 1
theorem zph {α : Type} (A R : List α) (z x y : α) : ((A ++ z :: z :: R).set A.length x).set (A.length + 1) y = A ++ x :: y :: R /\ ((A ++ z :: z :: R).set (A.length + 1) y).set A.length x = A ++ x :: y :: R := by
  constructor
  · rw [List.set_append_right _ _ (Nat.le_refl _), Nat.sub_self, List.set_cons_zero, List.set_append_right _ _ (by omega), Nat.add_sub_cancel_left]; rfl
  · rw [List.set_append_right _ _ (by omega), Nat.add_sub_cancel_left, List.set_cons_succ, List.set_cons_zero, List.set_append_right _ _ (Nat.le_refl _), Nat.sub_self, List.set_cons_zero]
theorem zgl (seed : List UInt8) (idx : Int) (d d' : List UInt8) : ∀ n, n <= 256 -> recF (ksgS seed idx d) d' n = (List.range (2 * n)).map (fun k : Nat => shwH seed idx (rkK d d' k : Nat)) ++ List.replicate (512 - 2 * n) zeroH
  | 0, _ => by rw [recF]; rfl
  | n + 1, h => by
    rw [recF, zgl seed idx d d' n (by omega), recS, zps seed idx d n (by omega), zpr seed idx d n (by omega), zql]
    have hl : ((List.range (2 * n)).map (fun k : Nat => shwH seed idx (rkK d d' k : Nat))).length = 2 * n := by simp
    have e1 : List.replicate (512 - 2 * n) zeroH = zeroH :: zeroH :: List.replicate (512 - 2 * (n + 1)) zeroH := by
      rw [show 512 - 2 * n = (512 - 2 * (n + 1)) + 1 + 1 by omega, List.replicate_succ, List.replicate_succ]
    have e2 : (List.range (2 * (n + 1))).map (fun k : Nat => shwH seed idx (rkK d d' k : Nat)) = (List.range (2 * n)).map (fun k : Nat => shwH seed idx (rkK d d' k : Nat)) ++ [shwH seed idx (rkK d d' (2 * n) : Nat), shwH seed idx (rkK d d' (2 * n + 1) : Nat)] := by
      rw [show 2 * (n + 1) = 2 * n + 1 + 1 by omega, List.range_succ, List.range_succ, List.map_append, List.map_append, List.append_assoc]; rfl
    have hb := z9k d n
    have hb' := z9k d' n
    have r0 : rkK d d' (2 * n) = if bitS d n = bitS d' n then 2 * n else 2 * n + 1 := by
      unfold rkK
      rw [show 2 * n / 2 = n by omega]
      split
      · rfl
      · rw [if_pos (by omega)]
    have r1 : rkK d d' (2 * n + 1) = if bitS d n = bitS d' n then 2 * n + 1 else 2 * n := by
      unfold rkK
      rw [show (2 * n + 1) / 2 = n by omega]
      split
      · rfl
      · rw [if_neg (by omega)]; omega
    rw [e1, e2, r0, r1]
    have hs : z6j (secH seed idx (2 * (n : Int) + bitS d n)).1 = shwH seed idx ((2 * n + bitS d n : Nat) : Int) := by
      rw [show ((2 * n + bitS d n : Nat) : Int) = 2 * (n : Int) + bitS d n by omega]; rfl
    rw [hs]
    generalize (List.range (2 * n)).map (fun k : Nat => shwH seed idx (rkK d d' k : Nat)) = A at *
    generalize List.replicate (512 - 2 * (n + 1)) zeroH = R at *
    rw [List.append_assoc]
    generalize bitS d n = b at *
    generalize bitS d' n = b' at *
    have two : ∀ x y, ((A ++ zeroH :: zeroH :: R).set (2 * n) x).set (2 * n + 1) y = A ++ ([x, y] ++ R) /\ ((A ++ zeroH :: zeroH :: R).set (2 * n + 1) y).set (2 * n) x = A ++ ([x, y] ++ R) := by
      intro x y
      have := zph A R zeroH x y
      rw [hl] at this
      exact this
    rcases (show (b = 0 \/ b = 1) by omega) with rfl | rfl <;> rcases (show (b' = 0 \/ b' = 1) by omega) with rfl | rfl
    · simp only [Nat.add_zero, Nat.sub_zero, if_true]; exact (two _ _).1
    · simp only [Nat.add_zero, Nat.sub_zero, Nat.add_sub_cancel]; rw [if_neg (by omega), if_neg (by omega)]; exact (two _ _).2
    · simp only [Nat.add_zero, Nat.sub_zero, Nat.add_sub_cancel]; rw [if_neg (by omega), if_neg (by omega)]; exact (two _ _).1
    · simp only [Nat.add_sub_cancel, if_true]; exact (two _ _).2
theorem zoo (seed : List UInt8) (idx : Int) (d : List UInt8) : recF (ksgS seed idx d) d 256 = pubH seed idx := by
  have e : (fun k : Nat => shwH seed idx (rkK d d k : Nat)) = fun k : Nat => shwH seed idx k := by
    funext k
    rw [show rkK d d k = k by unfold rkK; rw [if_pos rfl]]
  rw [zgl seed idx d d 256 (Nat.le_refl _), e, show 2 * 256 = 512 from rfl, Nat.sub_self, List.replicate_zero, List.append_nil]
  rfl
theorem root_8 (a b c d e f g h : Hash) : z1b [a, b, c, d, e, f, g, h] = zx (zx (zx a b) (zx c d)) (zx (zx e f) (zx g h)) := by
  rw [zce (by simp)]; simp [spl8, zgs]
theorem zo9 (a b c d e f g h : Hash) : z1m [a, b, c, d, e, f, g, h] 0 = [b, zx c d, zx (zx e f) (zx g h)] /\ z1m [a, b, c, d, e, f, g, h] 1 = [a, zx c d, zx (zx e f) (zx g h)] ∧
    z1m [a, b, c, d, e, f, g, h] 2 = [d, zx a b, zx (zx e f) (zx g h)] /\ z1m [a, b, c, d, e, f, g, h] 3 = [c, zx a b, zx (zx e f) (zx g h)] ∧
    z1m [a, b, c, d, e, f, g, h] 4 = [f, zx g h, zx (zx a b) (zx c d)] /\ z1m [a, b, c, d, e, f, g, h] 5 = [e, zx g h, zx (zx a b) (zx c d)] ∧
    z1m [a, b, c, d, e, f, g, h] 6 = [h, zx e f, zx (zx a b) (zx c d)] /\ z1m [a, b, c, d, e, f, g, h] 7 = [g, zx e f, zx (zx a b) (zx c d)] := by
  refine ⟨?_, ?_, ?_, ?_, ?_, ?_, ?_, ?_⟩ <;> simp [z1m, z1z, spl8, spl4, spl2, zcg, zgs, zcd]
def z2c (i : Nat) (x p q r : Hash) : Hash :=
  let y := if i % 2 = 1 then zx p x else zx x p
  let z := if i / 2 % 2 = 1 then zx q y else zx y q
  if i / 4 % 2 = 1 then zx r z else zx z r
theorem z5w (i : Nat) (hi : i < 8) (x p q r root : Hash) : chkP x i 8 [p, q, r] root = if z2c i x p q r = root then 0 else 80 := by
  unfold chkP
  rw [if_neg (by omega), Int.toNat_natCast, show (8 : Int).toNat - 1 = 7 from rfl]
  match i, hi with
  | 0, _ => simp [z2o, z21, z26, z2c]
  | 1, _ => simp [z2o, z21, z26, z2c]
  | 2, _ => simp [z2o, z21, z26, z2c]
  | 3, _ => simp [z2o, z21, z26, z2c]
  | 4, _ => simp [z2o, z21, z26, z2c]
  | 5, _ => simp [z2o, z21, z26, z2c]
  | 6, _ => simp [z2o, z21, z26, z2c]
  | 7, _ => simp [z2o, z21, z26, z2c]
  | i + 8, h => omega
theorem len8 {K : List Hash} (h : K.length = 8) : ∃ a b c d e f g i, K = [a, b, c, d, e, f, g, i] := by
  match K, h with
  | [a, b, c, d, e, f, g, i], _ => exact ⟨a, b, c, d, e, f, g, i, rfl⟩
/-- A leaf's path leads to the root. -/
theorem zkd (K : List Hash) (hK : K.length = 8) (i : Nat) (hi : i < 8) : chkP (hd K i) i 8 (z1m K i) (z1b K) = 0 := by
  obtain ⟨a, b, c, d, e, f, g, h, rfl⟩ := len8 hK
  obtain ⟨p0, p1, p2, p3, p4, p5, p6, p7⟩ := zo9 a b c d e f g h
  rw [root_8]
  match i, hi with
  | 0, _ => rw [p0, z5w 0 (by omega)]; exact if_pos (by simp [z2c, hd])
  | 1, _ => rw [p1, z5w 1 (by omega)]; exact if_pos (by simp [z2c, hd])
  | 2, _ => rw [p2, z5w 2 (by omega)]; exact if_pos (by simp [z2c, hd])
  | 3, _ => rw [p3, z5w 3 (by omega)]; exact if_pos (by simp [z2c, hd])
  | 4, _ => rw [p4, z5w 4 (by omega)]; exact if_pos (by simp [z2c, hd])
  | 5, _ => rw [p5, z5w 5 (by omega)]; exact if_pos (by simp [z2c, hd])
  | 6, _ => rw [p6, z5w 6 (by omega)]; exact if_pos (by simp [z2c, hd])
  | 7, _ => rw [p7, z5w 7 (by omega)]; exact if_pos (by simp [z2c, hd])
  | i + 8, h => omega
theorem zmi (seed : List UInt8) (i : Nat) (hi : i < 8) : hd (keyL seed) i = z2p (pubH seed i) := by
  rw [z8g (by rw [z2x]; exact hi)]
  simp [keyL]
/-- What a key signs is verified. -/
theorem zqv (seed : List UInt8) (i : Nat) (hi : i < 8) (dg : Hash) : verI (z1b (keyL seed)) dg i (ksgS seed i dg.1) (z1m (keyL seed) i) = 0 := by
  unfold verI
  rw [if_neg (by omega), if_pos (zfm _ _ _), zoo, <- zmi seed i hi, if_pos (zkd _ (z2x seed) i hi)]
end Am
end Go.Proofs.YtjgljhbmljgaeaaDoor
end
section
/- Keys: the chapter's tree; are two seals the same?; the law KeytreeNone: contracts. -/
namespace Go.Proofs.YtjgljhbmljgaeaaDoor
namespace Am
attribute [local irreducible] ACallsTo ACallsP pubH
end Am
end Go.Proofs.YtjgljhbmljgaeaaDoor
end
section
/- Keys: the law KeytreeVerify: its contract. -/
namespace Go.Proofs.YtjgljhbmljgaeaaDoor
namespace Am
attribute [local irreducible] ACallsTo ACallsP pubH
end Am
end Go.Proofs.YtjgljhbmljgaeaaDoor
end
section
/- Abstract code. (Printed by wip/gen.) -/
set_option maxRecDepth 10000
namespace Go.Proofs.YtjgljhbmljgaeaaDoor
namespace Am



@[go_sem] def q1br0 : List AIns := [
  ⟨some 1,none,.no,.box (.t 0)⟩,
  ⟨some 2,none,.no,.mv (.v (.bool false))⟩]
@[go_sem] def q1br1 : List AIns := [
  ⟨some 4,none,.no,.fa 0 (.t 1)⟩,
  ⟨some 5,none,.no,.fa 0 (.t 4)⟩,
  ⟨some 6,none,.no,.load false 1 (.t 5)⟩,
  ⟨some 7,none,.no,.bin .geq .none (.t 6) (.v (.int .i64 0))⟩,
  ⟨some 8,none,.no,.mv (.t 7)⟩,
  ⟨some 9, some (8, true), .no, .fa 0 (.t 1)⟩,
  ⟨some 10, some (8, true), .no, .fa 0 (.t 9)⟩,
  ⟨some 11, some (8, true), .no, .load false 1 (.t 10)⟩,
  ⟨some 12, some (8, true), .no, .bin .leq .none (.t 11) (.v (.int .i64 4096))⟩,
  ⟨some 13,none,.no,.pick (.t 8) (.t 12) (.v (.bool false))⟩,
  ⟨some 3,none,.no,.mv (.t 13)⟩]
@[go_sem] def q1br2 : List AIns := [
  ⟨some 14,none,.no,.mv (.t 3)⟩,
  ⟨some 15,none,.no,.mv (.t 14)⟩,
  ⟨some 16, some (15, true), .no, .fa 33 (.t 1)⟩,
  ⟨some 17, some (15, true), .no, .fa 0 (.t 16)⟩,
  ⟨some 18, some (15, true), .no, .load false 1 (.t 17)⟩,
  ⟨some 19, some (15, true), .no, .bin .geq .none (.t 18) (.v (.int .i64 0))⟩,
  ⟨some 20,none,.no,.pick (.t 15) (.t 19) (.v (.bool false))⟩,
  ⟨some 21,none,.no,.mv (.t 20)⟩,
  ⟨some 22, some (21, true), .no, .fa 33 (.t 1)⟩,
  ⟨some 23, some (21, true), .no, .fa 0 (.t 22)⟩,
  ⟨some 24, some (21, true), .no, .load false 1 (.t 23)⟩,
  ⟨some 25, some (21, true), .no, .bin .lss .none (.t 24) (.v (.int .i64 8))⟩,
  ⟨some 26,none,.no,.pick (.t 21) (.t 25) (.v (.bool false))⟩,
  ⟨some 27,none,.no,.mv (.t 26)⟩,
  ⟨some 28, some (27, true), .no, .fa 33 (.t 1)⟩,
  ⟨some 29, some (27, true), .no, .fa 1 (.t 28)⟩,
  ⟨some 30, some (27, true), .no, .load false 1 (.t 29)⟩,
  ⟨some 31, some (27, true), .no, .lenStr (.t 30)⟩,
  ⟨some 32, some (27, true), .no, .bin .eql .none (.t 31) (.v (.int .i64 16384))⟩,
  ⟨some 33,none,.no,.pick (.t 27) (.t 32) (.v (.bool false))⟩,
  ⟨some 34,none,.no,.mv (.t 33)⟩,
  ⟨some 35, some (34, true), .no, .fa 33 (.t 1)⟩,
  ⟨some 36, some (34, true), .no, .fa 2 (.t 35)⟩,
  ⟨some 37, some (34, true), .no, .load false 1 (.t 36)⟩,
  ⟨some 38, some (34, true), .no, .lenSl (.t 37)⟩,
  ⟨some 39, some (34, true), .no, .bin .eql .none (.t 38) (.v (.int .i64 3))⟩,
  ⟨some 40,none,.no,.pick (.t 34) (.t 39) (.v (.bool false))⟩,
  ⟨some 2,none,.no,.mv (.t 40)⟩]
def q1bc3 : ACode := .seq (.reg q1br2) .ret
def q1bc4 : ACode := .seq (.reg q1br1) q1bc3
def q1bc5 : ACode := .seq (.reg q1br0) q1bc4
theorem q1bok : cFn TC 44 = some (41, [.t 2], q1bc5) := by kernel_rfl

@[go_sem] def q1cr0 : List AIns := [
  ⟨some 2,none,.no,.box (.t 0)⟩,
  ⟨some 3,none,.no,.box (.t 1)⟩,
  ⟨some 4,none,.no,.mv (.v (.int .i64 0))⟩]
@[go_sem] def q1cr1 : List AIns := [
  ⟨some 6,none,.no,.fa 0 (.t 2)⟩,
  ⟨some 7,none,.no,.load false 1 (.t 6)⟩,
  ⟨some 8,none,.no,.fa 0 (.t 3)⟩,
  ⟨some 9,none,.no,.load false 1 (.t 8)⟩,
  ⟨some 10,none,.no,.bin .lss .none (.t 7) (.t 9)⟩,
  ⟨some 5,none,.no,.mv (.t 10)⟩]
@[go_sem] def q1cr2 : List AIns := [
  ⟨some 4,none,.no,.mv (.v (.int .i64 0))⟩]
def q1cc3 : ACode := .seq (.reg q1cr2) .ret
@[go_sem] def q1cr4 : List AIns := [
  ⟨some 12,none,.no,.fa 0 (.t 2)⟩,
  ⟨some 13,none,.no,.load false 1 (.t 12)⟩,
  ⟨some 14,none,.no,.fa 0 (.t 3)⟩,
  ⟨some 15,none,.no,.load false 1 (.t 14)⟩,
  ⟨some 16,none,.no,.bin .gtr .none (.t 13) (.t 15)⟩,
  ⟨some 11,none,.no,.mv (.t 16)⟩]
@[go_sem] def q1cr5 : List AIns := [
  ⟨some 4,none,.no,.mv (.v (.int .i64 2))⟩]
def q1cc6 : ACode := .seq (.reg q1cr5) .ret
@[go_sem] def q1cr7 : List AIns := [
  ⟨some 18,none,.no,.fa 1 (.t 2)⟩,
  ⟨some 19,none,.no,.load true 32 (.t 18)⟩,
  ⟨some 20,none,.no,.fa 1 (.t 3)⟩,
  ⟨some 21,none,.no,.load true 32 (.t 20)⟩,
  ⟨some 22,none,.no,.bin .eql (.agg (List.replicate 32 (.i .u8) ++ [])) (.t 19) (.t 21)⟩,
  ⟨some 17,none,.no,.mv (.t 22)⟩]
@[go_sem] def q1cr8 : List AIns := [
  ⟨some 4,none,.no,.mv (.v (.int .i64 1))⟩]
def q1cc9 : ACode := .seq (.reg q1cr8) .ret
def q1cc10 : ACode := .cond (.t 17) q1cc9 .skip
def q1cc11 : ACode := .seq (.reg q1cr7) q1cc10
def q1cc12 : ACode := .cond (.t 11) q1cc6 q1cc11
def q1cc13 : ACode := .seq (.reg q1cr4) q1cc12
def q1cc14 : ACode := .cond (.t 5) q1cc3 q1cc13
def q1cc15 : ACode := .seq (.reg q1cr1) q1cc14
@[go_sem] def q1cr16 : List AIns := [
  ⟨some 4,none,.no,.mv (.v (.int .i64 3))⟩]
def q1cc17 : ACode := .seq (.reg q1cr16) .ret
def q1cc18 : ACode := .seq (.block 0 q1cc15) q1cc17
def q1cc19 : ACode := .seq (.reg q1cr0) q1cc18
theorem q1cok : cFn TC 33 = some (23, [.t 4], q1cc19) := by kernel_rfl



@[go_sem] def q1dr0 : List AIns := [
  ⟨some 2,none,.no,.box (.t 0)⟩,
  ⟨some 3,none,.no,.box (.t 1)⟩,
  ⟨some 4,none,.no,.mv (.v (.int .i64 0))⟩]
@[go_sem] def q1dr1 : List AIns := [
  ⟨some 6,none,.no,.load true 36 (.t 3)⟩,
  ⟨some 7,none,.no,.call (.v (.fn 44 [])) [(.t 6)]⟩,
  ⟨some 8,none,.no,.un .not (.t 7)⟩,
  ⟨some 5,none,.no,.mv (.t 8)⟩]
@[go_sem] def q1dr2 : List AIns := [
  ⟨some 4,none,.no,.mv (.v (.int .i64 2))⟩]
def q1dc3 : ACode := .seq (.reg q1dr2) .ret
@[go_sem] def q1dr4 : List AIns := [
  ⟨some 10, none, .rd, .load true 32 (.t 2)⟩,
  ⟨some 11,none,.no,.fa 0 (.t 3)⟩,
  ⟨some 12, none, .rd, .load true 33 (.t 11)⟩,
  ⟨some 13, none, .ef, .call (.v (.fn 40 [])) [(.t 12)]⟩,
  ⟨some 14,none,.no,.fa 33 (.t 3)⟩,
  ⟨some 15, none, .rd, .load true 3 (.t 14)⟩,
  ⟨some 16,none,.no,.call (.v (.fn 45 [])) [(.t 10), (.t 13), (.t 15)]⟩,
  ⟨some 17,none,.no,.bin .neq .none (.t 16) (.v (.int .i64 0))⟩,
  ⟨some 9,none,.no,.mv (.t 17)⟩]
@[go_sem] def q1dr5 : List AIns := [
  ⟨some 4,none,.no,.mv (.v (.int .i64 81))⟩]
def q1dc6 : ACode := .seq (.reg q1dr5) .ret
def q1dc7 : ACode := .cond (.t 9) q1dc6 .skip
def q1dc8 : ACode := .seq (.reg q1dr4) q1dc7
def q1dc9 : ACode := .cond (.t 5) q1dc3 q1dc8
def q1dc10 : ACode := .seq (.reg q1dr1) q1dc9
@[go_sem] def q1dr11 : List AIns := [
  ⟨some 4,none,.no,.mv (.v (.int .i64 0))⟩]
def q1dc12 : ACode := .seq (.reg q1dr11) .ret
def q1dc13 : ACode := .seq (.block 0 q1dc10) q1dc12
def q1dc14 : ACode := .seq (.reg q1dr0) q1dc13
theorem q1dok : cFn TC 22 = some (18, [.t 4], q1dc14) := by kernel_rfl

@[go_sem] def q1er0 : List AIns := [
  ⟨some 1,none,.no,.box (.t 0)⟩,
  ⟨some 2,none,.no,.alloc zZ0⟩]
@[go_sem] def q1er1 : List AIns := [
  ⟨some 3,none,.no,.fa 0 (.t 1)⟩,
  ⟨some 4, none, .rd, .load false 1 (.t 3)⟩,
  ⟨some 5,none,.no,.conv (.int .u64) (.t 4)⟩,
  ⟨some 6, none, .ef, .call (.v (.fn 61 [])) [(.t 5), (.v (.int .i64 8))]⟩,
  ⟨some 7,none,.no,.bin .add .none (.v (.str [5])) (.t 6)⟩,
  ⟨some 8,none,.no,.fa 1 (.t 1)⟩,
  ⟨some 9, none, .rd, .load true 32 (.t 8)⟩,
  ⟨some 10,none,.no,.call (.v (.fn 62 [])) [(.t 9)]⟩,
  ⟨some 11,none,.no,.bin .add .none (.t 7) (.t 10)⟩,
  ⟨some 12,none,.no,.call (.v (.fn 46 [])) [(.t 11)]⟩,
  ⟨none,none,.no,.store 32 (.t 2) (.t 12)⟩]
def q1ec2 : ACode := .seq (.reg q1er1) .ret
def q1ec3 : ACode := .seq (.reg q1er0) q1ec2
theorem q1eok : cFn TC 40 = some (13, [.c 2 true 32], q1ec3) := by kernel_rfl
end Am
end Go.Proofs.YtjgljhbmljgaeaaDoor
end
section
/- Heads: contracts: what may be, numbers that are small, how heads stand. -/
namespace Go.Proofs.YtjgljhbmljgaeaaDoor
namespace Am
attribute [local irreducible] ACallsTo ACallsP
/-- A signed head's cells. -/
def sgC (n : Int) (r : Hash) (i : Int) (s : List UInt8) (x : AV) : List AV := .int .i64 n :: (hc r ++ [.int .i64 i, .str s, x])
@[go_sem] theorem zg (n : Int) (r : Hash) (i : Int) (s : List UInt8) (x : AV) : (sgC n r i s x).length = 36 := by simp [sgC, z6]
@[go_sem] theorem sgC_0 (n : Int) (r : Hash) (i : Int) (s : List UInt8) (x : AV) : (sgC n r i s x)[0]? = some (.int .i64 n) := rfl
theorem zcr (n : Int) (r : Hash) (i : Int) (s : List UInt8) (x : AV) (k : Nat) : (sgC n r i s x)[33 + k]? = [AV.int .i64 i, .str s, x][k]? := by
  rw [sgC, show 33 + k = (32 + k) + 1 by omega, List.getElem?_cons_succ, List.getElem?_append_right (by rw [z6]; omega), z6, Nat.add_sub_cancel_left]
@[go_sem] theorem sgC_33 (n : Int) (r : Hash) (i : Int) (s : List UInt8) (x : AV) : (sgC n r i s x)[33]? = some (.int .i64 i) := zcr n r i s x 0
@[go_sem] theorem sgC_34 (n : Int) (r : Hash) (i : Int) (s : List UInt8) (x : AV) : (sgC n r i s x)[34]? = some (.str s) := zcr n r i s x 1
@[go_sem] theorem sgC_35 (n : Int) (r : Hash) (i : Int) (s : List UInt8) (x : AV) : (sgC n r i s x)[35]? = some x := zcr n r i s x 2
@[go_sem] theorem sgC_all (n : Int) (r : Hash) (i : Int) (s : List UInt8) (x : AV) : (sgC n r i s x).take 36 = sgC n r i s x := List.take_of_length_le (by rw [zg]; decide)
@[go_sem] theorem sgC_root (n : Int) (r : Hash) (i : Int) (s : List UInt8) (x : AV) : ((sgC n r i s x).drop 1).take 32 = hc r := by
  rw [sgC, List.drop_succ_cons, List.drop_zero, z8f]
@[go_sem] theorem zh3 (n : Int) (r : Hash) (i : Int) (s : List UInt8) (x : AV) : (sgC n r i s x).take 33 = .int .i64 n :: hc r := by
  rw [sgC, List.take_succ_cons, z8f]
@[go_sem] theorem sgC_seal (n : Int) (r : Hash) (i : Int) (s : List UInt8) (x : AV) : ((sgC n r i s x).drop 33).take 3 = [.int .i64 i, .str s, x] := by
  rw [sgC, List.drop_succ_cons, zbg]; rfl
def z7j (n i : Int) (s : List UInt8) (l : List Hash) : Bool := decide (0 <= n /\ n <= 4096 /\ 0 <= i /\ i <= 7 /\ s.length = 16384 /\ l.length = 3)
set_option maxHeartbeats 8000000 in
theorem ziw (Y : Store) (n i : Int) (r : Hash) (s : List UInt8) (l : List Hash) (x : AV) (hx : RdSl Y 32 (hr l) x) : ACallsTo TC 44 [.agg (sgC n r i s x)] Y (.bool (z7j n i s l)) Y := by
  refine ACallsTo.of_body q1bok (by simp) fun hw _ => ?_
  have r1 := hx.len
  rw [z7] at r1
  unfold z1k at r1
  unfold z7j
  by_cases a1 : n >= 0
  · by_cases a2 : n <= 4096
    · by_cases a3 : i >= 0
      · by_cases a4 : i < 8
        · by_cases a5 : (s.length : Int) = 16384
          · by_cases a6 : (l.length : Int) = 3
            · rw [decide_eq_true (by omega)]
              repeat' (first|refine zW.zs ?_|refine zW.zb ?_|refine zW.zc ?_|refine zW.zt rfl ?_|refine zW.zf rfl ?_|(refine zW.zd rfl (fun ht => ?_) (fun ht => ?_)<;>try (exfalso;omega))|((first|refine zW.zr ?_|refine zW.zk ?_|refine zW.ze ?_|refine zW.zq ?_|((first|apply zg0|apply zg1|apply zg2|apply zg3|apply zg4|apply zg5|apply zg6|apply zg7)<;>intro ht));all_goals try simp (disch:=first|omega|(simp only [lens,z6,z7,List.length_reverse,z13,zn,List.length_drop,zg];first|done|omega)) only [go_sem,reduceEqDiff,Nat.reduceBEq,reduceAdd,reduceMul,reduceSub,reduceLeDiff,reduceToNat,reducePow, a1, a2, a3, a4, a5, a6, r1]))
              exact DownV.pure hw z2s
            · rw [decide_eq_false (by omega)]
              repeat' (first|refine zW.zs ?_|refine zW.zb ?_|refine zW.zc ?_|refine zW.zt rfl ?_|refine zW.zf rfl ?_|(refine zW.zd rfl (fun ht => ?_) (fun ht => ?_)<;>try (exfalso;omega))|((first|refine zW.zr ?_|refine zW.zk ?_|refine zW.ze ?_|refine zW.zq ?_|((first|apply zg0|apply zg1|apply zg2|apply zg3|apply zg4|apply zg5|apply zg6|apply zg7)<;>intro ht));all_goals try simp (disch:=first|omega|(simp only [lens,z6,z7,List.length_reverse,z13,zn,List.length_drop,zg];first|done|omega)) only [go_sem,reduceEqDiff,Nat.reduceBEq,reduceAdd,reduceMul,reduceSub,reduceLeDiff,reduceToNat,reducePow, a1, a2, a3, a4, a5, a6, r1]))
              exact DownV.pure hw z2s
          · rw [decide_eq_false (by omega)]
            repeat' (first|refine zW.zs ?_|refine zW.zb ?_|refine zW.zc ?_|refine zW.zt rfl ?_|refine zW.zf rfl ?_|(refine zW.zd rfl (fun ht => ?_) (fun ht => ?_)<;>try (exfalso;omega))|((first|refine zW.zr ?_|refine zW.zk ?_|refine zW.ze ?_|refine zW.zq ?_|((first|apply zg0|apply zg1|apply zg2|apply zg3|apply zg4|apply zg5|apply zg6|apply zg7)<;>intro ht));all_goals try simp (disch:=first|omega|(simp only [lens,z6,z7,List.length_reverse,z13,zn,List.length_drop,zg];first|done|omega)) only [go_sem,reduceEqDiff,Nat.reduceBEq,reduceAdd,reduceMul,reduceSub,reduceLeDiff,reduceToNat,reducePow, a1, a2, a3, a4, a5, r1]))
            exact DownV.pure hw z2s
        · rw [decide_eq_false (by omega)]
          repeat' (first|refine zW.zs ?_|refine zW.zb ?_|refine zW.zc ?_|refine zW.zt rfl ?_|refine zW.zf rfl ?_|(refine zW.zd rfl (fun ht => ?_) (fun ht => ?_)<;>try (exfalso;omega))|((first|refine zW.zr ?_|refine zW.zk ?_|refine zW.ze ?_|refine zW.zq ?_|((first|apply zg0|apply zg1|apply zg2|apply zg3|apply zg4|apply zg5|apply zg6|apply zg7)<;>intro ht));all_goals try simp (disch:=first|omega|(simp only [lens,z6,z7,List.length_reverse,z13,zn,List.length_drop,zg];first|done|omega)) only [go_sem,reduceEqDiff,Nat.reduceBEq,reduceAdd,reduceMul,reduceSub,reduceLeDiff,reduceToNat,reducePow, a1, a2, a3, a4, r1]))
          exact DownV.pure hw z2s
      · rw [decide_eq_false (by omega)]
        repeat' (first|refine zW.zs ?_|refine zW.zb ?_|refine zW.zc ?_|refine zW.zt rfl ?_|refine zW.zf rfl ?_|(refine zW.zd rfl (fun ht => ?_) (fun ht => ?_)<;>try (exfalso;omega))|((first|refine zW.zr ?_|refine zW.zk ?_|refine zW.ze ?_|refine zW.zq ?_|((first|apply zg0|apply zg1|apply zg2|apply zg3|apply zg4|apply zg5|apply zg6|apply zg7)<;>intro ht));all_goals try simp (disch:=first|omega|(simp only [lens,z6,z7,List.length_reverse,z13,zn,List.length_drop,zg];first|done|omega)) only [go_sem,reduceEqDiff,Nat.reduceBEq,reduceAdd,reduceMul,reduceSub,reduceLeDiff,reduceToNat,reducePow, a1, a2, a3, r1]))
        exact DownV.pure hw z2s
    · rw [decide_eq_false (by omega)]
      repeat' (first|refine zW.zs ?_|refine zW.zb ?_|refine zW.zc ?_|refine zW.zt rfl ?_|refine zW.zf rfl ?_|(refine zW.zd rfl (fun ht => ?_) (fun ht => ?_)<;>try (exfalso;omega))|((first|refine zW.zr ?_|refine zW.zk ?_|refine zW.ze ?_|refine zW.zq ?_|((first|apply zg0|apply zg1|apply zg2|apply zg3|apply zg4|apply zg5|apply zg6|apply zg7)<;>intro ht));all_goals try simp (disch:=first|omega|(simp only [lens,z6,z7,List.length_reverse,z13,zn,List.length_drop,zg];first|done|omega)) only [go_sem,reduceEqDiff,Nat.reduceBEq,reduceAdd,reduceMul,reduceSub,reduceLeDiff,reduceToNat,reducePow, a1, a2, r1]))
      exact DownV.pure hw z2s
  · rw [decide_eq_false (by omega)]
    repeat' (first|refine zW.zs ?_|refine zW.zb ?_|refine zW.zc ?_|refine zW.zt rfl ?_|refine zW.zf rfl ?_|(refine zW.zd rfl (fun ht => ?_) (fun ht => ?_)<;>try (exfalso;omega))|((first|refine zW.zr ?_|refine zW.zk ?_|refine zW.ze ?_|refine zW.zq ?_|((first|apply zg0|apply zg1|apply zg2|apply zg3|apply zg4|apply zg5|apply zg6|apply zg7)<;>intro ht));all_goals try simp (disch:=first|omega|(simp only [lens,z6,z7,List.length_reverse,z13,zn,List.length_drop,zg];first|done|omega)) only [go_sem,reduceEqDiff,Nat.reduceBEq,reduceAdd,reduceMul,reduceSub,reduceLeDiff,reduceToNat,reducePow, a1, r1]))
    exact DownV.pure hw z2s
end Am
end Go.Proofs.YtjgljhbmljgaeaaDoor
end
section
/- Heads: contracts: the reference's bytes. -/
namespace Go.Proofs.YtjgljhbmljgaeaaDoor
namespace Am
attribute [local irreducible] ACallsTo ACallsP
end Am
end Go.Proofs.YtjgljhbmljgaeaaDoor
end
section
/- Heads: contracts: the head of bytes. -/
namespace Go.Proofs.YtjgljhbmljgaeaaDoor
namespace Am
attribute [local irreducible] ACallsTo ACallsP
structure Hd where
  n : Nat
  r : Hash
  i : Nat
  g : List UInt8
  l : List Hash
theorem rl_sg {k : Nat} {n i : Int} {r : Hash} {s : List UInt8} {x : AV} {e : Int} (h : RL k x) : RL k (.tup [.agg (sgC n r i s x), .int .i64 e]) := by
  have h1 : RLs k (sgC n r i s x) := by
    rw [sgC, RLs_iff]
    intro a ha
    simp only [List.mem_cons, List.mem_append, List.not_mem_nil, or_false] at ha
    rcases ha with rfl | ha | rfl | rfl | rfl
    · exact z73
    · exact RLs_iff.1 (za5 r) a ha
    · exact z73
    · exact z6h
    · exact h
  simp only [RL, RLs]; exact ⟨h1, trivial, trivial⟩
end Am
end Go.Proofs.YtjgljhbmljgaeaaDoor
end
section
/- Heads: plain: what is got of bytes is what the reference gets. -/
namespace Go.Proofs.YtjgljhbmljgaeaaDoor
namespace Am
end Am
end Go.Proofs.YtjgljhbmljgaeaaDoor
end
section
/- Heads: plain: a head is got of its bytes, and of nothing that is cut off or longer. -/
namespace Go.Proofs.YtjgljhbmljgaeaaDoor
namespace Am
end Am
end Go.Proofs.YtjgljhbmljgaeaaDoor
end
section
/- Heads: contracts: how heads stand; rough heads. -/
namespace Go.Proofs.YtjgljhbmljgaeaaDoor
namespace Am
attribute [local irreducible] ACallsTo ACallsP
/-- A rough head's cells. -/
def rgC (n : Int) (r : Hash) (i : Int) (s : List UInt8) (m : Int) (x : AV) : List AV := .int .i64 n :: (hc r ++ [.int .i64 i, .str s, .int .i8 m, x])
@[go_sem] theorem rgC_len (n : Int) (r : Hash) (i : Int) (s : List UInt8) (m : Int) (x : AV) : (rgC n r i s m x).length = 37 := by simp [rgC, z6]
theorem za4 (n : Int) (r : Hash) (i : Int) (s : List UInt8) (m : Int) (x : AV) (k : Nat) : (rgC n r i s m x)[33 + k]? = [AV.int .i64 i, .str s, .int .i8 m, x][k]? := by
  rw [rgC, show 33 + k = (32 + k) + 1 by omega, List.getElem?_cons_succ, List.getElem?_append_right (by rw [z6]; omega), z6, Nat.add_sub_cancel_left]
@[go_sem] theorem rgC_33 (n : Int) (r : Hash) (i : Int) (s : List UInt8) (m : Int) (x : AV) : (rgC n r i s m x)[33]? = some (.int .i64 i) := za4 n r i s m x 0
@[go_sem] theorem rgC_34 (n : Int) (r : Hash) (i : Int) (s : List UInt8) (m : Int) (x : AV) : (rgC n r i s m x)[34]? = some (.str s) := za4 n r i s m x 1
@[go_sem] theorem rgC_35 (n : Int) (r : Hash) (i : Int) (s : List UInt8) (m : Int) (x : AV) : (rgC n r i s m x)[35]? = some (.int .i8 m) := za4 n r i s m x 2
@[go_sem] theorem rgC_36 (n : Int) (r : Hash) (i : Int) (s : List UInt8) (m : Int) (x : AV) : (rgC n r i s m x)[36]? = some x := za4 n r i s m x 3
@[go_sem] theorem rgC_head (n : Int) (r : Hash) (i : Int) (s : List UInt8) (m : Int) (x : AV) : (rgC n r i s m x).take 33 = .int .i64 n :: hc r := by
  rw [rgC, List.take_succ_cons, z8f]
end Am
end Go.Proofs.YtjgljhbmljgaeaaDoor
end
section
/- Heads: contracts: are two signed heads the same? -/
namespace Go.Proofs.YtjgljhbmljgaeaaDoor
namespace Am
attribute [local irreducible] ACallsTo ACallsP
@[go_sem] theorem sgC_tail (n : Int) (r : Hash) (i : Int) (s : List UInt8) (x : AV) : (sgC n r i s x).drop 33 = [.int .i64 i, .str s, x] := by
  rw [sgC, List.drop_succ_cons, zbg]
end Am
end Go.Proofs.YtjgljhbmljgaeaaDoor
end
section
/- Heads: contracts: a rough head is a signed head. -/
namespace Go.Proofs.YtjgljhbmljgaeaaDoor
namespace Am
attribute [local irreducible] ACallsTo ACallsP
theorem zcb {k : Nat} {n i : Int} {r : Hash} {s : List UInt8} {x : AV} (h : RL k x) : RLs k (sgC n r i s x) := by
  have := rl_sg (n := n) (i := i) (r := r) (s := s) (e := 0) h
  simp only [RL, RLs] at this
  exact this.1
end Am
end Go.Proofs.YtjgljhbmljgaeaaDoor
end
section
/- Heads: contracts: what may not be has no bytes and is not checked. -/
namespace Go.Proofs.YtjgljhbmljgaeaaDoor
namespace Am
attribute [local irreducible] ACallsTo ACallsP
end Am
end Go.Proofs.YtjgljhbmljgaeaaDoor
end
section
/- Heads: contracts: the head of bytes: the program's. -/
namespace Go.Proofs.YtjgljhbmljgaeaaDoor
namespace Am
attribute [local irreducible] ACallsTo ACallsP
end Am
end Go.Proofs.YtjgljhbmljgaeaaDoor
end
section
/- Heads: contracts: the program's bytes. -/
namespace Go.Proofs.YtjgljhbmljgaeaaDoor
namespace Am
attribute [local irreducible] ACallsTo ACallsP
end Am
end Go.Proofs.YtjgljhbmljgaeaaDoor
end
section
/- Heads: the chapter's example. -/
namespace Go.Proofs.YtjgljhbmljgaeaaDoor
namespace Am
attribute [local irreducible] ACallsTo ACallsP
end Am
end Go.Proofs.YtjgljhbmljgaeaaDoor
end
section
/- Heads: HeadsBack. -/
namespace Go.Proofs.YtjgljhbmljgaeaaDoor
namespace Am
attribute [local irreducible] ACallsTo ACallsP
theorem zh2 (n : Int) (r : Hash) (i : Int) (s : List UInt8) (x : AV) : (sgC n r i s x).drop 36 = [] := List.drop_of_length_le (by rw [zg]; decide)
end Am
end Go.Proofs.YtjgljhbmljgaeaaDoor
end
section
/- Heads: HeadsGet; the two laws. -/
namespace Go.Proofs.YtjgljhbmljgaeaaDoor
namespace Am
attribute [local irreducible] ACallsTo ACallsP
def strs (L : List (List UInt8)) : List (List AV) := L.map fun s => [.str s]
theorem z14 (L : List (List UInt8)) : (strs L).length = L.length := by simp [strs]
theorem zqa {L : List (List UInt8)} {i : Nat} (h : i < L.length) : (strs L)[i]? = some [.str (L.getD i [])] := by
  simp [strs, List.getElem?_map, List.getElem?_eq_getElem h]
end Am
end Go.Proofs.YtjgljhbmljgaeaaDoor
end
section
/- Abstract code. (Printed by wip/gen.) -/
set_option maxRecDepth 10000
namespace Go.Proofs.YtjgljhbmljgaeaaDoor
namespace Am



@[go_sem] def q1fr0 : List AIns := [
  ⟨some 1,none,.no,.box (.t 0)⟩,
  ⟨some 2,none,.no,.alloc zZ0⟩]
@[go_sem] def q1fr1 : List AIns := [
  ⟨some 3,none,.no,.fa 0 (.t 1)⟩,
  ⟨some 4, none, .rd, .load false 1 (.t 3)⟩,
  ⟨some 5,none,.no,.conv (.int .u64) (.t 4)⟩,
  ⟨some 6, none, .ef, .call (.v (.fn 73 [])) [(.t 5), (.v (.int .i64 8))]⟩,
  ⟨some 7,none,.no,.bin .add .none (.v (.str [5])) (.t 6)⟩,
  ⟨some 8,none,.no,.fa 1 (.t 1)⟩,
  ⟨some 9, none, .rd, .load true 32 (.t 8)⟩,
  ⟨some 10,none,.no,.call (.v (.fn 74 [])) [(.t 9)]⟩,
  ⟨some 11,none,.no,.bin .add .none (.t 7) (.t 10)⟩,
  ⟨some 12,none,.no,.call (.v (.fn 69 [])) [(.t 11)]⟩,
  ⟨none,none,.no,.store 32 (.t 2) (.t 12)⟩]
def q1fc2 : ACode := .seq (.reg q1fr1) .ret
def q1fc3 : ACode := .seq (.reg q1fr0) q1fc2
theorem q1fok : cFn TC 53 = some (13, [.c 2 true 32], q1fc3) := by kernel_rfl

end Am
end Go.Proofs.YtjgljhbmljgaeaaDoor
end
section
/- Heads: contracts: Digest, Check. -/
namespace Go.Proofs.YtjgljhbmljgaeaaDoor
namespace Am
def digH (n : Int) (r : Hash) : Hash := shaH (5 :: (putS (n % 18446744073709551616) 8 ++ r.1))
/-- What Check answers. -/
def z3a (key : Hash) (n i : Int) (r : Hash) (s : List UInt8) (l : List Hash) : Int :=
  if z7j n i s l = false then 2 else if verI key (digH n r) i s l = 0 then 0 else 81
theorem zor (Y : Store) (h : Hash) : ACallsTo TC 74 [.agg (hc h)] Y (.str h.1) Y := z8o Y h.1 h.2
attribute [local irreducible] ACallsTo ACallsP
theorem zid (Y : Store) (n : Int) (r : Hash) : ACallsTo TC 40 [.agg (.int .i64 n :: hc r)] Y (.agg (hc (digH n r))) Y := by
  have hP := fun Y => z69 Y (n % 18446744073709551616) 8 (by omega) (by omega)
  have hl := zgi (n % 18446744073709551616) 8
  have hH := fun Y => z6a Y r
  have h32 := r.2
  have hS := fun Y => z8v Y (5 :: (putS (n % 18446744073709551616) 8 ++ r.1)) (by simp; omega)
  unfold digH
  generalize putS (n % 18446744073709551616) 8 = p at *
  refine ACallsTo.of_body q1eok (by simp) fun hw _ => ?_
  repeat' (first|refine zW.zs ?_|refine zW.zb ?_|refine zW.zc ?_|refine zW.zt rfl ?_|refine zW.zf rfl ?_|(refine zW.zd rfl (fun ht => ?_) (fun ht => ?_)<;>try (exfalso;omega))|((first|refine zW.zr ?_|refine zW.zk ?_|refine zW.ze ?_|refine zW.zq ?_|(apply callW.mk_pu; (first | exact (fun _ => hP _) | exact (fun _ => hH _) | exact (fun _ => hS _))) | (apply callW.za; (first | exact (hP _) | exact (hH _) | exact (hS _))) | ((first|apply zg0|apply zg1|apply zg2|apply zg3|apply zg4|apply zg5|apply zg6|apply zg7)<;>intro ht));all_goals try simp (disch:=first|omega|(simp only [lens,z6,z7,List.length_reverse];first|done|omega)) only [go_sem,reduceEqDiff,Nat.reduceBEq,reduceAdd,reduceMul,reduceSub,reduceLeDiff,reduceToNat,reducePow, h32]))
  exact DownV.pure hw (z3d _)
theorem zop (Y : Store) (n : Int) (r : Hash) : ACallsTo TC 53 [.agg (.int .i64 n :: hc r)] Y (.agg (hc (digH n r))) Y := by
  have hP := fun Y => zpw Y (n % 18446744073709551616) 8 (by omega) (by omega)
  have hl := zgi (n % 18446744073709551616) 8
  have hH := fun Y => zor Y r
  have h32 := r.2
  have hS := fun Y => zgn Y (5 :: (putS (n % 18446744073709551616) 8 ++ r.1)) (by simp; omega)
  unfold digH
  generalize putS (n % 18446744073709551616) 8 = p at *
  refine ACallsTo.of_body q1fok (by simp) fun hw _ => ?_
  repeat' (first|refine zW.zs ?_|refine zW.zb ?_|refine zW.zc ?_|refine zW.zt rfl ?_|refine zW.zf rfl ?_|(refine zW.zd rfl (fun ht => ?_) (fun ht => ?_)<;>try (exfalso;omega))|((first|refine zW.zr ?_|refine zW.zk ?_|refine zW.ze ?_|refine zW.zq ?_|(apply callW.mk_pu; (first | exact (fun _ => hP _) | exact (fun _ => hH _) | exact (fun _ => hS _))) | (apply callW.za; (first | exact (hP _) | exact (hH _) | exact (hS _))) | ((first|apply zg0|apply zg1|apply zg2|apply zg3|apply zg4|apply zg5|apply zg6|apply zg7)<;>intro ht));all_goals try simp (disch:=first|omega|(simp only [lens,z6,z7,List.length_reverse];first|done|omega)) only [go_sem,reduceEqDiff,Nat.reduceBEq,reduceAdd,reduceMul,reduceSub,reduceLeDiff,reduceToNat,reducePow, h32]))
  exact DownV.pure hw (z3d _)
set_option maxHeartbeats 4000000 in
theorem zie (Y : Store) (key : Hash) (n i : Int) (r : Hash) (s : List UInt8) (l : List Hash) (x : AV) (hx : RdSl Y 32 (hr l) x) :
    ACallsTo TC 22 [.agg (hc key), .agg (sgC n r i s x)] Y (.int .i64 (z3a key n i r s l)) Y := by
  have xc := hx.cells
  unfold cellsOf at xc
  have hV := fun y => ziw (Y ++ y) n i r s l x hx.app
  unfold z3a
  refine ACallsTo.of_body q1dok (by simp) fun hw _ => ?_
  cases hv : z7j n i s l with
  | false =>
    rw [hv] at hV
    rw [if_pos rfl]
    repeat' (first|refine zW.zs ?_|refine zW.zb ?_|refine zW.zc ?_|refine zW.zt rfl ?_|refine zW.zf rfl ?_|(refine zW.zd rfl (fun ht => ?_) (fun ht => ?_)<;>try (exfalso;omega))|((first|refine zW.zr ?_|refine zW.zk ?_|refine zW.ze ?_|refine zW.zq ?_|(apply callW.mk_pu; (first | exact (fun _ => hV _))) | (apply callW.za; (first | exact (hV _))) | ((first|apply zg0|apply zg1|apply zg2|apply zg3|apply zg4|apply zg5|apply zg6|apply zg7)<;>intro ht));all_goals try simp (disch:=first|omega|(simp only [lens,z6,z7,List.length_reverse];first|done|omega)) only [go_sem,reduceEqDiff,Nat.reduceBEq,reduceAdd,reduceMul,reduceSub,reduceLeDiff,reduceToNat,reducePow, xc]))
    exact DownV.pure hw (zz _ rfl)
  | true =>
    rw [hv] at hV
    rw [if_neg (by simp)]
    have hv2 := of_decide_eq_true hv
    have hD := fun Y => zid Y n r
    have hY := fun y => zix (Y ++ y) key (digH n r) i s l x hx.app (by omega) (by omega) (by omega)
    generalize verI key (digH n r) i s l = c at *
    by_cases h0 : c = 0
    · subst h0
      rw [if_pos rfl]
      repeat' (first|refine zW.zs ?_|refine zW.zb ?_|refine zW.zc ?_|refine zW.zt rfl ?_|refine zW.zf rfl ?_|(refine zW.zd rfl (fun ht => ?_) (fun ht => ?_)<;>try (exfalso;omega))|((first|refine zW.zr ?_|refine zW.zk ?_|refine zW.ze ?_|refine zW.zq ?_|(apply callW.mk_pu; (first | exact (fun _ => hV _) | exact (fun _ => hD _) | exact (fun _ => hY _))) | (apply callW.za; (first | exact (hV _) | exact (hD _) | exact (hY _))) | ((first|apply zg0|apply zg1|apply zg2|apply zg3|apply zg4|apply zg5|apply zg6|apply zg7)<;>intro ht));all_goals try simp (disch:=first|omega|(simp only [lens,z6,z7,List.length_reverse];first|done|omega)) only [go_sem,reduceEqDiff,Nat.reduceBEq,reduceAdd,reduceMul,reduceSub,reduceLeDiff,reduceToNat,reducePow, xc]))
      exact DownV.pure hw (zz _ rfl)
    · rw [if_neg h0]
      repeat' (first|refine zW.zs ?_|refine zW.zb ?_|refine zW.zc ?_|refine zW.zt rfl ?_|refine zW.zf rfl ?_|(refine zW.zd rfl (fun ht => ?_) (fun ht => ?_)<;>try (exfalso;omega))|((first|refine zW.zr ?_|refine zW.zk ?_|refine zW.ze ?_|refine zW.zq ?_|(apply callW.mk_pu; (first | exact (fun _ => hV _) | exact (fun _ => hD _) | exact (fun _ => hY _))) | (apply callW.za; (first | exact (hV _) | exact (hD _) | exact (hY _))) | ((first|apply zg0|apply zg1|apply zg2|apply zg3|apply zg4|apply zg5|apply zg6|apply zg7)<;>intro ht));all_goals try simp (disch:=first|omega|(simp only [lens,z6,z7,List.length_reverse];first|done|omega)) only [go_sem,reduceEqDiff,Nat.reduceBEq,reduceAdd,reduceMul,reduceSub,reduceLeDiff,reduceToNat,reducePow, xc, h0]))
      exact DownV.pure hw (zz _ rfl)
end Am
end Go.Proofs.YtjgljhbmljgaeaaDoor
end
section
/- Heads: contracts: Same, Order. -/
namespace Go.Proofs.YtjgljhbmljgaeaaDoor
namespace Am
def ordI (n m : Int) (a b : Hash) : Int := if n ≠ m then (if n < m then 0 else 2) else if a ≠ b then 3 else 1
attribute [local irreducible] ACallsTo ACallsP
theorem zif (Y : Store) (n m : Int) (a b : Hash) : ACallsTo TC 33 [.agg (.int .i64 n :: hc a), .agg (.int .i64 m :: hc b)] Y (.int .i64 (ordI n m a b)) Y := by
  unfold ordI
  refine ACallsTo.of_body q1cok (by simp) fun hw _ => ?_
  rcases Int.lt_trichotomy n m with h | h | h
  · rw [if_pos (by omega), if_pos h]
    repeat' (first|refine zW.zs ?_|refine zW.zb ?_|refine zW.zc ?_|refine zW.zt rfl ?_|refine zW.zf rfl ?_|(refine zW.zd rfl (fun ht => ?_) (fun ht => ?_)<;>try (exfalso;omega))|((first|refine zW.zr ?_|refine zW.zk ?_|refine zW.ze ?_|refine zW.zq ?_|((first|apply zg0|apply zg1|apply zg2|apply zg3|apply zg4|apply zg5|apply zg6|apply zg7)<;>intro ht));all_goals try simp (disch:=first|omega|(simp only [lens,z6,z7,List.length_reverse,zg];first|done|omega)) only [go_sem,reduceEqDiff,Nat.reduceBEq,reduceAdd,reduceMul,reduceSub,reduceLeDiff,reduceToNat,reducePow, h]))
    all_goals exact DownV.pure hw (zz _ rfl)
  · subst h
    by_cases h2 : a = b
    · subst h2
      rw [if_neg (by simp), if_neg (by simp)]
      repeat' (first|refine zW.zs ?_|refine zW.zb ?_|refine zW.zc ?_|refine zW.zt rfl ?_|refine zW.zf rfl ?_|(refine zW.zd rfl (fun ht => ?_) (fun ht => ?_)<;>try (exfalso;omega))|((first|refine zW.zr ?_|refine zW.zk ?_|refine zW.ze ?_|refine zW.zq ?_|((first|apply zg0|apply zg1|apply zg2|apply zg3|apply zg4|apply zg5|apply zg6|apply zg7)<;>intro ht));all_goals try simp (disch:=first|omega|(simp only [lens,z6,z7,List.length_reverse,zg];first|done|omega)) only [go_sem,reduceEqDiff,Nat.reduceBEq,reduceAdd,reduceMul,reduceSub,reduceLeDiff,reduceToNat,reducePow]))
      all_goals exact DownV.pure hw (zz _ rfl)
    · rw [if_neg (by simp), if_pos h2]
      repeat' (first|refine zW.zs ?_|refine zW.zb ?_|refine zW.zc ?_|refine zW.zt rfl ?_|refine zW.zf rfl ?_|(refine zW.zd rfl (fun ht => ?_) (fun ht => ?_)<;>try (exfalso;omega))|((first|refine zW.zr ?_|refine zW.zk ?_|refine zW.ze ?_|refine zW.zq ?_|((first|apply zg0|apply zg1|apply zg2|apply zg3|apply zg4|apply zg5|apply zg6|apply zg7)<;>intro ht));all_goals try simp (disch:=first|omega|(simp only [lens,z6,z7,List.length_reverse,zg];first|done|omega)) only [go_sem,reduceEqDiff,Nat.reduceBEq,reduceAdd,reduceMul,reduceSub,reduceLeDiff,reduceToNat,reducePow, h2]))
      all_goals exact DownV.pure hw (zz _ rfl)
  · rw [if_pos (by omega), if_neg (by omega)]
    repeat' (first|refine zW.zs ?_|refine zW.zb ?_|refine zW.zc ?_|refine zW.zt rfl ?_|refine zW.zf rfl ?_|(refine zW.zd rfl (fun ht => ?_) (fun ht => ?_)<;>try (exfalso;omega))|((first|refine zW.zr ?_|refine zW.zk ?_|refine zW.ze ?_|refine zW.zq ?_|((first|apply zg0|apply zg1|apply zg2|apply zg3|apply zg4|apply zg5|apply zg6|apply zg7)<;>intro ht));all_goals try simp (disch:=first|omega|(simp only [lens,z6,z7,List.length_reverse,zg];first|done|omega)) only [go_sem,reduceEqDiff,Nat.reduceBEq,reduceAdd,reduceMul,reduceSub,reduceLeDiff,reduceToNat,reducePow, h]))
    all_goals exact DownV.pure hw (zz _ rfl)
end Am
end Go.Proofs.YtjgljhbmljgaeaaDoor
end
section
/- Abstract code. (Printed by wip/gen.) -/
set_option maxRecDepth 10000
namespace Go.Proofs.YtjgljhbmljgaeaaDoor
namespace Am



end Am
end Go.Proofs.YtjgljhbmljgaeaaDoor
end
section
/- Abstract code. (Printed by wip/gen.) -/
set_option maxRecDepth 10000
namespace Go.Proofs.YtjgljhbmljgaeaaDoor
namespace Am



@[go_sem] def q1gr0 : List AIns := [
  ⟨some 2,none,.no,.alloc zZ0⟩]
@[go_sem] def q1gr1 : List AIns := [
  ⟨some 3,none,.no,.mv (.t 0)⟩,
  ⟨some 4,none,.no,.bin .add .none (.v (.str [0])) (.t 3)⟩,
  ⟨some 5,none,.no,.call (.v (.fn 46 [])) [(.t 4)]⟩,
  ⟨none,none,.no,.store 32 (.t 2) (.t 5)⟩]
def q1gc2 : ACode := .seq (.reg q1gr1) .ret
def q1gc3 : ACode := .seq (.reg q1gr0) q1gc2
theorem q1gok : cFn TC 23 = some (6, [.c 2 true 32], q1gc3) := by kernel_rfl

@[go_sem] def q1hr0 : List AIns := [
  ⟨some 2,none,.no,.alloc zZ0⟩]
@[go_sem] def q1hr1 : List AIns := [
  ⟨some 3,none,.no,.mv (.t 0)⟩,
  ⟨some 4,none,.no,.bin .add .none (.v (.str [0])) (.t 3)⟩,
  ⟨some 5,none,.no,.call (.v (.fn 69 [])) [(.t 4)]⟩,
  ⟨none,none,.no,.store 32 (.t 2) (.t 5)⟩]
def q1hc2 : ACode := .seq (.reg q1hr1) .ret
def q1hc3 : ACode := .seq (.reg q1hr0) q1hc2
theorem q1hok : cFn TC 72 = some (6, [.c 2 true 32], q1hc3) := by kernel_rfl
end Am
end Go.Proofs.YtjgljhbmljgaeaaDoor
end
section
/- Stage: contracts: what it has. -/
namespace Go.Proofs.YtjgljhbmljgaeaaDoor
namespace Am
/-- A stage's cells: the head, the range, the entries. -/
def stC (n : Int) (root : Hash) (rn : Int) (z v : AV) : List AV := .int .i64 n :: (hc root ++ [.int .i64 rn, z, v])
@[go_sem] theorem zd1 (n : Int) (root : Hash) (rn : Int) (z v : AV) : (stC n root rn z v).length = 36 := by simp [stC, z6]
@[go_sem] theorem stC_0 (n : Int) (root : Hash) (rn : Int) (z v : AV) : (stC n root rn z v)[0]? = some (.int .i64 n) := rfl
theorem zd0 (n : Int) (root : Hash) (rn : Int) (z v : AV) (k : Nat) : (stC n root rn z v)[33 + k]? = [AV.int .i64 rn, z, v][k]? := by
  rw [stC, show 33 + k = (32 + k) + 1 by omega, List.getElem?_cons_succ, List.getElem?_append_right (by rw [z6]; omega), z6, Nat.add_sub_cancel_left]
@[go_sem] theorem stC_33 (n : Int) (root : Hash) (rn : Int) (z v : AV) : (stC n root rn z v)[33]? = some (.int .i64 rn) := zd0 n root rn z v 0
@[go_sem] theorem stC_34 (n : Int) (root : Hash) (rn : Int) (z v : AV) : (stC n root rn z v)[34]? = some z := zd0 n root rn z v 1
@[go_sem] theorem stC_35 (n : Int) (root : Hash) (rn : Int) (z v : AV) : (stC n root rn z v)[35]? = some v := zd0 n root rn z v 2
@[go_sem] theorem stC_root (n : Int) (root : Hash) (rn : Int) (z v : AV) : ((stC n root rn z v).drop 1).take 32 = hc root := by rw [stC, List.drop_succ_cons, List.drop_zero, z8f]
@[go_sem] theorem zpy (n : Int) (root : Hash) (rn : Int) (z v : AV) : (stC n root rn z v).drop 33 = [.int .i64 rn, z, v] := by rw [stC, List.drop_succ_cons, zbg]
attribute [local irreducible] ACallsTo ACallsP
end Am
end Go.Proofs.YtjgljhbmljgaeaaDoor
end
section
/- Stage: contracts: leaves, own, Range, Entries. -/
namespace Go.Proofs.YtjgljhbmljgaeaaDoor
namespace Am
def lfH (s : List UInt8) : Hash := shaH (0 :: s)
attribute [local irreducible] ACallsTo ACallsP
theorem zd8 (Y : Store) (s : List UInt8) (h : s.length < 100000000) : ACallsTo TC 23 [.str s] Y (.agg (hc (lfH s))) Y := by
  have hS := fun Y => z8v Y (0 :: s) (by simp; omega)
  refine ACallsTo.of_body q1gok (by simp) fun hw _ => ?_
  unfold lfH
  repeat' (first|refine zW.zs ?_|refine zW.zb ?_|refine zW.zc ?_|refine zW.zt rfl ?_|refine zW.zf rfl ?_|(refine zW.zd rfl (fun ht => ?_) (fun ht => ?_)<;>try (exfalso;omega))|((first|refine zW.zr ?_|refine zW.zk ?_|refine zW.ze ?_|refine zW.zq ?_|(apply callW.mk_pu; (first | exact (fun _ => hS _))) | (apply callW.za; (first | exact (hS _))) | ((first|apply zg0|apply zg1|apply zg2|apply zg3|apply zg4|apply zg5|apply zg6|apply zg7)<;>intro ht));all_goals try simp (disch:=first|omega|(simp only [lens,z6,z7,List.length_reverse,zd1];first|done|omega)) only [go_sem,reduceEqDiff,Nat.reduceBEq,reduceAdd,reduceMul,reduceSub,reduceLeDiff,reduceToNat,reducePow]))
  exact DownV.pure hw (z3d _)
theorem zoq (Y : Store) (s : List UInt8) (h : s.length < 100000000) : ACallsTo TC 72 [.str s] Y (.agg (hc (lfH s))) Y := by
  have hS := fun Y => zgn Y (0 :: s) (by simp; omega)
  refine ACallsTo.of_body q1hok (by simp) fun hw _ => ?_
  unfold lfH
  repeat' (first|refine zW.zs ?_|refine zW.zb ?_|refine zW.zc ?_|refine zW.zt rfl ?_|refine zW.zf rfl ?_|(refine zW.zd rfl (fun ht => ?_) (fun ht => ?_)<;>try (exfalso;omega))|((first|refine zW.zr ?_|refine zW.zk ?_|refine zW.ze ?_|refine zW.zq ?_|(apply callW.mk_pu; (first | exact (fun _ => hS _))) | (apply callW.za; (first | exact (hS _))) | ((first|apply zg0|apply zg1|apply zg2|apply zg3|apply zg4|apply zg5|apply zg6|apply zg7)<;>intro ht));all_goals try simp (disch:=first|omega|(simp only [lens,z6,z7,List.length_reverse,zd1];first|done|omega)) only [go_sem,reduceEqDiff,Nat.reduceBEq,reduceAdd,reduceMul,reduceSub,reduceLeDiff,reduceToNat,reducePow]))
  exact DownV.pure hw (z3d _)
end Am
end Go.Proofs.YtjgljhbmljgaeaaDoor
end
section
/- Stage: contracts: Range, Entries, New. -/
namespace Go.Proofs.YtjgljhbmljgaeaaDoor
namespace Am
theorem zgr {k : Nat} : ∀ (L : List (List UInt8)), RLss k (strs L)
  | [] => by simp [strs, RLss]
  | s :: L => by have := zgr (k := k) L; simp only [strs] at this; simp [strs, RLss, RLs, RL, this]
attribute [local irreducible] ACallsTo ACallsP
end Am
end Go.Proofs.YtjgljhbmljgaeaaDoor
end
section
/- Stage: contracts: New. -/
namespace Go.Proofs.YtjgljhbmljgaeaaDoor
namespace Am
attribute [local irreducible] ACallsTo ACallsP
end Am
end Go.Proofs.YtjgljhbmljgaeaaDoor
end
section
/- Stage: contracts: the document's New. -/
namespace Go.Proofs.YtjgljhbmljgaeaaDoor
namespace Am
attribute [local irreducible] ACallsTo ACallsP
end Am
end Go.Proofs.YtjgljhbmljgaeaaDoor
end
section
/- Stage: contracts: a law's leaves; is a log long? -/
namespace Go.Proofs.YtjgljhbmljgaeaaDoor
namespace Am
def stD (L : List (List UInt8)) (i : Nat) : List UInt8 := L.getD i []
theorem zpz {L : List (List UInt8)} {i : Nat} (h : i < L.length) : stD L i ∈ L := by
  rw [stD, List.getD_eq_getElem?_getD, List.getElem?_eq_getElem h]; exact List.getElem_mem h
theorem zqg {L : List (List UInt8)} {i : Nat} (h : i < L.length) : L.take (i + 1) = L.take i ++ [stD L i] := by
  rw [List.take_add_one, stD, List.getD_eq_getElem?_getD, List.getElem?_eq_getElem h]; rfl
def lvs (L : List (List UInt8)) : List Hash := L.map lfH
theorem z16 (L : List (List UInt8)) : (lvs L).length = L.length := by simp [lvs]
attribute [local irreducible] ACallsTo ACallsP
end Am
end Go.Proofs.YtjgljhbmljgaeaaDoor
end
section
/- Stage: contracts: Add. -/
namespace Go.Proofs.YtjgljhbmljgaeaaDoor
namespace Am
@[go_sem] theorem stC_set33 (n : Int) (root : Hash) (rn m : Int) (z v b : AV) : (stC n root rn z v).take 33 ++ .int .i64 m :: b :: (stC n root rn z v).drop 35 = stC n root m b v := by
  have e : (stC n root rn z v).drop 35 = [v] := by
    have := zpy n root rn z v
    have h2 : (stC n root rn z v).drop 35 = ((stC n root rn z v).drop 33).drop 2 := by rw [List.drop_drop]
    rw [h2, this]; rfl
  have e2 : (stC n root rn z v).take 33 = .int .i64 n :: hc root := by rw [stC, List.take_succ_cons, z8f]
  rw [e, e2]; rfl
@[go_sem] theorem stC_set35 (n : Int) (root : Hash) (rn : Int) (z v b : AV) : (stC n root rn z v).take 35 ++ b :: (stC n root rn z v).drop 36 = stC n root rn z b := by
  have e : (stC n root rn z v).drop 36 = [] := List.drop_eq_nil_of_le (by rw [zd1]; omega)
  have e2 : (stC n root rn z v).take 35 = .int .i64 n :: (hc root ++ [.int .i64 rn, z]) := by
    have h3 : stC n root rn z v = (.int .i64 n :: (hc root ++ [.int .i64 rn, z])) ++ [v] := by simp [stC]
    rw [h3, List.take_append_of_le_length (by simp [z6]), List.take_of_length_le (by simp [z6])]
  rw [e, e2]; simp [stC]
theorem ACallsP.of_keepW {C : Ctx} {f : FuncId} {n : Nat} {ts : List RV} {ac : ACode} (hc : cFn C f = some (n, ts, ac)) {args : List AV} {Y : Store} {P : AV -> Store -> Prop} (hn : args.length <= n)
    (h : Wf Y.length Y -> zW C n Y.length ac (z9y ts P) (z27 args) Y) : ACallsP C f args Y P := by
  intro J w cargs hR ha
  exact ACallsP.of_keep hc hn (h hR.wf) J w cargs hR ha
/-- A slice's own row. -/
def RowAt (sz : Nat) (Y : Store) (sid : Option Nat) (v : AV) (es : List (List AV)) : Prop :=
  (sid = none /\ es = [] /\ v = .nilsl) \/ ∃ q, sid = some q /\ es ≠ [] /\ v = .sl q 0 es.length none sz /\ Y[q]? = some (some es)
theorem RowAt.rd {sz : Nat} {Y : Store} {sid : Option Nat} {v : AV} {es : List (List AV)} (h : RowAt sz Y sid v es) : RdSl Y sz es v := by
  rcases h with ⟨_, h, rfl⟩ | ⟨r, _, _, rfl, hg⟩
  · exact .inl (.inl ⟨rfl, h⟩)
  · exact .inr ⟨r, 0, none, es, rfl, hg, by omega, by simp⟩
theorem RowAt.keep {sz : Nat} {Y Y' : Store} {sid : Option Nat} {v : AV} {es : List (List AV)} (h : RowAt sz Y sid v es) (hk : ∀ q, sid = some q -> Y'[q]? = Y[q]?) : RowAt sz Y' sid v es := by
  rcases h with h | ⟨r, e, h2, h3, hg⟩
  · exact .inl h
  · exact .inr ⟨r, e, h2, h3, by rw [hk r e]; exact hg⟩
theorem RowAt.cells {sz : Nat} {Y : Store} {sid : Option Nat} {v : AV} {es : List (List AV)} (h : RowAt sz Y sid v es) : cellsOf v = some [v] := by
  rcases h with ⟨_, _, rfl⟩ | ⟨r, _, _, rfl, _⟩ <;> rfl
theorem RowAt.lt {sz : Nat} {Y : Store} {sid : Option Nat} {v : AV} {es : List (List AV)} (h : RowAt sz Y sid v es) {q : Nat} (hq : sid = some q) : q < Y.length := by
  rcases h with ⟨e, _, _⟩ | ⟨r, e, _, _, hg⟩
  · rw [e] at hq; cases hq
  · rw [e] at hq; cases hq; exact slen hg
/-- What stays: all elder objects but one and its row; the row is the same one or a new one. -/
structure StFr (Y Y' : Store) (r : Nat) (sid sid' : Option Nat) : Prop where
  st : ∀ j, j < Y.length -> j ≠ r -> sid ≠ some j -> Y'[j]? = Y[j]?
  new : sid' = sid \/ ∃ q, sid' = some q /\ Y.length <= q
  le : Y.length <= Y'.length
theorem StFr.ext {Y Y' : Store} {r : Nat} {sid : Option Nat} (h : Ext Y Y') : StFr Y Y' r sid sid := by
  refine ⟨fun j hj _ _ => ?_, .inl rfl, h.le⟩
  obtain ⟨y, rfl⟩ := h
  exact gapp hj
/-- A stage, in memory. -/
def StgIs (Y : Store) (r : Nat) (hn : Nat) (root : Hash) (rn : Nat) (hs : List Hash) (L : List (List UInt8)) (sid : Option Nat) : Prop :=
  ∃ z v, Y[r]? = some (some [stC hn root rn z v]) /\ SlV 32 (hr hs) z /\ RowAt 1 Y sid v (strs L)
theorem StgIs.keep {Y Y' : Store} {r hn : Nat} {root : Hash} {rn : Nat} {hs : List Hash} {L : List (List UInt8)} {sid : Option Nat} (h : StgIs Y r hn root rn hs L sid) (h0 : Y'[r]? = Y[r]?) (hk : ∀ q, sid = some q -> Y'[q]? = Y[q]?) : StgIs Y' r hn root rn hs L sid := by
  obtain ⟨z, v, hg, hz, hv⟩ := h
  exact ⟨z, v, by rw [h0]; exact hg, hz, hv.keep hk⟩
theorem StgIs.ext {Y Y' : Store} {r hn : Nat} {root : Hash} {rn : Nat} {hs : List Hash} {L : List (List UInt8)} {sid : Option Nat} (h : StgIs Y r hn root rn hs L sid) (he : Ext Y Y') : StgIs Y' r hn root rn hs L sid := by
  obtain ⟨y, rfl⟩ := he
  have h' := h
  obtain ⟨z, v, hg, hz, hv⟩ := h'
  exact h.keep (gapp (slen hg)) (fun q hq => gapp (hv.lt hq))
def longs (X : List (List UInt8)) : Bool := X.any (fun s => decide (200 < s.length))
/-- The range behind a chunk. -/
def nxH (rn : Nat) (hs : List Hash) (X : List (List UInt8)) : List Hash := (extR rn hs.reverse (lvs X)).reverse
/-- What Add answers. -/
def addE (hn : Nat) (root : Hash) (rn : Nat) (hs : List Hash) (X : List (List UInt8)) (P : List Hash) : Int :=
  if X.length < 1 \/ 16 < X.length \/ hn < rn + X.length then 2 else if longs X = true then 3
  else if chkH ((rn + X.length : Nat) : Int) hn (rootR (nxH rn hs X).reverse) root P = 0 then 0 else 80
/-- What Add does. -/
def AddP (Y : Store) (r hn : Nat) (root : Hash) (rn : Nat) (hs : List Hash) (L X : List (List UInt8)) (P : List Hash) (sid : Option Nat) (a : AV) (Y' : Store) : Prop :=
  a = .int .i64 (addE hn root rn hs X P) /\ ∃ sid', StFr Y Y' r sid sid' ∧
    StgIs Y' r hn root (if addE hn root rn hs X P = 0 then rn + X.length else rn) (if addE hn root rn hs X P = 0 then nxH rn hs X else hs) (if addE hn root rn hs X P = 0 then L ++ X else L) sid'
theorem AddP.no {Y Y' : Store} {r hn : Nat} {root : Hash} {rn : Nat} {hs : List Hash} {L X : List (List UInt8)} {P : List Hash} {sid : Option Nat} {e : Int} (hT : StgIs Y r hn root rn hs L sid)
    (he : addE hn root rn hs X P = e) (h0 : e ≠ 0) (hx : Ext Y Y') : AddP Y r hn root rn hs L X P sid (.int .i64 e) Y' := by
  subst he
  refine ⟨rfl, sid, .ext hx, ?_⟩
  rw [if_neg h0, if_neg h0, if_neg h0]
  exact hT.ext hx
theorem AddP.is {Y : Store} {r hn : Nat} {root : Hash} {rn : Nat} {hs : List Hash} {L X : List (List UInt8)} {P : List Hash} {sid : Option Nat} (hT : StgIs Y r hn root rn hs L sid) (hX : X ≠ []) : ∃ a Y', AddP Y r hn root rn hs L X P sid a Y' := by
  by_cases h : addE hn root rn hs X P = 0
  · obtain ⟨z, v, hg, hz, hv⟩ := hT
    have hrl := slen hg
    have hne : strs (L ++ X) ≠ [] := fun e => by
      have h1 : (strs (L ++ X)).length = 0 := by rw [e]; rfl
      rw [z14, List.length_append] at h1
      exact hX (List.eq_nil_of_length_eq_zero (by omega))
    refine ⟨_, (Y.set r (some [stC hn root ((rn + X.length : Nat) : Int) (z11 32 (hr (nxH rn hs X))) (.sl Y.length 0 (strs (L ++ X)).length none 1)])) ++ [some (strs (L ++ X))], rfl, some Y.length, ⟨fun j hj hjr _ => ?_, .inr ⟨Y.length, rfl, Nat.le_refl _⟩, by simp⟩, ?_⟩
    · rw [gapp (by simpa using hj), z18 (fun e => hjr e.symm)]
    · rw [if_pos h, if_pos h, if_pos h]
      refine ⟨_, _, by rw [gapp (by simpa using hrl), z2d hrl], z6l _ _, .inr ⟨Y.length, rfl, hne, rfl, ?_⟩⟩
      rw [z1n (by simp)]; simp
  · exact ⟨_, Y, .no hT rfl h (.refl _)⟩
theorem AddP.ok {Y Y' : Store} {r hn : Nat} {root : Hash} {rn : Nat} {hs : List Hash} {L X : List (List UInt8)} {P : List Hash} {sid : Option Nat} {z2 : AV} {q' : Nat} (he : addE hn root rn hs X P = 0) (hX : X ≠ [])
    (hg : Y'[r]? = some (some [stC hn root ((rn + X.length : Nat) : Int) z2 (.sl q' 0 (strs (L ++ X)).length none 1)])) (hz : SlV 32 (hr (nxH rn hs X)) z2) (hq : Y'[q']? = some (some (strs (L ++ X)))) (hqn : Y.length <= q') (hle : Y.length <= Y'.length)
    (hst : ∀ j, j < Y.length -> j ≠ r -> sid ≠ some j -> Y'[j]? = Y[j]?) : AddP Y r hn root rn hs L X P sid (.int .i64 0) Y' := by
  have hne : strs (L ++ X) ≠ [] := fun e => by
    have h1 : (strs (L ++ X)).length = 0 := by rw [e]; rfl
    rw [z14, List.length_append] at h1
    exact hX (List.eq_nil_of_length_eq_zero (by omega))
  refine ⟨by rw [he], some q', ⟨hst, .inr ⟨q', rfl, hqn⟩, hle⟩, ?_⟩
  rw [if_pos he, if_pos he, if_pos he]
  exact ⟨_, _, hg, hz, .inr ⟨q', rfl, hne, rfl, hq⟩⟩
attribute [local irreducible] ACallsTo ACallsP
end Am
end Go.Proofs.YtjgljhbmljgaeaaDoor
end
section
/- Stage: contracts: the document's Add. -/
namespace Go.Proofs.YtjgljhbmljgaeaaDoor
namespace Am
attribute [local irreducible] ACallsTo ACallsP
end Am
end Go.Proofs.YtjgljhbmljgaeaaDoor
end
section
/- Stage: contracts: Alike, Great. -/
namespace Go.Proofs.YtjgljhbmljgaeaaDoor
namespace Am
/-- A chunk of an act. -/
structure ActS where
  k : Int
  c : Int
  L : List (List UInt8)
  P : List Hash
  x : AV
  y : AV
structure ActOk (a : ActS) : Prop where
  k : 0 <= a.k /\ a.k <= 255
  c : 0 <= a.c /\ a.c <= 255
  x : SlV 1 (strs a.L) a.x
  y : SlV 32 (hr a.P) a.y
  ll : a.L.length <= maxLen
  pl : a.P.length <= maxLen
  sl : ∀ s ∈ a.L, s.length <= maxLen
attribute [local irreducible] ACallsTo ACallsP
end Am
end Go.Proofs.YtjgljhbmljgaeaaDoor
end
section
/- Stage: contracts: an act's chunk. -/
namespace Go.Proofs.YtjgljhbmljgaeaaDoor
namespace Am
theorem zqc (l : List (List UInt8)) (n : Nat) : (strs l).take n = strs (l.take n) := by simp [strs, List.map_take]
attribute [local irreducible] ACallsTo ACallsP
end Am
end Go.Proofs.YtjgljhbmljgaeaaDoor
end
section
/- Stage: one stage alone; the chapter's log. -/
namespace Go.Proofs.YtjgljhbmljgaeaaDoor
namespace Am
/-- A stage behind all elder objects. -/
structure StAt (τ Y' : Store) (r hn : Nat) (root : Hash) (rn : Nat) (hs : List Hash) (L : List (List UInt8)) : Prop where
  is : ∃ sid, StgIs Y' r hn root rn hs L sid /\ ∀ q, sid = some q -> τ.length <= q
  r : τ.length <= r
  le : τ.length <= Y'.length
  st : ∀ q, q < τ.length -> Y'[q]? = τ[q]?
theorem StAt.get {τ Y' : Store} {r hn : Nat} {root : Hash} {rn : Nat} {hs : List Hash} {L : List (List UInt8)} (h : StAt τ Y' r hn root rn hs L) {q : Nat} {o : Option AObj} (hq : τ[q]? = some o) : Y'[q]? = some o := by
  rw [h.st q (slen hq)]; exact hq
theorem StAt.more {τ Y' y : Store} {r hn : Nat} {root : Hash} {rn : Nat} {hs : List Hash} {L : List (List UInt8)} (h : StAt τ Y' r hn root rn hs L) : StAt τ (Y' ++ y) r hn root rn hs L := by
  obtain ⟨sid, h1, h2⟩ := h.is
  exact ⟨⟨sid, h1.ext ⟨y, rfl⟩, h2⟩, h.r, by have := h.le; simp; omega, fun q hq => by rw [gapp (by have := h.le; omega)]; exact h.st q hq⟩
theorem StAt.has {τ Y' : Store} {r hn : Nat} {root : Hash} {rn : Nat} {hs : List Hash} {L X : List (List UInt8)} {P : List Hash} (h : StAt τ Y' r hn root rn hs L) (hX : X ≠ []) : ∃ a Y'', a = AV.int .i64 (addE hn root rn hs X P) ∧
      StAt τ Y'' r hn root (if addE hn root rn hs X P = 0 then rn + X.length else rn) (if addE hn root rn hs X P = 0 then nxH rn hs X else hs) (if addE hn root rn hs X P = 0 then L ++ X else L) := by
  obtain ⟨sid, h1, h2⟩ := h.is
  obtain ⟨a, Y'', e, sid', fr, T⟩ := AddP.is (P := P) h1 hX
  refine ⟨a, Y'', e, ⟨sid', T, fun q hq => ?_⟩, h.r, by have := h.le; have := fr.le; omega, fun q hq => ?_⟩
  · rcases fr.new with h3 | ⟨q', h3, h4⟩
    · exact h2 q (by rw [<- h3]; exact hq)
    · rw [h3] at hq; cases hq; have := h.le; omega
  · rw [fr.st q (by have := h.le; omega) (fun e => by have := h.r; omega) (fun e => by have := h2 q e; omega)]
    exact h.st q hq
section
variable (a b c d : Hash)
end
end Am
end Go.Proofs.YtjgljhbmljgaeaaDoor
end
section
/- Abstract code. (Printed by wip/gen.) -/
set_option maxRecDepth 10000
namespace Go.Proofs.YtjgljhbmljgaeaaDoor
namespace Am



@[go_sem] def q1ir0 : List AIns := [
  ⟨some 2,none,.no,.alloc zZ0⟩]
@[go_sem] def q1ir1 : List AIns := [
  ⟨some 3,none,.no,.mv (.t 0)⟩,
  ⟨some 4,none,.no,.call (.v (.fn 37 [])) [(.t 3)]⟩]
@[go_sem] def q1ir2 : List AIns := [
  ⟨some 5,none,.no,.build zZ0 []⟩,
  ⟨none,none,.no,.store 32 (.t 2) (.t 5)⟩]
def q1ic3 : ACode := .seq (.reg q1ir2) .ret
def q1ic4 : ACode := .cond (.t 4) q1ic3 .skip
def q1ic5 : ACode := .seq (.reg q1ir1) q1ic4
@[go_sem] def q1ir6 : List AIns := [
  ⟨some 6,none,.no,.mv (.t 0)⟩,
  ⟨some 7,none,.no,.nilc (.t 6)⟩,
  ⟨some 8,none,.no,.fa 0 (.t 7)⟩,
  ⟨some 9,none,.no,.load false 1 (.t 8)⟩,
  ⟨some 10,none,.no,.call (.v (.fn 28 [])) [(.t 9)]⟩,
  ⟨none,none,.no,.store 32 (.t 2) (.t 10)⟩]
def q1ic7 : ACode := .seq (.reg q1ir6) .ret
def q1ic8 : ACode := .seq q1ic5 q1ic7
def q1ic9 : ACode := .seq (.reg q1ir0) q1ic8
theorem q1iok : cFn TC 15 = some (11, [.c 2 true 32], q1ic9) := by kernel_rfl

@[go_sem] def q1jr0 : List AIns := [
  ⟨some 2,none,.no,.mv (.v .nilsl)⟩]
@[go_sem] def q1jr1 : List AIns := [
  ⟨some 3,none,.no,.mv (.t 0)⟩,
  ⟨some 4,none,.no,.call (.v (.fn 37 [])) [(.t 3)]⟩]
@[go_sem] def q1jr2 : List AIns := [
  ⟨some 2,none,.no,.mv (.v .nilsl)⟩]
def q1jc3 : ACode := .seq (.reg q1jr2) .ret
def q1jc4 : ACode := .cond (.t 4) q1jc3 .skip
def q1jc5 : ACode := .seq (.reg q1jr1) q1jc4
@[go_sem] def q1jr6 : List AIns := [
  ⟨some 5,none,.no,.mv (.t 0)⟩,
  ⟨some 6,none,.no,.nilc (.t 5)⟩,
  ⟨some 7,none,.no,.fa 1 (.t 6)⟩,
  ⟨some 8,none,.no,.load false 1 (.t 7)⟩,
  ⟨some 9,none,.no,.app 1 (.v .nilsl) (.t 8)⟩,
  ⟨some 2,none,.no,.mv (.t 9)⟩]
def q1jc7 : ACode := .seq (.reg q1jr6) .ret
def q1jc8 : ACode := .seq q1jc5 q1jc7
def q1jc9 : ACode := .seq (.reg q1jr0) q1jc8
theorem q1jok : cFn TC 17 = some (10, [.t 2], q1jc9) := by kernel_rfl

@[go_sem] def q1kr0 : List AIns := [
  ⟨some 2,none,.no,.mv (.v .nilsl)⟩]
@[go_sem] def q1kr1 : List AIns := [
  ⟨some 6,none,.no,.mv (.t 0)⟩,
  ⟨some 7,none,.no,.call (.v (.fn 37 [])) [(.t 6)]⟩]
@[go_sem] def q1kr2 : List AIns := [
  ⟨some 2,none,.no,.mv (.v .nilsl)⟩]
def q1kc3 : ACode := .seq (.reg q1kr2) .ret
def q1kc4 : ACode := .cond (.t 7) q1kc3 .skip
def q1kc5 : ACode := .seq (.reg q1kr1) q1kc4
@[go_sem] def q1kr6 : List AIns := [
  ⟨some 3,none,.no,.mv (.v .nilsl)⟩]
@[go_sem] def q1kr7 : List AIns := [
  ⟨some 8,none,.no,.mv (.t 0)⟩,
  ⟨some 9,none,.no,.nilc (.t 8)⟩,
  ⟨some 10,none,.no,.fa 5 (.t 9)⟩,
  ⟨some 11,none,.no,.load false 1 (.t 10)⟩,
  ⟨some 12,none,.no,.lenSl (.t 11)⟩,
  ⟨some 13,none,.no,.mv (.v (.int .i64 0))⟩]
@[go_sem] def q1kr8 : List AIns := [
  ⟨some 14,none,.no,.bin .lss .none (.t 13) (.t 12)⟩]
@[go_sem] def q1kr9 : List AIns := [
  ⟨some 15,none,.no,.iaSl 36 (.t 11) (.t 13)⟩,
  ⟨some 16,none,.no,.load true 36 (.t 15)⟩,
  ⟨some 5,none,.no,.alloc [(.int .i64 0), (.int .u8 0), (.int .u8 0), (.int .u8 0), (.int .u8 0), (.int .u8 0), (.int .u8 0), (.int .u8 0), (.int .u8 0), (.int .u8 0), (.int .u8 0), (.int .u8 0), (.int .u8 0), (.int .u8 0), (.int .u8 0), (.int .u8 0), (.int .u8 0), (.int .u8 0), (.int .u8 0), (.int .u8 0), (.int .u8 0), (.int .u8 0), (.int .u8 0), (.int .u8 0), (.int .u8 0), (.int .u8 0), (.int .u8 0), (.int .u8 0), (.int .u8 0), (.int .u8 0), (.int .u8 0), (.int .u8 0), (.int .u8 0), (.int .i64 0), (.str []), .nilsl]⟩,
  ⟨none,none,.no,.store 36 (.t 5) (.t 16)⟩]
@[go_sem] def q1kr10 : List AIns := [
  ⟨some 17,none,.no,.mv (.t 3)⟩,
  ⟨some 18,none,.no,.load true 36 (.t 5)⟩,
  ⟨some 19,none,.no,.call (.v (.fn 41 [])) [(.t 18)]⟩,
  ⟨some 20,none,.no,.lit 36 [(.t 19)]⟩,
  ⟨some 21,none,.no,.app 36 (.t 17) (.t 20)⟩,
  ⟨some 3,none,.no,.mv (.t 21)⟩]
def q1kc11 : ACode := .seq (.reg q1kr9) (.reg q1kr10)
@[go_sem] def q1kr12 : List AIns := [
  ⟨some 22,none,.no,.bin .add .none (.t 13) (.v (.int .i64 1))⟩,
  ⟨some 13,none,.no,.mv (.t 22)⟩]
def q1kc13 : ACode := .seq (.block 1 q1kc11) (.reg q1kr12)
def q1kc14 : ACode := .seq (.cond (.t 14) .skip (.exit 0)) q1kc13
def q1kc15 : ACode := .seq (.reg q1kr8) q1kc14
def q1kc16 : ACode := .loop q1kc15
def q1kc17 : ACode := .block 0 q1kc16
def q1kc18 : ACode := .seq (.reg q1kr7) q1kc17
@[go_sem] def q1kr19 : List AIns := [
  ⟨some 23,none,.no,.mv (.t 3)⟩,
  ⟨some 2,none,.no,.mv (.t 23)⟩]
def q1kc20 : ACode := .seq (.reg q1kr19) .ret
def q1kc21 : ACode := .seq q1kc18 q1kc20
def q1kc22 : ACode := .seq (.reg q1kr6) q1kc21
def q1kc23 : ACode := .seq q1kc5 q1kc22
def q1kc24 : ACode := .seq (.reg q1kr0) q1kc23
theorem q1kok : cFn TC 18 = some (24, [.t 2], q1kc24) := by kernel_rfl

@[go_sem] def q1lr0 : List AIns := [
  ⟨some 2,none,.no,.mv (.v (.bool false))⟩]
@[go_sem] def q1lr1 : List AIns := [
  ⟨some 3,none,.no,.mv (.t 0)⟩,
  ⟨some 4,none,.no,.bin .eql .ptr (.t 3) (.v .nilp)⟩,
  ⟨some 5,none,.no,.mv (.t 4)⟩,
  ⟨some 6, some (5, false), .no, .mv (.t 0)⟩,
  ⟨some 7, some (5, false), .no, .nilc (.t 6)⟩,
  ⟨some 8, some (5, false), .no, .fa 0 (.t 7)⟩,
  ⟨some 9, some (5, false), .no, .load false 1 (.t 8)⟩,
  ⟨some 10, some (5, false), .no, .bin .eql .ptr (.t 9) (.v .nilp)⟩,
  ⟨some 11,none,.no,.pick (.t 5) (.v (.bool true)) (.t 10)⟩,
  ⟨some 2,none,.no,.mv (.t 11)⟩]
def q1lc2 : ACode := .seq (.reg q1lr1) .ret
def q1lc3 : ACode := .seq (.reg q1lr0) q1lc2
theorem q1lok : cFn TC 37 = some (12, [.t 2], q1lc3) := by kernel_rfl

@[go_sem] def q1mr0 : List AIns := [
  ⟨some 1,none,.no,.box (.t 0)⟩,
  ⟨some 2,none,.no,.alloc [(.int .i64 0), (.int .u8 0), (.int .u8 0), (.int .u8 0), (.int .u8 0), (.int .u8 0), (.int .u8 0), (.int .u8 0), (.int .u8 0), (.int .u8 0), (.int .u8 0), (.int .u8 0), (.int .u8 0), (.int .u8 0), (.int .u8 0), (.int .u8 0), (.int .u8 0), (.int .u8 0), (.int .u8 0), (.int .u8 0), (.int .u8 0), (.int .u8 0), (.int .u8 0), (.int .u8 0), (.int .u8 0), (.int .u8 0), (.int .u8 0), (.int .u8 0), (.int .u8 0), (.int .u8 0), (.int .u8 0), (.int .u8 0), (.int .u8 0), (.int .i64 0), (.str []), .nilsl]⟩]
@[go_sem] def q1mr1 : List AIns := [
  ⟨some 3,none,.no,.fa 33 (.t 1)⟩,
  ⟨some 4,none,.no,.fa 2 (.t 3)⟩,
  ⟨some 5,none,.no,.load false 1 (.t 4)⟩,
  ⟨some 6,none,.no,.app 32 (.v .nilsl) (.t 5)⟩,
  ⟨some 7,none,.no,.fa 33 (.t 1)⟩,
  ⟨some 8,none,.no,.fa 2 (.t 7)⟩,
  ⟨none,none,.no,.store 1 (.t 8) (.t 6)⟩]
@[go_sem] def q1mr2 : List AIns := [
  ⟨some 9,none,.no,.load true 36 (.t 1)⟩,
  ⟨none,none,.no,.store 36 (.t 2) (.t 9)⟩]
def q1mc3 : ACode := .seq (.reg q1mr2) .ret
def q1mc4 : ACode := .seq (.reg q1mr1) q1mc3
def q1mc5 : ACode := .seq (.reg q1mr0) q1mc4
theorem q1mok : cFn TC 41 = some (10, [.c 2 true 36], q1mc5) := by kernel_rfl
end Am
end Go.Proofs.YtjgljhbmljgaeaaDoor
end
section
/- Abstract code. (Printed by wip/gen.) -/
set_option maxRecDepth 10000
namespace Go.Proofs.YtjgljhbmljgaeaaDoor
namespace Am



@[go_sem] def q1nr0 : List AIns := [
  ⟨some 2,none,.no,.box (.t 0)⟩,
  ⟨some 3,none,.no,.box (.t 1)⟩,
  ⟨some 4,none,.no,.mv (.v (.bool false))⟩]
@[go_sem] def q1nr1 : List AIns := [
  ⟨some 11,none,.no,.fa 33 (.t 2)⟩,
  ⟨some 12,none,.no,.fa 1 (.t 11)⟩,
  ⟨some 13,none,.no,.load false 1 (.t 12)⟩,
  ⟨some 14,none,.no,.lenStr (.t 13)⟩,
  ⟨some 15,none,.no,.bin .gtr .none (.t 14) (.v (.int .i64 17000))⟩,
  ⟨some 16,none,.no,.mv (.t 15)⟩,
  ⟨some 17, some (16, false), .no, .fa 33 (.t 2)⟩,
  ⟨some 18, some (16, false), .no, .fa 2 (.t 17)⟩,
  ⟨some 19, some (16, false), .no, .load false 1 (.t 18)⟩,
  ⟨some 20, some (16, false), .no, .lenSl (.t 19)⟩,
  ⟨some 21, some (16, false), .no, .bin .gtr .none (.t 20) (.v (.int .i64 10))⟩,
  ⟨some 22,none,.no,.pick (.t 16) (.v (.bool true)) (.t 21)⟩,
  ⟨some 23,none,.no,.mv (.t 22)⟩,
  ⟨some 24, some (23, false), .no, .load true 5 (.t 3)⟩,
  ⟨some 25, some (23, false), .no, .lit 5 [(.t 24)]⟩,
  ⟨some 26, some (23, false), .no, .call (.v (.fn 6 [])) [(.t 25), (.v (.int .i64 1))]⟩,
  ⟨some 27,none,.no,.pick (.t 23) (.v (.bool true)) (.t 26)⟩]
@[go_sem] def q1nr2 : List AIns := [
  ⟨some 28,none,.no,.call (.v (.fn 7 [])) []⟩,
  ⟨some 4,none,.no,.mv (.t 28)⟩]
def q1nc3 : ACode := .seq (.reg q1nr2) .ret
def q1nc4 : ACode := .cond (.t 27) q1nc3 .skip
def q1nc5 : ACode := .seq (.reg q1nr1) q1nc4
@[go_sem] def q1nr6 : List AIns := [
  ⟨some 5,none,.no,.mv (.v .nilp)⟩]
@[go_sem] def q1nr7 : List AIns := [
  ⟨some 6,none,.no,.mv (.v (.int .i64 0))⟩]
@[go_sem] def q1nr8 : List AIns := [
  ⟨some 29,none,.no,.mv (.t 6)⟩,
  ⟨some 30,none,.no,.bin .lss .none (.t 29) (.v (.int .i64 2))⟩]
def q1nc9 : ACode := .cond (.t 30) .skip (.exit 0)
def q1nc10 : ACode := .seq (.reg q1nr8) q1nc9
@[go_sem] def q1nr11 : List AIns := [
  ⟨some 34,none,.no,.mv (.t 5)⟩,
  ⟨some 35,none,.no,.call (.v (.fn 8 [])) [(.t 34)]⟩,
  ⟨some 33,none,.no,.mv (.t 35)⟩,
  ⟨some 36,none,.no,.ext 0 (.t 33)⟩,
  ⟨some 37,none,.no,.ext 1 (.t 33)⟩,
  ⟨some 7,none,.no,.alloc [(.int .i64 0), (.int .u8 0), (.int .u8 0), (.int .u8 0), (.int .u8 0), (.int .u8 0), (.int .u8 0), (.int .u8 0), (.int .u8 0), (.int .u8 0), (.int .u8 0), (.int .u8 0), (.int .u8 0), (.int .u8 0), (.int .u8 0), (.int .u8 0), (.int .u8 0), (.int .u8 0), (.int .u8 0), (.int .u8 0), (.int .u8 0), (.int .u8 0), (.int .u8 0), (.int .u8 0), (.int .u8 0), (.int .u8 0), (.int .u8 0), (.int .u8 0), (.int .u8 0), (.int .u8 0), (.int .u8 0), (.int .u8 0), (.int .u8 0), (.int .i64 0), (.str []), .nilsl]⟩,
  ⟨none,none,.no,.store 36 (.t 7) (.t 36)⟩,
  ⟨some 8,none,.no,.mv (.t 37)⟩]
@[go_sem] def q1nr12 : List AIns := [
  ⟨some 39,none,.no,.mv (.t 5)⟩,
  ⟨some 40,none,.no,.call (.v (.fn 9 [])) [(.t 39)]⟩,
  ⟨some 38,none,.no,.mv (.t 40)⟩,
  ⟨some 41,none,.no,.ext 0 (.t 38)⟩,
  ⟨some 42,none,.no,.ext 1 (.t 38)⟩,
  ⟨some 9,none,.no,.alloc [(.int .i64 0), (.int .i64 0), (.int .u8 0), (.int .u8 0), (.int .u8 0), (.int .u8 0), (.int .u8 0), (.int .u8 0), (.int .u8 0), (.int .u8 0), (.int .u8 0), (.int .u8 0), (.int .u8 0), (.int .u8 0), (.int .u8 0), (.int .u8 0), (.int .u8 0), (.int .u8 0), (.int .u8 0), (.int .u8 0), (.int .u8 0), (.int .u8 0), (.int .u8 0), (.int .u8 0), (.int .u8 0), (.int .u8 0), (.int .u8 0), (.int .u8 0), (.int .u8 0), (.int .u8 0), (.int .u8 0), (.int .u8 0), (.int .u8 0), (.int .u8 0), (.int .i64 0), (.str []), .nilsl, (.int .i64 0), (.int .u8 0), (.int .u8 0), (.int .u8 0), (.int .u8 0), (.int .u8 0), (.int .u8 0), (.int .u8 0), (.int .u8 0), (.int .u8 0), (.int .u8 0), (.int .u8 0), (.int .u8 0), (.int .u8 0), (.int .u8 0), (.int .u8 0), (.int .u8 0), (.int .u8 0), (.int .u8 0), (.int .u8 0), (.int .u8 0), (.int .u8 0), (.int .u8 0), (.int .u8 0), (.int .u8 0), (.int .u8 0), (.int .u8 0), (.int .u8 0), (.int .u8 0), (.int .u8 0), (.int .u8 0), (.int .u8 0), (.int .u8 0), (.int .i64 0), (.str []), .nilsl, (.int .u8 0), (.int .u8 0), (.int .u8 0), (.int .u8 0), (.int .u8 0), (.int .u8 0), (.int .u8 0), (.int .u8 0), (.int .u8 0), (.int .u8 0), (.int .u8 0), (.int .u8 0), (.int .u8 0), (.int .u8 0), (.int .u8 0), (.int .u8 0), (.int .u8 0), (.int .u8 0), (.int .u8 0), (.int .u8 0), (.int .u8 0), (.int .u8 0), (.int .u8 0), (.int .u8 0), (.int .u8 0), (.int .u8 0), (.int .u8 0), (.int .u8 0), (.int .u8 0), (.int .u8 0), (.int .u8 0), (.int .u8 0), .nilsl]⟩,
  ⟨none,none,.no,.store 106 (.t 9) (.t 41)⟩,
  ⟨some 10,none,.no,.mv (.t 42)⟩]
@[go_sem] def q1nr13 : List AIns := [
  ⟨some 43,none,.no,.mv (.t 5)⟩,
  ⟨some 44,none,.no,.load true 36 (.t 2)⟩,
  ⟨some 45,none,.no,.fa 4 (.t 3)⟩,
  ⟨some 46,none,.no,.load false 1 (.t 45)⟩,
  ⟨some 47,none,.no,.call (.v (.fn 10 [])) [(.t 43), (.t 44), (.t 46)]⟩,
  ⟨some 48,none,.no,.bin .neq .none (.t 47) (.v (.int .i64 0))⟩,
  ⟨some 49,none,.no,.mv (.t 48)⟩,
  ⟨some 50, some (49, false), .no, .mv (.t 5)⟩,
  ⟨some 51, some (49, false), .no, .fa 2 (.t 3)⟩,
  ⟨some 52, some (49, false), .no, .load false 1 (.t 51)⟩,
  ⟨some 53, some (49, false), .no, .conv (.int .i64) (.t 52)⟩,
  ⟨some 54, some (49, false), .no, .fa 3 (.t 3)⟩,
  ⟨some 55, some (49, false), .no, .load false 1 (.t 54)⟩,
  ⟨some 56, some (49, false), .no, .fa 4 (.t 3)⟩,
  ⟨some 57, some (49, false), .no, .load false 1 (.t 56)⟩,
  ⟨some 58, some (49, false), .no, .call (.v (.fn 11 [])) [(.t 50), (.t 53), (.t 55), (.t 57)]⟩,
  ⟨some 59, some (49, false), .no, .bin .neq .none (.t 58) (.v (.int .i64 1))⟩,
  ⟨some 60,none,.no,.pick (.t 49) (.v (.bool true)) (.t 59)⟩,
  ⟨some 61,none,.no,.mv (.t 60)⟩,
  ⟨some 62, some (61, false), .no, .mv (.t 8)⟩,
  ⟨some 63,none,.no,.pick (.t 61) (.v (.bool true)) (.t 62)⟩,
  ⟨some 64,none,.no,.mv (.t 63)⟩,
  ⟨some 65, some (64, false), .no, .mv (.t 10)⟩,
  ⟨some 66,none,.no,.pick (.t 64) (.v (.bool true)) (.t 65)⟩]
@[go_sem] def q1nr14 : List AIns := [
  ⟨some 4,none,.no,.mv (.v (.bool false))⟩]
def q1nc15 : ACode := .seq (.reg q1nr14) .ret
def q1nc16 : ACode := .cond (.t 66) q1nc15 .skip
def q1nc17 : ACode := .seq (.reg q1nr13) q1nc16
@[go_sem] def q1nr18 : List AIns := [
  ⟨some 67,none,.no,.build [(.bool false), (.int .u8 0), (.int .u8 0), (.int .u8 0), (.int .u8 0), (.int .u8 0), (.int .u8 0), (.int .u8 0), (.int .u8 0), (.int .u8 0), (.int .u8 0), (.int .u8 0), (.int .u8 0), (.int .u8 0), (.int .u8 0), (.int .u8 0), (.int .u8 0), (.int .u8 0), (.int .u8 0), (.int .u8 0), (.int .u8 0), (.int .u8 0), (.int .u8 0), (.int .u8 0), (.int .u8 0), (.int .u8 0), (.int .u8 0), (.int .u8 0), (.int .u8 0), (.int .u8 0), (.int .u8 0), (.int .u8 0), (.int .u8 0), (.bool false), (.int .i64 0), (.int .u8 0), (.int .u8 0), (.int .u8 0), (.int .u8 0), (.int .u8 0), (.int .u8 0), (.int .u8 0), (.int .u8 0), (.int .u8 0), (.int .u8 0), (.int .u8 0), (.int .u8 0), (.int .u8 0), (.int .u8 0), (.int .u8 0), (.int .u8 0), (.int .u8 0), (.int .u8 0), (.int .u8 0), (.int .u8 0), (.int .u8 0), (.int .u8 0), (.int .u8 0), (.int .u8 0), (.int .u8 0), (.int .u8 0), (.int .u8 0), (.int .u8 0), (.int .u8 0), (.int .u8 0), (.int .u8 0), (.int .u8 0), (.int .i64 0), (.str []), .nilsl, .nilp] []⟩,
  ⟨some 68,none,.no,.box (.t 67)⟩,
  ⟨some 5,none,.no,.mv (.t 68)⟩]
def q1nc19 : ACode := .seq q1nc17 (.reg q1nr18)
def q1nc20 : ACode := .seq (.reg q1nr12) q1nc19
def q1nc21 : ACode := .seq (.reg q1nr11) q1nc20
@[go_sem] def q1nr22 : List AIns := [
  ⟨some 31,none,.no,.mv (.t 6)⟩,
  ⟨some 32,none,.no,.bin .add .none (.t 31) (.v (.int .i64 1))⟩,
  ⟨some 6,none,.no,.mv (.t 32)⟩]
def q1nc23 : ACode := .seq (.block 1 q1nc21) (.reg q1nr22)
def q1nc24 : ACode := .seq q1nc10 q1nc23
def q1nc25 : ACode := .loop q1nc24
def q1nc26 : ACode := .block 0 q1nc25
def q1nc27 : ACode := .seq (.reg q1nr7) q1nc26
@[go_sem] def q1nr28 : List AIns := [
  ⟨some 69,none,.no,.call (.v (.fn 7 [])) []⟩,
  ⟨some 4,none,.no,.mv (.t 69)⟩]
def q1nc29 : ACode := .seq (.reg q1nr28) .ret
def q1nc30 : ACode := .seq q1nc27 q1nc29
def q1nc31 : ACode := .seq (.reg q1nr6) q1nc30
def q1nc32 : ACode := .seq q1nc5 q1nc31
def q1nc33 : ACode := .seq (.reg q1nr0) q1nc32
theorem q1nok : cFn TC 3 = some (70, [.t 4], q1nc33) := by kernel_rfl

@[go_sem] def q1or0 : List AIns := [
  ⟨some 4,none,.no,.mv (.v (.bool false))⟩]
@[go_sem] def q1or1 : List AIns := [
  ⟨some 5,none,.no,.mv (.v (.int .i64 0))⟩]
@[go_sem] def q1or2 : List AIns := [
  ⟨some 6,none,.no,.mv (.t 5)⟩,
  ⟨some 7,none,.no,.mv (.t 0)⟩,
  ⟨some 8,none,.no,.lenSl (.t 7)⟩,
  ⟨some 9,none,.no,.bin .lss .none (.t 6) (.t 8)⟩]
def q1oc3 : ACode := .cond (.t 9) .skip (.exit 0)
def q1oc4 : ACode := .seq (.reg q1or2) q1oc3
@[go_sem] def q1or5 : List AIns := [
  ⟨some 12,none,.no,.mv (.t 0)⟩,
  ⟨some 13,none,.no,.mv (.t 5)⟩,
  ⟨some 14,none,.no,.iaSl 5 (.t 12) (.t 13)⟩,
  ⟨some 15,none,.no,.fa 3 (.t 14)⟩,
  ⟨some 16,none,.no,.load false 1 (.t 15)⟩,
  ⟨some 17,none,.no,.lenStr (.t 16)⟩,
  ⟨some 18,none,.no,.bin .gtr .none (.t 17) (.v (.int .i64 300))⟩,
  ⟨some 19,none,.no,.mv (.t 18)⟩,
  ⟨some 20, some (19, false), .no, .mv (.t 0)⟩,
  ⟨some 21, some (19, false), .no, .mv (.t 5)⟩,
  ⟨some 22, some (19, false), .no, .iaSl 5 (.t 20) (.t 21)⟩,
  ⟨some 23, some (19, false), .no, .fa 4 (.t 22)⟩,
  ⟨some 24, some (19, false), .no, .load false 1 (.t 23)⟩,
  ⟨some 25, some (19, false), .no, .lenSl (.t 24)⟩,
  ⟨some 26, some (19, false), .no, .bin .gtr .none (.t 25) (.v (.int .i64 20))⟩,
  ⟨some 27,none,.no,.pick (.t 19) (.v (.bool true)) (.t 26)⟩]
@[go_sem] def q1or6 : List AIns := [
  ⟨some 4,none,.no,.mv (.v (.bool true))⟩]
def q1oc7 : ACode := .seq (.reg q1or6) .ret
def q1oc8 : ACode := .cond (.t 27) q1oc7 .skip
def q1oc9 : ACode := .seq (.reg q1or5) q1oc8
@[go_sem] def q1or10 : List AIns := [
  ⟨some 10,none,.no,.mv (.t 5)⟩,
  ⟨some 11,none,.no,.bin .add .none (.t 10) (.v (.int .i64 1))⟩,
  ⟨some 5,none,.no,.mv (.t 11)⟩]
def q1oc11 : ACode := .seq (.block 1 q1oc9) (.reg q1or10)
def q1oc12 : ACode := .seq q1oc4 q1oc11
def q1oc13 : ACode := .loop q1oc12
def q1oc14 : ACode := .block 0 q1oc13
def q1oc15 : ACode := .seq (.reg q1or1) q1oc14
@[go_sem] def q1or16 : List AIns := [
  ⟨some 28,none,.no,.mv (.t 0)⟩,
  ⟨some 29,none,.no,.lenSl (.t 28)⟩,
  ⟨some 30,none,.no,.mv (.t 1)⟩,
  ⟨some 31,none,.no,.bin .gtr .none (.t 29) (.t 30)⟩,
  ⟨some 4,none,.no,.mv (.t 31)⟩]
def q1oc17 : ACode := .seq (.reg q1or16) .ret
def q1oc18 : ACode := .seq q1oc15 q1oc17
def q1oc19 : ACode := .seq (.reg q1or0) q1oc18
theorem q1ook : cFn TC 6 = some (32, [.t 4], q1oc19) := by kernel_rfl

@[go_sem] def q1pr0 : List AIns := [
  ⟨some 0,none,.no,.mv (.v (.bool false))⟩]
@[go_sem] def q1pr1 : List AIns := [
  ⟨some 10,none,.no,.lit 1 [(.v (.str [97])), (.v (.str [98]))]⟩,
  ⟨some 11,none,.no,.call (.v (.fn 25 [])) [(.t 10)]⟩,
  ⟨some 1,none,.no,.alloc [.nilp, .nilsl]⟩,
  ⟨none,none,.no,.store 2 (.t 1) (.t 11)⟩]
@[go_sem] def q1pr2 : List AIns := [
  ⟨some 12,none,.no,.call (.v (.fn 23 [])) [(.v (.str [97]))]⟩,
  ⟨some 13,none,.no,.call (.v (.fn 23 [])) [(.v (.str [98]))]⟩,
  ⟨some 14,none,.no,.lit 32 [(.t 12), (.t 13)]⟩,
  ⟨some 2,none,.no,.mv (.t 14)⟩]
@[go_sem] def q1pr3 : List AIns := [
  ⟨some 16,none,.no,.mv (.t 2)⟩,
  ⟨some 17,none,.no,.call (.v (.fn 26 [])) [(.t 16), (.v (.int .i64 1))]⟩,
  ⟨some 15,none,.no,.mv (.t 17)⟩,
  ⟨some 18,none,.no,.ext 0 (.t 15)⟩,
  ⟨some 19,none,.no,.ext 1 (.t 15)⟩,
  ⟨some 3,none,.no,.mv (.t 18)⟩,
  ⟨some 4,none,.no,.mv (.t 19)⟩]
@[go_sem] def q1pr4 : List AIns := [
  ⟨some 20,none,.no,.fa 0 (.t 1)⟩,
  ⟨some 21,none,.no,.load false 1 (.t 20)⟩,
  ⟨some 22,none,.no,.call (.v (.fn 28 [])) [(.t 21)]⟩,
  ⟨some 23,none,.no,.call (.v (.fn 27 [])) [(.t 22)]⟩,
  ⟨some 5,none,.no,.mv (.t 23)⟩]
@[go_sem] def q1pr5 : List AIns := [
  ⟨some 24, none, .rd, .load true 2 (.t 1)⟩,
  ⟨some 25, none, .pu, .call (.v (.fn 29 [])) [(.t 24), (.v (.int .i64 1)), (.v (.int .i64 0))]⟩,
  ⟨some 26, none, .rd, .load true 2 (.t 1)⟩,
  ⟨some 27, none, .pu, .call (.v (.fn 29 [])) [(.t 26), (.v (.int .i64 2)), (.v (.int .i64 1))]⟩,
  ⟨some 6, none, .ef, .alloc [(.int .i64 0), (.int .u8 0), (.int .u8 0), (.int .u8 0), (.int .u8 0), (.int .u8 0), (.int .u8 0), (.int .u8 0), (.int .u8 0), (.int .u8 0), (.int .u8 0), (.int .u8 0), (.int .u8 0), (.int .u8 0), (.int .u8 0), (.int .u8 0), (.int .u8 0), (.int .u8 0), (.int .u8 0), (.int .u8 0), (.int .u8 0), (.int .u8 0), (.int .u8 0), (.int .u8 0), (.int .u8 0), (.int .u8 0), (.int .u8 0), (.int .u8 0), (.int .u8 0), (.int .u8 0), (.int .u8 0), (.int .u8 0), (.int .u8 0), (.int .i64 0), (.str []), .nilsl]⟩,
  ⟨some 7, none, .ef, .alloc [(.int .i64 0), (.int .u8 0), (.int .u8 0), (.int .u8 0), (.int .u8 0), (.int .u8 0), (.int .u8 0), (.int .u8 0), (.int .u8 0), (.int .u8 0), (.int .u8 0), (.int .u8 0), (.int .u8 0), (.int .u8 0), (.int .u8 0), (.int .u8 0), (.int .u8 0), (.int .u8 0), (.int .u8 0), (.int .u8 0), (.int .u8 0), (.int .u8 0), (.int .u8 0), (.int .u8 0), (.int .u8 0), (.int .u8 0), (.int .u8 0), (.int .u8 0), (.int .u8 0), (.int .u8 0), (.int .u8 0), (.int .u8 0), (.int .u8 0), (.int .i64 0), (.str []), .nilsl]⟩,
  ⟨none,none,.no,.store 36 (.t 6) (.t 25)⟩,
  ⟨none,none,.no,.store 36 (.t 7) (.t 27)⟩]
@[go_sem] def q1pr6 : List AIns := [
  ⟨some 4, none, .pu, .stuck⟩,
  ⟨some 7, none, .ef, .alloc [(.int .i64 0), (.int .u8 0), (.int .u8 0), (.int .u8 0), (.int .u8 0), (.int .u8 0), (.int .u8 0), (.int .u8 0), (.int .u8 0), (.int .u8 0), (.int .u8 0), (.int .u8 0), (.int .u8 0), (.int .u8 0), (.int .u8 0), (.int .u8 0), (.int .u8 0), (.int .u8 0), (.int .u8 0), (.int .u8 0), (.int .u8 0), (.int .u8 0), (.int .u8 0), (.int .u8 0), (.int .u8 0), (.int .u8 0), (.int .u8 0), (.int .u8 0), (.int .u8 0), (.int .u8 0), (.int .u8 0), (.int .u8 0), (.int .u8 0), (.int .i64 0), (.str []), .nilsl]⟩,
  ⟨some 6, none, .ef, .alloc [(.int .i64 0), (.int .u8 0), (.int .u8 0), (.int .u8 0), (.int .u8 0), (.int .u8 0), (.int .u8 0), (.int .u8 0), (.int .u8 0), (.int .u8 0), (.int .u8 0), (.int .u8 0), (.int .u8 0), (.int .u8 0), (.int .u8 0), (.int .u8 0), (.int .u8 0), (.int .u8 0), (.int .u8 0), (.int .u8 0), (.int .u8 0), (.int .u8 0), (.int .u8 0), (.int .u8 0), (.int .u8 0), (.int .u8 0), (.int .u8 0), (.int .u8 0), (.int .u8 0), (.int .u8 0), (.int .u8 0), (.int .u8 0), (.int .u8 0), (.int .i64 0), (.str []), .nilsl]⟩,
  ⟨none,none,.no,.store 36 (.t 6) (.t 25)⟩,
  ⟨none,none,.no,.store 36 (.t 7) (.t 27)⟩]
@[go_sem] def q1pr7 : List AIns := [
  ⟨some 28,none,.no,.mv (.t 4)⟩,
  ⟨some 29,none,.no,.bin .neq .none (.t 28) (.v (.int .i64 0))⟩,
  ⟨some 30,none,.no,.mv (.t 29)⟩,
  ⟨some 31, some (30, false), .no, .mv (.t 5)⟩,
  ⟨some 32, some (30, false), .no, .call (.v (.fn 11 [])) [(.t 31), (.v (.int .i64 0)), (.v (.str [97])), (.v .nilsl)]⟩,
  ⟨some 33, some (30, false), .no, .bin .neq .none (.t 32) (.v (.int .i64 4))⟩,
  ⟨some 34,none,.no,.pick (.t 30) (.v (.bool true)) (.t 33)⟩,
  ⟨some 35,none,.no,.mv (.t 34)⟩,
  ⟨some 36, some (35, false), .no, .mv (.t 5)⟩,
  ⟨some 37, some (35, false), .no, .load true 36 (.t 6)⟩,
  ⟨some 38, some (35, false), .no, .call (.v (.fn 10 [])) [(.t 36), (.t 37), (.v .nilsl)]⟩,
  ⟨some 39, some (35, false), .no, .bin .neq .none (.t 38) (.v (.int .i64 1))⟩,
  ⟨some 40,none,.no,.pick (.t 35) (.v (.bool true)) (.t 39)⟩,
  ⟨some 41,none,.no,.mv (.t 40)⟩,
  ⟨some 42, some (41, false), .no, .mv (.t 5)⟩,
  ⟨some 43, some (41, false), .no, .load true 36 (.t 6)⟩,
  ⟨some 44, some (41, false), .no, .call (.v (.fn 10 [])) [(.t 42), (.t 43), (.v .nilsl)]⟩,
  ⟨some 45, some (41, false), .no, .bin .neq .none (.t 44) (.v (.int .i64 3))⟩,
  ⟨some 46,none,.no,.pick (.t 41) (.v (.bool true)) (.t 45)⟩,
  ⟨some 47,none,.no,.mv (.t 46)⟩,
  ⟨some 48, some (47, false), .no, .mv (.t 5)⟩,
  ⟨some 49, some (47, false), .no, .load true 36 (.t 7)⟩,
  ⟨some 50, some (47, false), .no, .call (.v (.fn 10 [])) [(.t 48), (.t 49), (.v .nilsl)]⟩,
  ⟨some 51, some (47, false), .no, .bin .neq .none (.t 50) (.v (.int .i64 5))⟩,
  ⟨some 52,none,.no,.pick (.t 47) (.v (.bool true)) (.t 51)⟩,
  ⟨some 53,none,.no,.mv (.t 52)⟩,
  ⟨some 54, some (53, false), .no, .mv (.t 5)⟩,
  ⟨some 55, some (53, false), .no, .load true 36 (.t 7)⟩,
  ⟨some 56, some (53, false), .no, .mv (.t 3)⟩,
  ⟨some 57, some (53, false), .no, .call (.v (.fn 10 [])) [(.t 54), (.t 55), (.t 56)]⟩,
  ⟨some 58, some (53, false), .no, .bin .neq .none (.t 57) (.v (.int .i64 2))⟩,
  ⟨some 59,none,.no,.pick (.t 53) (.v (.bool true)) (.t 58)⟩,
  ⟨some 60,none,.no,.mv (.t 59)⟩,
  ⟨some 61, some (60, false), .no, .mv (.t 5)⟩,
  ⟨some 62, some (60, false), .no, .load true 36 (.t 6)⟩,
  ⟨some 63, some (60, false), .no, .mv (.t 3)⟩,
  ⟨some 64, some (60, false), .no, .call (.v (.fn 10 [])) [(.t 61), (.t 62), (.t 63)]⟩,
  ⟨some 65, some (60, false), .no, .bin .neq .none (.t 64) (.v (.int .i64 4))⟩,
  ⟨some 66,none,.no,.pick (.t 60) (.v (.bool true)) (.t 65)⟩]
@[go_sem] def q1pr8 : List AIns := [
  ⟨some 0,none,.no,.mv (.v (.bool false))⟩]
def q1pc9 : ACode := .seq (.reg q1pr8) .ret
def q1pc10 : ACode := .cond (.t 66) q1pc9 .skip
def q1pc11 : ACode := .seq (.reg q1pr7) q1pc10
@[go_sem] def q1pr12 : List AIns := [
  ⟨some 68,none,.no,.mv (.t 2)⟩,
  ⟨some 69,none,.no,.call (.v (.fn 30 [])) [(.t 68), (.v (.int .i64 1))]⟩,
  ⟨some 67,none,.no,.mv (.t 69)⟩,
  ⟨some 70,none,.no,.ext 0 (.t 67)⟩,
  ⟨some 71,none,.no,.ext 1 (.t 67)⟩,
  ⟨some 8,none,.no,.mv (.t 70)⟩,
  ⟨some 9,none,.no,.mv (.t 71)⟩]
@[go_sem] def q1pr13 : List AIns := [
  ⟨some 72,none,.no,.mv (.t 9)⟩,
  ⟨some 73,none,.no,.bin .eql .none (.t 72) (.v (.int .i64 0))⟩,
  ⟨some 74,none,.no,.mv (.t 73)⟩,
  ⟨some 75, some (74, true), .no, .mv (.t 5)⟩,
  ⟨some 76, some (74, true), .no, .mv (.t 8)⟩,
  ⟨some 77, some (74, true), .no, .call (.v (.fn 11 [])) [(.t 75), (.v (.int .i64 1)), (.v (.str [98])), (.t 76)]⟩,
  ⟨some 78, some (74, true), .no, .bin .eql .none (.t 77) (.v (.int .i64 0))⟩,
  ⟨some 79,none,.no,.pick (.t 74) (.t 78) (.v (.bool false))⟩,
  ⟨some 80,none,.no,.mv (.t 79)⟩,
  ⟨some 81, some (80, true), .no, .mv (.t 5)⟩,
  ⟨some 82, some (80, true), .no, .mv (.t 8)⟩,
  ⟨some 83, some (80, true), .no, .call (.v (.fn 11 [])) [(.t 81), (.v (.int .i64 1)), (.v (.str [97])), (.t 82)]⟩,
  ⟨some 84, some (80, true), .no, .bin .eql .none (.t 83) (.v (.int .i64 80))⟩,
  ⟨some 85,none,.no,.pick (.t 80) (.t 84) (.v (.bool false))⟩,
  ⟨some 86,none,.no,.mv (.t 85)⟩,
  ⟨some 87, some (86, true), .no, .mv (.t 5)⟩,
  ⟨some 88, some (86, true), .no, .mv (.t 8)⟩,
  ⟨some 89, some (86, true), .no, .call (.v (.fn 11 [])) [(.t 87), (.v (.int .i64 2)), (.v (.str [98])), (.t 88)]⟩,
  ⟨some 90, some (86, true), .no, .bin .eql .none (.t 89) (.v (.int .i64 82))⟩,
  ⟨some 91,none,.no,.pick (.t 86) (.t 90) (.v (.bool false))⟩,
  ⟨some 0,none,.no,.mv (.t 91)⟩]
def q1pc14 : ACode := .seq (.reg q1pr13) .ret
def q1pc15 : ACode := .seq (.reg q1pr12) q1pc14
def zc4 : ACode := .seq q1pc11 q1pc15
def q1pc17 : ACode := .seq (.reg2 q1pr5 q1pr6) zc4
def q1pc18 : ACode := .seq (.reg q1pr4) q1pc17
def q1pc19 : ACode := .seq (.reg q1pr3) q1pc18
def q1pc20 : ACode := .seq (.reg q1pr2) q1pc19
def q1pc21 : ACode := .seq (.reg q1pr1) q1pc20
def q1pc22 : ACode := .seq (.reg q1pr0) q1pc21
theorem q1pok : cFn TC 7 = some (92, [.t 0], q1pc22) := by kernel_rfl

@[go_sem] def q1qr0 : List AIns := [
  ⟨some 2,none,.no,.alloc [(.int .i64 0), (.int .u8 0), (.int .u8 0), (.int .u8 0), (.int .u8 0), (.int .u8 0), (.int .u8 0), (.int .u8 0), (.int .u8 0), (.int .u8 0), (.int .u8 0), (.int .u8 0), (.int .u8 0), (.int .u8 0), (.int .u8 0), (.int .u8 0), (.int .u8 0), (.int .u8 0), (.int .u8 0), (.int .u8 0), (.int .u8 0), (.int .u8 0), (.int .u8 0), (.int .u8 0), (.int .u8 0), (.int .u8 0), (.int .u8 0), (.int .u8 0), (.int .u8 0), (.int .u8 0), (.int .u8 0), (.int .u8 0), (.int .u8 0), (.int .i64 0), (.str []), .nilsl]⟩,
  ⟨some 3,none,.no,.mv (.v (.bool false))⟩]
@[go_sem] def q1qr1 : List AIns := [
  ⟨some 4,none,.no,.mv (.t 0)⟩,
  ⟨some 5,none,.no,.call (.v (.fn 31 [])) [(.t 4)]⟩,
  ⟨some 6,none,.no,.mv (.t 5)⟩,
  ⟨some 7, some (6, false), .no, .mv (.t 0)⟩,
  ⟨some 8, some (6, false), .no, .nilc (.t 7)⟩,
  ⟨some 9, some (6, false), .no, .fa 33 (.t 8)⟩,
  ⟨some 10, some (6, false), .no, .load false 1 (.t 9)⟩,
  ⟨some 11, some (6, false), .no, .un .not (.t 10)⟩,
  ⟨some 12,none,.no,.pick (.t 6) (.v (.bool true)) (.t 11)⟩]
@[go_sem] def q1qr2 : List AIns := [
  ⟨some 13,none,.no,.build [(.int .i64 0), (.int .u8 0), (.int .u8 0), (.int .u8 0), (.int .u8 0), (.int .u8 0), (.int .u8 0), (.int .u8 0), (.int .u8 0), (.int .u8 0), (.int .u8 0), (.int .u8 0), (.int .u8 0), (.int .u8 0), (.int .u8 0), (.int .u8 0), (.int .u8 0), (.int .u8 0), (.int .u8 0), (.int .u8 0), (.int .u8 0), (.int .u8 0), (.int .u8 0), (.int .u8 0), (.int .u8 0), (.int .u8 0), (.int .u8 0), (.int .u8 0), (.int .u8 0), (.int .u8 0), (.int .u8 0), (.int .u8 0), (.int .u8 0), (.int .i64 0), (.str []), .nilsl] []⟩,
  ⟨none,none,.no,.store 36 (.t 2) (.t 13)⟩,
  ⟨some 3,none,.no,.mv (.v (.bool false))⟩]
def q1qc3 : ACode := .seq (.reg q1qr2) .ret
def q1qc4 : ACode := .cond (.t 12) q1qc3 .skip
def q1qc5 : ACode := .seq (.reg q1qr1) q1qc4
@[go_sem] def q1qr6 : List AIns := [
  ⟨some 14,none,.no,.mv (.t 0)⟩,
  ⟨some 15,none,.no,.nilc (.t 14)⟩,
  ⟨some 16,none,.no,.fa 34 (.t 15)⟩,
  ⟨some 17,none,.no,.load true 36 (.t 16)⟩,
  ⟨some 18,none,.no,.call (.v (.fn 32 [])) [(.t 17)]⟩,
  ⟨none,none,.no,.store 36 (.t 2) (.t 18)⟩,
  ⟨some 3,none,.no,.mv (.v (.bool true))⟩]
def q1qc7 : ACode := .seq (.reg q1qr6) .ret
def q1qc8 : ACode := .seq q1qc5 q1qc7
def q1qc9 : ACode := .seq (.reg q1qr0) q1qc8
theorem q1qok : cFn TC 8 = some (19, [.c 2 true 36, .t 3], q1qc9) := by kernel_rfl

@[go_sem] def q1rr0 : List AIns := [
  ⟨some 2,none,.no,.alloc [(.int .i64 0), (.int .i64 0), (.int .u8 0), (.int .u8 0), (.int .u8 0), (.int .u8 0), (.int .u8 0), (.int .u8 0), (.int .u8 0), (.int .u8 0), (.int .u8 0), (.int .u8 0), (.int .u8 0), (.int .u8 0), (.int .u8 0), (.int .u8 0), (.int .u8 0), (.int .u8 0), (.int .u8 0), (.int .u8 0), (.int .u8 0), (.int .u8 0), (.int .u8 0), (.int .u8 0), (.int .u8 0), (.int .u8 0), (.int .u8 0), (.int .u8 0), (.int .u8 0), (.int .u8 0), (.int .u8 0), (.int .u8 0), (.int .u8 0), (.int .u8 0), (.int .i64 0), (.str []), .nilsl, (.int .i64 0), (.int .u8 0), (.int .u8 0), (.int .u8 0), (.int .u8 0), (.int .u8 0), (.int .u8 0), (.int .u8 0), (.int .u8 0), (.int .u8 0), (.int .u8 0), (.int .u8 0), (.int .u8 0), (.int .u8 0), (.int .u8 0), (.int .u8 0), (.int .u8 0), (.int .u8 0), (.int .u8 0), (.int .u8 0), (.int .u8 0), (.int .u8 0), (.int .u8 0), (.int .u8 0), (.int .u8 0), (.int .u8 0), (.int .u8 0), (.int .u8 0), (.int .u8 0), (.int .u8 0), (.int .u8 0), (.int .u8 0), (.int .u8 0), (.int .i64 0), (.str []), .nilsl, (.int .u8 0), (.int .u8 0), (.int .u8 0), (.int .u8 0), (.int .u8 0), (.int .u8 0), (.int .u8 0), (.int .u8 0), (.int .u8 0), (.int .u8 0), (.int .u8 0), (.int .u8 0), (.int .u8 0), (.int .u8 0), (.int .u8 0), (.int .u8 0), (.int .u8 0), (.int .u8 0), (.int .u8 0), (.int .u8 0), (.int .u8 0), (.int .u8 0), (.int .u8 0), (.int .u8 0), (.int .u8 0), (.int .u8 0), (.int .u8 0), (.int .u8 0), (.int .u8 0), (.int .u8 0), (.int .u8 0), (.int .u8 0), .nilsl]⟩,
  ⟨some 3,none,.no,.mv (.v (.bool false))⟩]
@[go_sem] def q1rr1 : List AIns := [
  ⟨some 5,none,.no,.mv (.t 0)⟩,
  ⟨some 6,none,.no,.call (.v (.fn 31 [])) [(.t 5)]⟩,
  ⟨some 7,none,.no,.mv (.t 6)⟩,
  ⟨some 8, some (7, false), .no, .mv (.t 0)⟩,
  ⟨some 9, some (7, false), .no, .nilc (.t 8)⟩,
  ⟨some 10, some (7, false), .no, .fa 70 (.t 9)⟩,
  ⟨some 11, some (7, false), .no, .load false 1 (.t 10)⟩,
  ⟨some 12, some (7, false), .no, .bin .eql .ptr (.t 11) (.v .nilp)⟩,
  ⟨some 13,none,.no,.pick (.t 7) (.v (.bool true)) (.t 12)⟩]
@[go_sem] def q1rr2 : List AIns := [
  ⟨some 14,none,.no,.build [(.int .i64 0), (.int .i64 0), (.int .u8 0), (.int .u8 0), (.int .u8 0), (.int .u8 0), (.int .u8 0), (.int .u8 0), (.int .u8 0), (.int .u8 0), (.int .u8 0), (.int .u8 0), (.int .u8 0), (.int .u8 0), (.int .u8 0), (.int .u8 0), (.int .u8 0), (.int .u8 0), (.int .u8 0), (.int .u8 0), (.int .u8 0), (.int .u8 0), (.int .u8 0), (.int .u8 0), (.int .u8 0), (.int .u8 0), (.int .u8 0), (.int .u8 0), (.int .u8 0), (.int .u8 0), (.int .u8 0), (.int .u8 0), (.int .u8 0), (.int .u8 0), (.int .i64 0), (.str []), .nilsl, (.int .i64 0), (.int .u8 0), (.int .u8 0), (.int .u8 0), (.int .u8 0), (.int .u8 0), (.int .u8 0), (.int .u8 0), (.int .u8 0), (.int .u8 0), (.int .u8 0), (.int .u8 0), (.int .u8 0), (.int .u8 0), (.int .u8 0), (.int .u8 0), (.int .u8 0), (.int .u8 0), (.int .u8 0), (.int .u8 0), (.int .u8 0), (.int .u8 0), (.int .u8 0), (.int .u8 0), (.int .u8 0), (.int .u8 0), (.int .u8 0), (.int .u8 0), (.int .u8 0), (.int .u8 0), (.int .u8 0), (.int .u8 0), (.int .u8 0), (.int .i64 0), (.str []), .nilsl, (.int .u8 0), (.int .u8 0), (.int .u8 0), (.int .u8 0), (.int .u8 0), (.int .u8 0), (.int .u8 0), (.int .u8 0), (.int .u8 0), (.int .u8 0), (.int .u8 0), (.int .u8 0), (.int .u8 0), (.int .u8 0), (.int .u8 0), (.int .u8 0), (.int .u8 0), (.int .u8 0), (.int .u8 0), (.int .u8 0), (.int .u8 0), (.int .u8 0), (.int .u8 0), (.int .u8 0), (.int .u8 0), (.int .u8 0), (.int .u8 0), (.int .u8 0), (.int .u8 0), (.int .u8 0), (.int .u8 0), (.int .u8 0), .nilsl] []⟩,
  ⟨none,none,.no,.store 106 (.t 2) (.t 14)⟩,
  ⟨some 3,none,.no,.mv (.v (.bool false))⟩]
def q1rc3 : ACode := .seq (.reg q1rr2) .ret
def q1rc4 : ACode := .cond (.t 13) q1rc3 .skip
def q1rc5 : ACode := .seq (.reg q1rr1) q1rc4
@[go_sem] def q1rr6 : List AIns := [
  ⟨some 15,none,.no,.mv (.t 0)⟩,
  ⟨some 16,none,.no,.nilc (.t 15)⟩,
  ⟨some 17,none,.no,.fa 70 (.t 16)⟩,
  ⟨some 18,none,.no,.load false 1 (.t 17)⟩,
  ⟨some 19,none,.no,.nilc (.t 18)⟩,
  ⟨some 20,none,.no,.load true 106 (.t 19)⟩,
  ⟨some 4,none,.no,.alloc [(.int .i64 0), (.int .i64 0), (.int .u8 0), (.int .u8 0), (.int .u8 0), (.int .u8 0), (.int .u8 0), (.int .u8 0), (.int .u8 0), (.int .u8 0), (.int .u8 0), (.int .u8 0), (.int .u8 0), (.int .u8 0), (.int .u8 0), (.int .u8 0), (.int .u8 0), (.int .u8 0), (.int .u8 0), (.int .u8 0), (.int .u8 0), (.int .u8 0), (.int .u8 0), (.int .u8 0), (.int .u8 0), (.int .u8 0), (.int .u8 0), (.int .u8 0), (.int .u8 0), (.int .u8 0), (.int .u8 0), (.int .u8 0), (.int .u8 0), (.int .u8 0), (.int .i64 0), (.str []), .nilsl, (.int .i64 0), (.int .u8 0), (.int .u8 0), (.int .u8 0), (.int .u8 0), (.int .u8 0), (.int .u8 0), (.int .u8 0), (.int .u8 0), (.int .u8 0), (.int .u8 0), (.int .u8 0), (.int .u8 0), (.int .u8 0), (.int .u8 0), (.int .u8 0), (.int .u8 0), (.int .u8 0), (.int .u8 0), (.int .u8 0), (.int .u8 0), (.int .u8 0), (.int .u8 0), (.int .u8 0), (.int .u8 0), (.int .u8 0), (.int .u8 0), (.int .u8 0), (.int .u8 0), (.int .u8 0), (.int .u8 0), (.int .u8 0), (.int .u8 0), (.int .i64 0), (.str []), .nilsl, (.int .u8 0), (.int .u8 0), (.int .u8 0), (.int .u8 0), (.int .u8 0), (.int .u8 0), (.int .u8 0), (.int .u8 0), (.int .u8 0), (.int .u8 0), (.int .u8 0), (.int .u8 0), (.int .u8 0), (.int .u8 0), (.int .u8 0), (.int .u8 0), (.int .u8 0), (.int .u8 0), (.int .u8 0), (.int .u8 0), (.int .u8 0), (.int .u8 0), (.int .u8 0), (.int .u8 0), (.int .u8 0), (.int .u8 0), (.int .u8 0), (.int .u8 0), (.int .u8 0), (.int .u8 0), (.int .u8 0), (.int .u8 0), .nilsl]⟩,
  ⟨none,none,.no,.store 106 (.t 4) (.t 20)⟩]
@[go_sem] def q1rr7 : List AIns := [
  ⟨some 21,none,.no,.fa 1 (.t 4)⟩,
  ⟨some 22, none, .rd, .load true 36 (.t 21)⟩,
  ⟨some 23, none, .ef, .call (.v (.fn 32 [])) [(.t 22)]⟩,
  ⟨some 24,none,.no,.fa 37 (.t 4)⟩,
  ⟨some 25, none, .rd, .load true 36 (.t 24)⟩,
  ⟨some 26,none,.no,.call (.v (.fn 32 [])) [(.t 25)]⟩,
  ⟨some 27,none,.no,.fa 1 (.t 4)⟩,
  ⟨none,none,.no,.store 36 (.t 27) (.t 23)⟩,
  ⟨some 28,none,.no,.fa 37 (.t 4)⟩,
  ⟨none,none,.no,.store 36 (.t 28) (.t 26)⟩]
@[go_sem] def q1rr8 : List AIns := [
  ⟨some 29,none,.no,.load true 106 (.t 4)⟩,
  ⟨none,none,.no,.store 106 (.t 2) (.t 29)⟩,
  ⟨some 3,none,.no,.mv (.v (.bool true))⟩]
def q1rc9 : ACode := .seq (.reg q1rr8) .ret
def q1rc10 : ACode := .seq (.reg q1rr7) q1rc9
def q1rc11 : ACode := .seq (.reg q1rr6) q1rc10
def q1rc12 : ACode := .seq q1rc5 q1rc11
def q1rc13 : ACode := .seq (.reg q1rr0) q1rc12
theorem q1rok : cFn TC 9 = some (30, [.c 2 true 106, .t 3], q1rc13) := by kernel_rfl

@[go_sem] def q1sr0 : List AIns := [
  ⟨some 4,none,.no,.box (.t 1)⟩,
  ⟨some 6,none,.no,.mv (.v (.int .i64 0))⟩]
@[go_sem] def q1sr1 : List AIns := [
  ⟨some 9,none,.no,.mv (.t 0)⟩,
  ⟨some 10,none,.no,.call (.v (.fn 31 [])) [(.t 9)]⟩,
  ⟨some 11,none,.no,.mv (.t 10)⟩,
  ⟨some 12, some (11, false), .no, .mv (.t 0)⟩,
  ⟨some 13, some (11, false), .no, .nilc (.t 12)⟩,
  ⟨some 14, some (11, false), .no, .fa 1 (.t 13)⟩,
  ⟨some 15, some (11, false), .rd, .load true 32 (.t 14)⟩,
  ⟨some 16, some (11, false), .rd, .load true 36 (.t 4)⟩,
  ⟨some 17, some (11, false), .no, .call (.v (.fn 22 [])) [(.t 15), (.t 16)]⟩,
  ⟨some 18, some (11, false), .no, .bin .neq .none (.t 17) (.v (.int .i64 0))⟩,
  ⟨some 19,none,.no,.pick (.t 11) (.v (.bool true)) (.t 18)⟩]
@[go_sem] def q1sr2 : List AIns := [
  ⟨some 6,none,.no,.mv (.v (.int .i64 0))⟩]
def q1sc3 : ACode := .seq (.reg q1sr2) .ret
def q1sc4 : ACode := .cond (.t 19) q1sc3 .skip
def q1sc5 : ACode := .seq (.reg q1sr1) q1sc4
@[go_sem] def q1sr6 : List AIns := [
  ⟨some 20,none,.no,.mv (.t 0)⟩,
  ⟨some 21,none,.no,.nilc (.t 20)⟩,
  ⟨some 22,none,.no,.fa 33 (.t 21)⟩,
  ⟨some 23,none,.no,.load false 1 (.t 22)⟩,
  ⟨some 24,none,.no,.un .not (.t 23)⟩]
@[go_sem] def q1sr7 : List AIns := [
  ⟨some 25,none,.no,.mv (.t 0)⟩,
  ⟨some 26,none,.no,.mv (.t 0)⟩,
  ⟨some 27,none,.no,.load true 36 (.t 4)⟩,
  ⟨some 28,none,.no,.call (.v (.fn 32 [])) [(.t 27)]⟩,
  ⟨some 29,none,.no,.nilc (.t 25)⟩,
  ⟨some 30,none,.no,.fa 33 (.t 29)⟩,
  ⟨none,none,.no,.store 1 (.t 30) (.v (.bool true))⟩,
  ⟨some 31,none,.no,.nilc (.t 26)⟩,
  ⟨some 32,none,.no,.fa 34 (.t 31)⟩,
  ⟨none,none,.no,.store 36 (.t 32) (.t 28)⟩]
@[go_sem] def q1sr8 : List AIns := [
  ⟨some 6,none,.no,.mv (.v (.int .i64 1))⟩]
def q1sc9 : ACode := .seq (.reg q1sr8) .ret
def q1sc10 : ACode := .seq (.reg q1sr7) q1sc9
def q1sc11 : ACode := .cond (.t 24) q1sc10 .skip
def q1sc12 : ACode := .seq (.reg q1sr6) q1sc11
@[go_sem] def q1sr13 : List AIns := [
  ⟨some 33,none,.no,.fa 0 (.t 4)⟩,
  ⟨some 34, none, .rd, .load true 33 (.t 33)⟩,
  ⟨some 35,none,.no,.mv (.t 0)⟩,
  ⟨some 36,none,.no,.nilc (.t 35)⟩,
  ⟨some 37,none,.no,.fa 34 (.t 36)⟩,
  ⟨some 38,none,.no,.fa 0 (.t 37)⟩,
  ⟨some 39, none, .rd, .load true 33 (.t 38)⟩,
  ⟨some 7, none, .ef, .alloc ((.int .i64 0) :: zZ0)⟩,
  ⟨some 8, none, .ef, .alloc ((.int .i64 0) :: zZ0)⟩,
  ⟨none, none, .ef, .store 33 (.t 7) (.t 34)⟩,
  ⟨none,none,.no,.store 33 (.t 8) (.t 39)⟩]
@[go_sem] def q1sr14 : List AIns := [
  ⟨some 33,none,.no,.fa 0 (.t 4)⟩,
  ⟨some 34, none, .rd, .load true 33 (.t 33)⟩,
  ⟨some 35,none,.no,.mv (.t 0)⟩,
  ⟨some 36,none,.no,.nilc (.t 35)⟩,
  ⟨some 37,none,.no,.fa 34 (.t 36)⟩,
  ⟨some 38,none,.no,.fa 0 (.t 37)⟩,
  ⟨some 39, none, .rd, .load true 33 (.t 38)⟩,
  ⟨some 8, none, .ef, .alloc ((.int .i64 0) :: zZ0)⟩,
  ⟨some 7, none, .ef, .alloc ((.int .i64 0) :: zZ0)⟩,
  ⟨none, none, .ef, .store 33 (.t 7) (.t 34)⟩,
  ⟨none,none,.no,.store 33 (.t 8) (.t 39)⟩]
@[go_sem] def q1sr15 : List AIns := [
  ⟨some 40,none,.no,.load true 33 (.t 7)⟩,
  ⟨some 41,none,.no,.load true 33 (.t 8)⟩,
  ⟨some 42,none,.no,.call (.v (.fn 33 [])) [(.t 40), (.t 41)]⟩]
@[go_sem] def q1sr16 : List AIns := [
  ⟨some 44,none,.no,.bin .eql .none (.t 42) (.v (.int .i64 1))⟩,
  ⟨some 43,none,.no,.mv (.t 44)⟩]
@[go_sem] def q1sr17 : List AIns := [
  ⟨some 6,none,.no,.mv (.v (.int .i64 3))⟩]
def q1sc18 : ACode := .seq (.reg q1sr17) .ret
@[go_sem] def q1sr19 : List AIns := [
  ⟨some 46,none,.no,.bin .eql .none (.t 42) (.v (.int .i64 3))⟩,
  ⟨some 45,none,.no,.mv (.t 46)⟩]
@[go_sem] def q1sr20 : List AIns := [
  ⟨some 47,none,.no,.mv (.t 0)⟩,
  ⟨some 48,none,.no,.load true 36 (.t 4)⟩,
  ⟨some 49,none,.no,.call (.v (.fn 34 [])) [(.t 47), (.t 48)]⟩]
@[go_sem] def q1sr21 : List AIns := [
  ⟨some 6,none,.no,.mv (.v (.int .i64 6))⟩]
def q1sc22 : ACode := .seq (.reg q1sr21) .ret
def q1sc23 : ACode := .seq (.reg q1sr20) q1sc22
@[go_sem] def q1sr24 : List AIns := [
  ⟨some 51,none,.no,.bin .eql .none (.t 42) (.v (.int .i64 0))⟩,
  ⟨some 50,none,.no,.mv (.t 51)⟩]
@[go_sem] def q1sr25 : List AIns := [
  ⟨some 52,none,.no,.fa 0 (.t 7)⟩,
  ⟨some 53,none,.no,.load false 1 (.t 52)⟩,
  ⟨some 54,none,.no,.fa 0 (.t 8)⟩,
  ⟨some 55,none,.no,.load false 1 (.t 54)⟩,
  ⟨some 56,none,.no,.fa 1 (.t 7)⟩,
  ⟨some 57,none,.no,.load true 32 (.t 56)⟩,
  ⟨some 58,none,.no,.fa 1 (.t 8)⟩,
  ⟨some 59,none,.no,.load true 32 (.t 58)⟩,
  ⟨some 60,none,.no,.mv (.t 2)⟩,
  ⟨some 61,none,.no,.call (.v (.fn 35 [])) [(.t 53), (.t 55), (.t 57), (.t 59), (.t 60)]⟩,
  ⟨some 62,none,.no,.bin .eql .none (.t 61) (.v (.int .i64 0))⟩]
@[go_sem] def q1sr26 : List AIns := [
  ⟨some 6,none,.no,.mv (.v (.int .i64 4))⟩]
def q1sc27 : ACode := .seq (.reg q1sr26) .ret
def q1sc28 : ACode := .cond (.t 62) q1sc27 .skip
def q1sc29 : ACode := .seq (.reg q1sr25) q1sc28
@[go_sem] def q1sr30 : List AIns := [
  ⟨some 64,none,.no,.bin .eql .none (.t 42) (.v (.int .i64 2))⟩,
  ⟨some 63,none,.no,.mv (.t 64)⟩]
@[go_sem] def q1sr31 : List AIns := [
  ⟨some 65,none,.no,.fa 0 (.t 8)⟩,
  ⟨some 66,none,.no,.load false 1 (.t 65)⟩,
  ⟨some 67,none,.no,.fa 0 (.t 7)⟩,
  ⟨some 68,none,.no,.load false 1 (.t 67)⟩,
  ⟨some 69,none,.no,.fa 1 (.t 8)⟩,
  ⟨some 70,none,.no,.load true 32 (.t 69)⟩,
  ⟨some 71,none,.no,.fa 1 (.t 7)⟩,
  ⟨some 72,none,.no,.load true 32 (.t 71)⟩,
  ⟨some 73,none,.no,.mv (.t 2)⟩,
  ⟨some 74,none,.no,.call (.v (.fn 35 [])) [(.t 66), (.t 68), (.t 70), (.t 72), (.t 73)]⟩,
  ⟨some 75,none,.no,.bin .eql .none (.t 74) (.v (.int .i64 0))⟩]
@[go_sem] def q1sr32 : List AIns := [
  ⟨some 76,none,.no,.mv (.t 0)⟩,
  ⟨some 77,none,.no,.load true 36 (.t 4)⟩,
  ⟨some 78,none,.no,.call (.v (.fn 32 [])) [(.t 77)]⟩,
  ⟨some 79,none,.no,.nilc (.t 76)⟩,
  ⟨some 80,none,.no,.fa 34 (.t 79)⟩,
  ⟨none,none,.no,.store 36 (.t 80) (.t 78)⟩]
@[go_sem] def q1sr33 : List AIns := [
  ⟨some 6,none,.no,.mv (.v (.int .i64 2))⟩]
def q1sc34 : ACode := .seq (.reg q1sr33) .ret
def q1sc35 : ACode := .seq (.reg q1sr32) q1sc34
def q1sc36 : ACode := .cond (.t 75) q1sc35 .skip
def q1sc37 : ACode := .seq (.reg q1sr31) q1sc36
def q1sc38 : ACode := .cond (.t 63) q1sc37 .skip
def q1sc39 : ACode := .seq (.reg q1sr30) q1sc38
def q1sc40 : ACode := .cond (.t 50) q1sc29 q1sc39
def q1sc41 : ACode := .seq (.reg q1sr24) q1sc40
def q1sc42 : ACode := .cond (.t 45) q1sc23 q1sc41
def q1sc43 : ACode := .seq (.reg q1sr19) q1sc42
def q1sc44 : ACode := .cond (.t 43) q1sc18 q1sc43
def q1sc45 : ACode := .seq (.reg q1sr16) q1sc44
def q1sc46 : ACode := .block 0 q1sc45
def q1sc47 : ACode := .seq (.reg q1sr15) q1sc46
@[go_sem] def q1sr48 : List AIns := [
  ⟨some 6,none,.no,.mv (.v (.int .i64 5))⟩]
def q1sc49 : ACode := .seq (.reg q1sr48) .ret
def zc5 : ACode := .seq q1sc47 q1sc49
def q1sc51 : ACode := .seq (.reg2 q1sr13 q1sr14) zc5
def q1sc52 : ACode := .seq q1sc12 q1sc51
def q1sc53 : ACode := .seq q1sc5 q1sc52
def q1sc54 : ACode := .seq (.reg q1sr0) q1sc53
theorem q1sok : cFn TC 10 = some (81, [.t 6], q1sc54) := by kernel_rfl

@[go_sem] def q1tr0 : List AIns := [
  ⟨some 8,none,.no,.mv (.v (.int .i64 0))⟩]
@[go_sem] def q1tr1 : List AIns := [
  ⟨some 10,none,.no,.mv (.t 0)⟩,
  ⟨some 11,none,.no,.call (.v (.fn 31 [])) [(.t 10)]⟩,
  ⟨some 9,none,.no,.mv (.t 11)⟩]
@[go_sem] def q1tr2 : List AIns := [
  ⟨some 8,none,.no,.mv (.v (.int .i64 1))⟩]
def q1tc3 : ACode := .seq (.reg q1tr2) .ret
@[go_sem] def q1tr4 : List AIns := [
  ⟨some 13,none,.no,.mv (.t 0)⟩,
  ⟨some 14,none,.no,.nilc (.t 13)⟩,
  ⟨some 15,none,.no,.fa 33 (.t 14)⟩,
  ⟨some 16,none,.no,.load false 1 (.t 15)⟩,
  ⟨some 17,none,.no,.un .not (.t 16)⟩,
  ⟨some 12,none,.no,.mv (.t 17)⟩]
@[go_sem] def q1tr5 : List AIns := [
  ⟨some 8,none,.no,.mv (.v (.int .i64 4))⟩]
def q1tc6 : ACode := .seq (.reg q1tr5) .ret
@[go_sem] def q1tr7 : List AIns := [
  ⟨some 19,none,.no,.mv (.t 1)⟩,
  ⟨some 20,none,.no,.bin .lss .none (.t 19) (.v (.int .i64 0))⟩,
  ⟨some 21,none,.no,.mv (.t 20)⟩,
  ⟨some 22, some (21, false), .no, .mv (.t 1)⟩,
  ⟨some 23, some (21, false), .no, .mv (.t 0)⟩,
  ⟨some 24, some (21, false), .no, .nilc (.t 23)⟩,
  ⟨some 25, some (21, false), .no, .fa 34 (.t 24)⟩,
  ⟨some 26, some (21, false), .no, .fa 0 (.t 25)⟩,
  ⟨some 27, some (21, false), .no, .fa 0 (.t 26)⟩,
  ⟨some 28, some (21, false), .no, .load false 1 (.t 27)⟩,
  ⟨some 29, some (21, false), .no, .bin .geq .none (.t 22) (.t 28)⟩,
  ⟨some 30,none,.no,.pick (.t 21) (.v (.bool true)) (.t 29)⟩,
  ⟨some 18,none,.no,.mv (.t 30)⟩]
@[go_sem] def q1tr8 : List AIns := [
  ⟨some 8,none,.no,.mv (.v (.int .i64 82))⟩]
def q1tc9 : ACode := .seq (.reg q1tr8) .ret
@[go_sem] def q1tr10 : List AIns := [
  ⟨some 32,none,.no,.mv (.t 2)⟩,
  ⟨some 33,none,.no,.lenStr (.t 32)⟩,
  ⟨some 34,none,.no,.bin .gtr .none (.t 33) (.v (.int .i64 200))⟩,
  ⟨some 31,none,.no,.mv (.t 34)⟩]
@[go_sem] def q1tr11 : List AIns := [
  ⟨some 8,none,.no,.mv (.v (.int .i64 3))⟩]
def q1tc12 : ACode := .seq (.reg q1tr11) .ret
def q1tc13 : ACode := .cond (.t 31) q1tc12 .skip
def q1tc14 : ACode := .seq (.reg q1tr10) q1tc13
def q1tc15 : ACode := .cond (.t 18) q1tc9 q1tc14
def q1tc16 : ACode := .seq (.reg q1tr7) q1tc15
def q1tc17 : ACode := .cond (.t 12) q1tc6 q1tc16
def q1tc18 : ACode := .seq (.reg q1tr4) q1tc17
def q1tc19 : ACode := .cond (.t 9) q1tc3 q1tc18
def q1tc20 : ACode := .seq (.reg q1tr1) q1tc19
@[go_sem] def q1tr21 : List AIns := [
  ⟨some 35,none,.no,.mv (.t 2)⟩,
  ⟨some 36, none, .ef, .call (.v (.fn 23 [])) [(.t 35)]⟩,
  ⟨some 37,none,.no,.mv (.t 1)⟩,
  ⟨some 38,none,.no,.mv (.t 0)⟩,
  ⟨some 39,none,.no,.nilc (.t 38)⟩,
  ⟨some 40,none,.no,.fa 34 (.t 39)⟩,
  ⟨some 41,none,.no,.fa 0 (.t 40)⟩,
  ⟨some 42,none,.no,.fa 0 (.t 41)⟩,
  ⟨some 43, none, .rd, .load false 1 (.t 42)⟩,
  ⟨some 44,none,.no,.mv (.t 3)⟩,
  ⟨some 45,none,.no,.mv (.t 0)⟩,
  ⟨some 46,none,.no,.nilc (.t 45)⟩,
  ⟨some 47,none,.no,.fa 34 (.t 46)⟩,
  ⟨some 48,none,.no,.fa 0 (.t 47)⟩,
  ⟨some 49,none,.no,.fa 1 (.t 48)⟩,
  ⟨some 50, none, .rd, .load true 32 (.t 49)⟩,
  ⟨some 51,none,.no,.call (.v (.fn 36 [])) [(.t 36), (.t 37), (.t 43), (.t 44), (.t 50)]⟩,
  ⟨some 8,none,.no,.mv (.t 51)⟩]
def q1tc22 : ACode := .seq (.reg q1tr21) .ret
def q1tc23 : ACode := .seq (.block 0 q1tc20) q1tc22
def q1tc24 : ACode := .seq (.reg q1tr0) q1tc23
theorem q1tok : cFn TC 11 = some (52, [.t 8], q1tc24) := by kernel_rfl

@[go_sem] def q1ur0 : List AIns := [
  ⟨some 2,none,.no,.alloc [.nilp, .nilsl]⟩]
@[go_sem] def q1ur1 : List AIns := [
  ⟨some 3,none,.no,.call (.v (.fn 43 [])) [(.v (.str [108, 111, 103]))]⟩,
  ⟨some 4,none,.no,.mv (.t 0)⟩,
  ⟨some 5,none,.no,.build [.nilp, .nilsl] [(0, 1, (.t 3)), (1, 1, (.t 4))]⟩,
  ⟨none,none,.no,.store 2 (.t 2) (.t 5)⟩]
def q1uc2 : ACode := .seq (.reg q1ur1) .ret
def q1uc3 : ACode := .seq (.reg q1ur0) q1uc2
theorem q1uok : cFn TC 25 = some (6, [.c 2 true 2], q1uc3) := by kernel_rfl

@[go_sem] def q1vr0 : List AIns := [
  ⟨some 1,none,.no,.box (.t 0)⟩,
  ⟨some 2,none,.no,.mv (.v .nilp)⟩]
@[go_sem] def q1vr1 : List AIns := [
  ⟨some 3,none,.no,.load true 32 (.t 1)⟩,
  ⟨some 4,none,.no,.build [(.bool false), (.int .u8 0), (.int .u8 0), (.int .u8 0), (.int .u8 0), (.int .u8 0), (.int .u8 0), (.int .u8 0), (.int .u8 0), (.int .u8 0), (.int .u8 0), (.int .u8 0), (.int .u8 0), (.int .u8 0), (.int .u8 0), (.int .u8 0), (.int .u8 0), (.int .u8 0), (.int .u8 0), (.int .u8 0), (.int .u8 0), (.int .u8 0), (.int .u8 0), (.int .u8 0), (.int .u8 0), (.int .u8 0), (.int .u8 0), (.int .u8 0), (.int .u8 0), (.int .u8 0), (.int .u8 0), (.int .u8 0), (.int .u8 0), (.bool false), (.int .i64 0), (.int .u8 0), (.int .u8 0), (.int .u8 0), (.int .u8 0), (.int .u8 0), (.int .u8 0), (.int .u8 0), (.int .u8 0), (.int .u8 0), (.int .u8 0), (.int .u8 0), (.int .u8 0), (.int .u8 0), (.int .u8 0), (.int .u8 0), (.int .u8 0), (.int .u8 0), (.int .u8 0), (.int .u8 0), (.int .u8 0), (.int .u8 0), (.int .u8 0), (.int .u8 0), (.int .u8 0), (.int .u8 0), (.int .u8 0), (.int .u8 0), (.int .u8 0), (.int .u8 0), (.int .u8 0), (.int .u8 0), (.int .u8 0), (.int .i64 0), (.str []), .nilsl, .nilp] [(0, 1, (.v (.bool true))), (1, 32, (.t 3))]⟩,
  ⟨some 5,none,.no,.box (.t 4)⟩,
  ⟨some 2,none,.no,.mv (.t 5)⟩]
def q1vc2 : ACode := .seq (.reg q1vr1) .ret
def q1vc3 : ACode := .seq (.reg q1vr0) q1vc2
theorem q1vok : cFn TC 27 = some (6, [.t 2], q1vc3) := by kernel_rfl

@[go_sem] def q1wr0 : List AIns := [
  ⟨some 3,none,.no,.box (.t 0)⟩,
  ⟨some 6,none,.no,.alloc [(.int .i64 0), (.int .u8 0), (.int .u8 0), (.int .u8 0), (.int .u8 0), (.int .u8 0), (.int .u8 0), (.int .u8 0), (.int .u8 0), (.int .u8 0), (.int .u8 0), (.int .u8 0), (.int .u8 0), (.int .u8 0), (.int .u8 0), (.int .u8 0), (.int .u8 0), (.int .u8 0), (.int .u8 0), (.int .u8 0), (.int .u8 0), (.int .u8 0), (.int .u8 0), (.int .u8 0), (.int .u8 0), (.int .u8 0), (.int .u8 0), (.int .u8 0), (.int .u8 0), (.int .u8 0), (.int .u8 0), (.int .u8 0), (.int .u8 0), (.int .i64 0), (.str []), .nilsl]⟩]
@[go_sem] def q1wr1 : List AIns := [
  ⟨some 10,none,.no,.mv (.t 1)⟩,
  ⟨some 11,none,.no,.fa 1 (.t 3)⟩,
  ⟨some 12,none,.no,.load false 1 (.t 11)⟩,
  ⟨some 13,none,.no,.mv (.t 1)⟩,
  ⟨some 14,none,.no,.slice (.sl 1) (.t 12) none (some (.t 13)) none⟩,
  ⟨some 15,none,.no,.call (.v (.fn 52 [])) [(.t 14)]⟩,
  ⟨some 16,none,.no,.call (.v (.fn 51 [])) [(.t 15)]⟩,
  ⟨some 17,none,.no,.build ((.int .i64 0) :: zZ0) [(0, 1, (.t 10)), (1, 32, (.t 16))]⟩,
  ⟨some 7,none,.no,.alloc ((.int .i64 0) :: zZ0)⟩,
  ⟨none,none,.no,.store 33 (.t 7) (.t 17)⟩]
@[go_sem] def q1wr2 : List AIns := [
  ⟨some 19,none,.no,.fa 0 (.t 3)⟩,
  ⟨some 20, none, .rd, .load false 1 (.t 19)⟩,
  ⟨some 21,none,.no,.mv (.t 2)⟩,
  ⟨some 22,none,.no,.bin .and .none (.t 21) (.v (.int .i64 7))⟩,
  ⟨some 23, none, .rd, .load true 33 (.t 7)⟩,
  ⟨some 24, none, .pu, .call (.v (.fn 53 [])) [(.t 23)]⟩,
  ⟨some 25, none, .pu, .call (.v (.fn 39 [])) [(.t 20), (.t 22), (.t 24)]⟩,
  ⟨some 18,none,.no,.mv (.t 25)⟩,
  ⟨some 26,none,.no,.ext 0 (.t 18)⟩,
  ⟨some 27,none,.no,.ext 1 (.t 18)⟩,
  ⟨some 8, none, .ef, .alloc [(.int .i64 0), (.str []), .nilsl]⟩,
  ⟨none,none,.no,.store 3 (.t 8) (.t 26)⟩,
  ⟨some 9,none,.no,.mv (.t 27)⟩]
@[go_sem] def q1wr3 : List AIns := [
  ⟨some 28,none,.no,.load true 33 (.t 7)⟩,
  ⟨some 29,none,.no,.load true 3 (.t 8)⟩,
  ⟨some 30,none,.no,.build [(.int .i64 0), (.int .u8 0), (.int .u8 0), (.int .u8 0), (.int .u8 0), (.int .u8 0), (.int .u8 0), (.int .u8 0), (.int .u8 0), (.int .u8 0), (.int .u8 0), (.int .u8 0), (.int .u8 0), (.int .u8 0), (.int .u8 0), (.int .u8 0), (.int .u8 0), (.int .u8 0), (.int .u8 0), (.int .u8 0), (.int .u8 0), (.int .u8 0), (.int .u8 0), (.int .u8 0), (.int .u8 0), (.int .u8 0), (.int .u8 0), (.int .u8 0), (.int .u8 0), (.int .u8 0), (.int .u8 0), (.int .u8 0), (.int .u8 0), (.int .i64 0), (.str []), .nilsl] [(0, 33, (.t 28)), (33, 3, (.t 29))]⟩,
  ⟨none,none,.no,.store 36 (.t 6) (.t 30)⟩]
def q1wc4 : ACode := .seq (.reg q1wr3) .ret
def q1wc5 : ACode := .seq (.reg q1wr2) q1wc4
def q1wc6 : ACode := .seq (.reg q1wr1) q1wc5
def q1wc7 : ACode := .seq (.reg q1wr0) q1wc6
theorem q1wok : cFn TC 29 = some (31, [.c 6 true 36], q1wc7) := by kernel_rfl

@[go_sem] def q1xr0 : List AIns := [
  ⟨some 2,none,.no,.mv (.v (.bool false))⟩]
@[go_sem] def q1xr1 : List AIns := [
  ⟨some 3,none,.no,.mv (.t 0)⟩,
  ⟨some 4,none,.no,.bin .eql .ptr (.t 3) (.v .nilp)⟩,
  ⟨some 5,none,.no,.mv (.t 4)⟩,
  ⟨some 6, some (5, false), .no, .mv (.t 0)⟩,
  ⟨some 7, some (5, false), .no, .nilc (.t 6)⟩,
  ⟨some 8, some (5, false), .no, .fa 0 (.t 7)⟩,
  ⟨some 9, some (5, false), .no, .load false 1 (.t 8)⟩,
  ⟨some 10, some (5, false), .no, .un .not (.t 9)⟩,
  ⟨some 11,none,.no,.pick (.t 5) (.v (.bool true)) (.t 10)⟩,
  ⟨some 2,none,.no,.mv (.t 11)⟩]
def q1xc2 : ACode := .seq (.reg q1xr1) .ret
def q1xc3 : ACode := .seq (.reg q1xr0) q1xc2
theorem q1xok : cFn TC 31 = some (12, [.t 2], q1xc3) := by kernel_rfl

@[go_sem] def q1yr0 : List AIns := [
  ⟨some 1,none,.no,.box (.t 0)⟩,
  ⟨some 2,none,.no,.alloc [(.int .i64 0), (.int .u8 0), (.int .u8 0), (.int .u8 0), (.int .u8 0), (.int .u8 0), (.int .u8 0), (.int .u8 0), (.int .u8 0), (.int .u8 0), (.int .u8 0), (.int .u8 0), (.int .u8 0), (.int .u8 0), (.int .u8 0), (.int .u8 0), (.int .u8 0), (.int .u8 0), (.int .u8 0), (.int .u8 0), (.int .u8 0), (.int .u8 0), (.int .u8 0), (.int .u8 0), (.int .u8 0), (.int .u8 0), (.int .u8 0), (.int .u8 0), (.int .u8 0), (.int .u8 0), (.int .u8 0), (.int .u8 0), (.int .u8 0), (.int .i64 0), (.str []), .nilsl]⟩]
@[go_sem] def q1yr1 : List AIns := [
  ⟨some 3,none,.no,.fa 33 (.t 1)⟩,
  ⟨some 4,none,.no,.fa 2 (.t 3)⟩,
  ⟨some 5,none,.no,.load false 1 (.t 4)⟩,
  ⟨some 6,none,.no,.call (.v (.fn 55 [])) [(.t 5)]⟩,
  ⟨some 7,none,.no,.fa 33 (.t 1)⟩,
  ⟨some 8,none,.no,.fa 2 (.t 7)⟩,
  ⟨none,none,.no,.store 1 (.t 8) (.t 6)⟩]
@[go_sem] def q1yr2 : List AIns := [
  ⟨some 9,none,.no,.load true 36 (.t 1)⟩,
  ⟨none,none,.no,.store 36 (.t 2) (.t 9)⟩]
def q1yc3 : ACode := .seq (.reg q1yr2) .ret
def q1yc4 : ACode := .seq (.reg q1yr1) q1yc3
def q1yc5 : ACode := .seq (.reg q1yr0) q1yc4
theorem q1yok : cFn TC 32 = some (10, [.c 2 true 36], q1yc5) := by kernel_rfl

@[go_sem] def q1zr0 : List AIns := [
  ⟨some 3,none,.no,.box (.t 1)⟩]
@[go_sem] def q1zr1 : List AIns := [
  ⟨some 4,none,.no,.mv (.t 0)⟩,
  ⟨some 5,none,.no,.nilc (.t 4)⟩,
  ⟨some 6,none,.no,.fa 70 (.t 5)⟩,
  ⟨some 7,none,.no,.load false 1 (.t 6)⟩,
  ⟨some 8,none,.no,.bin .eql .ptr (.t 7) (.v .nilp)⟩]
@[go_sem] def q1zr2 : List AIns := [
  ⟨some 9,none,.no,.mv (.t 0)⟩,
  ⟨some 10,none,.no,.mv (.t 0)⟩,
  ⟨some 11,none,.no,.nilc (.t 10)⟩,
  ⟨some 12,none,.no,.fa 34 (.t 11)⟩,
  ⟨some 13, none, .rd, .load true 36 (.t 12)⟩,
  ⟨some 14, none, .rd, .load true 36 (.t 3)⟩,
  ⟨some 15, none, .ef, .call (.v (.fn 32 [])) [(.t 14)]⟩,
  ⟨some 16,none,.no,.build [(.int .i64 0), (.int .i64 0), (.int .u8 0), (.int .u8 0), (.int .u8 0), (.int .u8 0), (.int .u8 0), (.int .u8 0), (.int .u8 0), (.int .u8 0), (.int .u8 0), (.int .u8 0), (.int .u8 0), (.int .u8 0), (.int .u8 0), (.int .u8 0), (.int .u8 0), (.int .u8 0), (.int .u8 0), (.int .u8 0), (.int .u8 0), (.int .u8 0), (.int .u8 0), (.int .u8 0), (.int .u8 0), (.int .u8 0), (.int .u8 0), (.int .u8 0), (.int .u8 0), (.int .u8 0), (.int .u8 0), (.int .u8 0), (.int .u8 0), (.int .u8 0), (.int .i64 0), (.str []), .nilsl, (.int .i64 0), (.int .u8 0), (.int .u8 0), (.int .u8 0), (.int .u8 0), (.int .u8 0), (.int .u8 0), (.int .u8 0), (.int .u8 0), (.int .u8 0), (.int .u8 0), (.int .u8 0), (.int .u8 0), (.int .u8 0), (.int .u8 0), (.int .u8 0), (.int .u8 0), (.int .u8 0), (.int .u8 0), (.int .u8 0), (.int .u8 0), (.int .u8 0), (.int .u8 0), (.int .u8 0), (.int .u8 0), (.int .u8 0), (.int .u8 0), (.int .u8 0), (.int .u8 0), (.int .u8 0), (.int .u8 0), (.int .u8 0), (.int .u8 0), (.int .i64 0), (.str []), .nilsl, (.int .u8 0), (.int .u8 0), (.int .u8 0), (.int .u8 0), (.int .u8 0), (.int .u8 0), (.int .u8 0), (.int .u8 0), (.int .u8 0), (.int .u8 0), (.int .u8 0), (.int .u8 0), (.int .u8 0), (.int .u8 0), (.int .u8 0), (.int .u8 0), (.int .u8 0), (.int .u8 0), (.int .u8 0), (.int .u8 0), (.int .u8 0), (.int .u8 0), (.int .u8 0), (.int .u8 0), (.int .u8 0), (.int .u8 0), (.int .u8 0), (.int .u8 0), (.int .u8 0), (.int .u8 0), (.int .u8 0), (.int .u8 0), .nilsl] [(0, 1, (.v (.int .i64 1))), (1, 36, (.t 13)), (37, 36, (.t 15))]⟩,
  ⟨some 17,none,.no,.box (.t 16)⟩,
  ⟨some 18,none,.no,.nilc (.t 9)⟩,
  ⟨some 19,none,.no,.fa 70 (.t 18)⟩,
  ⟨none,none,.no,.store 1 (.t 19) (.t 17)⟩]
def q1zc3 : ACode := .cond (.t 8) (.reg q1zr2) .skip
def q1zc4 : ACode := .seq (.reg q1zr1) q1zc3
def q1zc5 : ACode := .seq (.reg q1zr0) q1zc4
theorem q1zok : cFn TC 34 = some (20, [], q1zc5) := by kernel_rfl

@[go_sem] def q20r0 : List AIns := [
  ⟨some 2,none,.no,.mv (.v .nilsl)⟩]
@[go_sem] def q20r1 : List AIns := [
  ⟨some 3,none,.no,.mv (.v .nilsl)⟩]
@[go_sem] def q20r2 : List AIns := [
  ⟨some 4,none,.no,.mv (.v (.int .i64 0))⟩]
@[go_sem] def q20r3 : List AIns := [
  ⟨some 5,none,.no,.mv (.t 4)⟩,
  ⟨some 6,none,.no,.mv (.t 0)⟩,
  ⟨some 7,none,.no,.lenSl (.t 6)⟩,
  ⟨some 8,none,.no,.bin .lss .none (.t 5) (.t 7)⟩]
def q20c4 : ACode := .cond (.t 8) .skip (.exit 0)
def q20c5 : ACode := .seq (.reg q20r3) q20c4
@[go_sem] def q20r6 : List AIns := [
  ⟨some 11,none,.no,.mv (.t 3)⟩,
  ⟨some 12,none,.no,.mv (.t 0)⟩,
  ⟨some 13,none,.no,.mv (.t 4)⟩,
  ⟨some 14,none,.no,.iaSl 1 (.t 12) (.t 13)⟩,
  ⟨some 15,none,.no,.load false 1 (.t 14)⟩,
  ⟨some 16,none,.no,.call (.v (.fn 72 [])) [(.t 15)]⟩,
  ⟨some 17,none,.no,.lit 32 [(.t 16)]⟩,
  ⟨some 18,none,.no,.app 32 (.t 11) (.t 17)⟩,
  ⟨some 3,none,.no,.mv (.t 18)⟩]
@[go_sem] def q20r7 : List AIns := [
  ⟨some 9,none,.no,.mv (.t 4)⟩,
  ⟨some 10,none,.no,.bin .add .none (.t 9) (.v (.int .i64 1))⟩,
  ⟨some 4,none,.no,.mv (.t 10)⟩]
def q20c8 : ACode := .seq (.block 1 (.reg q20r6)) (.reg q20r7)
def q20c9 : ACode := .seq q20c5 q20c8
def q20c10 : ACode := .loop q20c9
def q20c11 : ACode := .block 0 q20c10
def q20c12 : ACode := .seq (.reg q20r2) q20c11
@[go_sem] def q20r13 : List AIns := [
  ⟨some 19,none,.no,.mv (.t 3)⟩,
  ⟨some 2,none,.no,.mv (.t 19)⟩]
def q20c14 : ACode := .seq (.reg q20r13) .ret
def q20c15 : ACode := .seq q20c12 q20c14
def q20c16 : ACode := .seq (.reg q20r1) q20c15
def q20c17 : ACode := .seq (.reg q20r0) q20c16
theorem q20ok : cFn TC 52 = some (20, [.t 2], q20c17) := by kernel_rfl
end Am
end Go.Proofs.YtjgljhbmljgaeaaDoor
end
section
/- Publishers: contracts: one that is none. -/
namespace Go.Proofs.YtjgljhbmljgaeaaDoor
namespace Am
/-- The cells of a publisher that was not made. -/
def pbC0 : List AV := [.nilp, .nilsl, .nilsl, .int .i64 0, .nilsl, .nilsl]
def PubN (Y : Store) (p : AV) : Prop := p = .nilp \/ ∃ r, p = .ptr r 0 0 /\ Y[r]? = some (some [pbC0])
theorem PubN.more {Y : Store} {p : AV} (h : PubN Y p) (y : Store) : PubN (Y ++ y) p := by
  rcases h with h | ⟨r, h, hg⟩
  · exact .inl h
  · exact .inr ⟨r, h, by rw [gapp (slen hg)]; exact hg⟩
/-- A signed head of nothing. -/
def sgZ : List AV := .int .i64 0 :: (hc zeroH ++ [.int .i64 0, .str [], .nilsl])
attribute [local irreducible] ACallsTo ACallsP pubH
end Am
end Go.Proofs.YtjgljhbmljgaeaaDoor
end
section
/- Publishers: contracts: what is served of none; the law PublishNone, but for its example. -/
namespace Go.Proofs.YtjgljhbmljgaeaaDoor
namespace Am
attribute [local irreducible] ACallsTo ACallsP pubH
end Am
end Go.Proofs.YtjgljhbmljgaeaaDoor
end
section
/- Auditors: contracts: one that is none. -/
namespace Go.Proofs.YtjgljhbmljgaeaaDoor
namespace Am
/-- The cells of an auditor that was not made. -/
def adC0 : List AV := .bool false :: (hc zeroH ++ (.bool false :: (sgZ ++ [.nilp])))
def AudN (Y : Store) (p : AV) : Prop := p = .nilp \/ ∃ r, p = .ptr r 0 0 /\ Y[r]? = some (some [adC0])
theorem AudN.more {Y : Store} {p : AV} (h : AudN Y p) (y : Store) : AudN (Y ++ y) p := by
  rcases h with h | ⟨r, h, hg⟩
  · exact .inl h
  · exact .inr ⟨r, h, by rw [gapp (slen hg)]; exact hg⟩
/-- No evidence. -/
def evZ : List AV := [.int .i64 0, .int .i64 0, .int .u8 0, .int .u8 0, .int .u8 0, .int .u8 0, .int .u8 0, .int .u8 0, .int .u8 0, .int .u8 0, .int .u8 0, .int .u8 0, .int .u8 0, .int .u8 0, .int .u8 0, .int .u8 0, .int .u8 0, .int .u8 0, .int .u8 0, .int .u8 0, .int .u8 0, .int .u8 0, .int .u8 0, .int .u8 0, .int .u8 0, .int .u8 0, .int .u8 0, .int .u8 0, .int .u8 0, .int .u8 0, .int .u8 0, .int .u8 0, .int .u8 0, .int .u8 0, .int .i64 0, .str [], .nilsl, .int .i64 0, .int .u8 0, .int .u8 0, .int .u8 0, .int .u8 0, .int .u8 0, .int .u8 0, .int .u8 0, .int .u8 0, .int .u8 0, .int .u8 0, .int .u8 0, .int .u8 0, .int .u8 0, .int .u8 0, .int .u8 0, .int .u8 0, .int .u8 0, .int .u8 0, .int .u8 0, .int .u8 0, .int .u8 0, .int .u8 0, .int .u8 0, .int .u8 0, .int .u8 0, .int .u8 0, .int .u8 0, .int .u8 0, .int .u8 0, .int .u8 0, .int .u8 0, .int .u8 0, .int .i64 0, .str [], .nilsl, .int .u8 0, .int .u8 0, .int .u8 0, .int .u8 0, .int .u8 0, .int .u8 0, .int .u8 0, .int .u8 0, .int .u8 0, .int .u8 0, .int .u8 0, .int .u8 0, .int .u8 0, .int .u8 0, .int .u8 0, .int .u8 0, .int .u8 0, .int .u8 0, .int .u8 0, .int .u8 0, .int .u8 0, .int .u8 0, .int .u8 0, .int .u8 0, .int .u8 0, .int .u8 0, .int .u8 0, .int .u8 0, .int .u8 0, .int .u8 0, .int .u8 0, .int .u8 0, .nilsl]
attribute [local irreducible] ACallsTo ACallsP pubH
theorem z7w (Y : Store) (p : AV) (h : AudN Y p) : ACallsTo TC 31 [p] Y (.bool true) Y := by
  refine ACallsTo.of_body q1xok (by simp) fun hw _ => ?_
  rcases h with rfl | ⟨r, rfl, hg⟩
  · repeat' (first|refine zW.zs ?_|refine zW.zb ?_|refine zW.zc ?_|refine zW.zt rfl ?_|refine zW.zf rfl ?_|(refine zW.zd rfl (fun ht => ?_) (fun ht => ?_)<;>try (exfalso;omega))|((first|refine zW.zr ?_|refine zW.zk ?_|refine zW.ze ?_|refine zW.zq ?_|((first|apply zg0|apply zg1|apply zg2|apply zg3|apply zg4|apply zg5|apply zg6|apply zg7)<;>intro ht));all_goals try simp (disch:=first|omega|(simp only [lens,z6,z7,List.length_reverse,List.length_map,List.length_take,List.length_drop];first|done|omega)) only [go_sem,reduceEqDiff,Nat.reduceBEq,reduceAdd,reduceMul,reduceSub,reduceLeDiff,reduceToNat,reducePow]))
    exact DownV.same hw z2s
  · have d := slen hg
    have h0 : adC0[0]? = some (.bool false) := rfl
    repeat' (first|refine zW.zs ?_|refine zW.zb ?_|refine zW.zc ?_|refine zW.zt rfl ?_|refine zW.zf rfl ?_|(refine zW.zd rfl (fun ht => ?_) (fun ht => ?_)<;>try (exfalso;omega))|((first|refine zW.zr ?_|refine zW.zk ?_|refine zW.ze ?_|refine zW.zq ?_|((first|apply zg0|apply zg1|apply zg2|apply zg3|apply zg4|apply zg5|apply zg6|apply zg7)<;>intro ht));all_goals try simp (disch:=first|omega|(simp only [lens,z6,z7,List.length_reverse,List.length_map,List.length_take,List.length_drop];first|done|omega)) only [go_sem,reduceEqDiff,Nat.reduceBEq,reduceAdd,reduceMul,reduceSub,reduceLeDiff,reduceToNat,reducePow, hg, h0]))
    exact DownV.same hw z2s
theorem zje (Y : Store) (p : AV) (h : AudN Y p) : ACallsTo TC 8 [p] Y (.tup [.agg sgZ, .bool false]) Y := by
  have hN := fun y => z7w (Y ++ y) p (h.more y)
  refine ACallsTo.of_body q1qok (by simp) fun hw _ => ?_
  repeat' (first|refine zW.zs ?_|refine zW.zb ?_|refine zW.zc ?_|refine zW.zt rfl ?_|refine zW.zf rfl ?_|(refine zW.zd rfl (fun ht => ?_) (fun ht => ?_)<;>try (exfalso;omega))|((first|refine zW.zr ?_|refine zW.zk ?_|refine zW.ze ?_|refine zW.zq ?_|(apply callW.mk_pu; (first | exact (fun _ => hN _))) | (apply callW.za; (first | exact (hN _))) | ((first|apply zg0|apply zg1|apply zg2|apply zg3|apply zg4|apply zg5|apply zg6|apply zg7)<;>intro ht));all_goals try simp (disch:=first|omega|(simp only [lens,z6,z7,List.length_reverse,List.length_map,List.length_take,List.length_drop];first|done|omega)) only [go_sem,reduceEqDiff,Nat.reduceBEq,reduceAdd,reduceMul,reduceSub,reduceLeDiff,reduceToNat,reducePow]))
  exact Ext.pure hw (Ext.refl Y).app (zz _ rfl)
set_option maxHeartbeats 4000000 in
theorem zj8 (Y : Store) (p : AV) (h : AudN Y p) : ACallsTo TC 9 [p] Y (.tup [.agg evZ, .bool false]) Y := by
  have hN := fun y => z7w (Y ++ y) p (h.more y)
  refine ACallsTo.of_body q1rok (by simp) fun hw _ => ?_
  repeat' (first|refine zW.zs ?_|refine zW.zb ?_|refine zW.zc ?_|refine zW.zt rfl ?_|refine zW.zf rfl ?_|(refine zW.zd rfl (fun ht => ?_) (fun ht => ?_)<;>try (exfalso;omega))|((first|refine zW.zr ?_|refine zW.zk ?_|refine zW.ze ?_|refine zW.zq ?_|(apply callW.mk_pu; (first | exact (fun _ => hN _))) | (apply callW.za; (first | exact (hN _))) | ((first|apply zg0|apply zg1|apply zg2|apply zg3|apply zg4|apply zg5|apply zg6|apply zg7)<;>intro ht));all_goals try simp (disch:=first|omega|(simp only [lens,z6,z7,List.length_reverse,List.length_map,List.length_take,List.length_drop];first|done|omega)) only [go_sem,reduceEqDiff,Nat.reduceBEq,reduceAdd,reduceMul,reduceSub,reduceLeDiff,reduceToNat,reducePow]))
  exact Ext.pure hw (Ext.refl Y).app (zz _ rfl)
end Am
end Go.Proofs.YtjgljhbmljgaeaaDoor
end
