import Derived.Test.YtjgljhbmljgaeaaGreatDoorK563e2831a
import Derived.Test.YtjgljhbmljgaeaaGreatDoorK2f3b62dca
import Derived.Test.YtjgljhbmljgaeaaGreatDoorK31ffe1d10
import Derived.Test.YtjgljhbmljgaeaaGreatDoorRows
import Derived.Test.YtjgljhbmljgaeaaGreatDoorCards
import Derived.Test.YtjgljhbmljgaeaaGreatDoorTie
import Derived.ProofKit
import Derived.LaidMore
import Derived.OpenShut
import Derived.Stop.Joined
import Derived.SevenTiedAt
import Derived.MakeChecks
set_option linter.unusedSimpArgs false
set_option linter.unusedVariables false
open Nat (reduceEqDiff reduceAdd reduceMul reduceSub reduceLeDiff)
open Int (reduceToNat reducePow)
open Nat renaming reduceEqDiff -> nQ1, reduceBEq -> nQ2, reduceAdd -> nQ3, reduceMul -> nQ4, reduceSub -> nQ5, reduceLeDiff -> nQ6
open Int renaming reduceToNat -> nQ7, reducePow -> nQ8
open List renaming length_reverse -> lQr, length_map -> lQm, length_take -> lQt, length_drop -> lQd, length_set -> lQs
namespace Go.Proofs.YtjgljhbmljgaeaaGreatDoor
namespace Am
section
set_option maxRecDepth 10000
@[go_sem] def q1yr0 : List AIns := [
 ⟨some 0,none,.no,.mv (.v (.bool false))⟩]
@[go_sem] def q1yr1 : List AIns := [
 ⟨some 11,none,.no,.call (.v (.fn 23 [])) [(.v (.str [115, 101, 101, 100]))]⟩,
 ⟨some 1,none,.no,.mv (.t 11)⟩]
@[go_sem] def q1yr2 : List AIns := [
 ⟨some 13,none,.no,.mv (.t 1)⟩,
 ⟨some 14,none,.no,.call (.v (.fn 29 [])) [(.t 13)]⟩,
 ⟨some 12,none,.no,.mv (.t 14)⟩,
 ⟨some 15,none,.no,.ext 0 (.t 12)⟩,
 ⟨some 16,none,.no,.ext 1 (.t 12)⟩,
 ⟨some 2,none,.no,.alloc [(.int .i64 0), (.int .u8 0), (.int .u8 0), (.int .u8 0), (.int .u8 0), (.int .u8 0), (.int .u8 0), (.int .u8 0), (.int .u8 0), (.int .u8 0), (.int .u8 0), (.int .u8 0), (.int .u8 0), (.int .u8 0), (.int .u8 0), (.int .u8 0), (.int .u8 0), (.int .u8 0), (.int .u8 0), (.int .u8 0), (.int .u8 0), (.int .u8 0), (.int .u8 0), (.int .u8 0), (.int .u8 0), (.int .u8 0), (.int .u8 0), (.int .u8 0), (.int .u8 0), (.int .u8 0), (.int .u8 0), (.int .u8 0), (.int .u8 0), (.int .i64 0), (.str []), .nilsl]⟩,
 ⟨none,none,.no,.store 36 (.t 2) (.t 15)⟩,
 ⟨some 3,none,.no,.mv (.t 16)⟩]
@[go_sem] def q1yr3 : List AIns := [
 ⟨some 17,none,.no,.mv (.t 1)⟩,
 ⟨some 18,none,.no,.call (.v (.fn 27 [])) [(.t 17), (.v (.str [97]))]⟩,
 ⟨some 4,none,.no,.mv (.t 18)⟩]
@[go_sem] def q1yr4 : List AIns := [
 ⟨some 20,none,.no,.mv (.t 1)⟩,
 ⟨some 21,none,.no,.call (.v (.fn 29 [])) [(.t 20)]⟩,
 ⟨some 19,none,.no,.mv (.t 21)⟩,
 ⟨some 22,none,.no,.ext 0 (.t 19)⟩,
 ⟨some 23,none,.no,.ext 1 (.t 19)⟩,
 ⟨some 5,none,.no,.alloc [(.int .i64 0), (.int .u8 0), (.int .u8 0), (.int .u8 0), (.int .u8 0), (.int .u8 0), (.int .u8 0), (.int .u8 0), (.int .u8 0), (.int .u8 0), (.int .u8 0), (.int .u8 0), (.int .u8 0), (.int .u8 0), (.int .u8 0), (.int .u8 0), (.int .u8 0), (.int .u8 0), (.int .u8 0), (.int .u8 0), (.int .u8 0), (.int .u8 0), (.int .u8 0), (.int .u8 0), (.int .u8 0), (.int .u8 0), (.int .u8 0), (.int .u8 0), (.int .u8 0), (.int .u8 0), (.int .u8 0), (.int .u8 0), (.int .u8 0), (.int .i64 0), (.str []), .nilsl]⟩,
 ⟨none,none,.no,.store 36 (.t 5) (.t 22)⟩,
 ⟨some 6,none,.no,.mv (.t 23)⟩]
@[go_sem] def q1yr5 : List AIns := [
 ⟨some 25,none,.no,.mv (.t 1)⟩,
 ⟨some 26,none,.no,.call (.v (.fn 29 [])) [(.t 25)]⟩,
 ⟨some 24,none,.no,.mv (.t 26)⟩,
 ⟨some 27,none,.no,.ext 0 (.t 24)⟩,
 ⟨some 28,none,.no,.ext 1 (.t 24)⟩,
 ⟨some 7,none,.no,.alloc [(.int .i64 0), (.int .u8 0), (.int .u8 0), (.int .u8 0), (.int .u8 0), (.int .u8 0), (.int .u8 0), (.int .u8 0), (.int .u8 0), (.int .u8 0), (.int .u8 0), (.int .u8 0), (.int .u8 0), (.int .u8 0), (.int .u8 0), (.int .u8 0), (.int .u8 0), (.int .u8 0), (.int .u8 0), (.int .u8 0), (.int .u8 0), (.int .u8 0), (.int .u8 0), (.int .u8 0), (.int .u8 0), (.int .u8 0), (.int .u8 0), (.int .u8 0), (.int .u8 0), (.int .u8 0), (.int .u8 0), (.int .u8 0), (.int .u8 0), (.int .i64 0), (.str []), .nilsl]⟩,
 ⟨none,none,.no,.store 36 (.t 7) (.t 27)⟩,
 ⟨some 8,none,.no,.mv (.t 28)⟩]
@[go_sem] def q1yr6 : List AIns := [
 ⟨some 29,none,.no,.mv (.t 1)⟩,
 ⟨some 30,none,.no,.call (.v (.fn 27 [])) [(.t 29), (.v (.str [98]))]⟩,
 ⟨some 9,none,.no,.mv (.t 30)⟩]
@[go_sem] def q1yr7 : List AIns := [
 ⟨some 31,none,.no,.mv (.t 1)⟩,
 ⟨some 32,none,.no,.call (.v (.fn 36 [])) [(.t 31)]⟩,
 ⟨some 10,none,.no,.alloc [.nilsl, .nilsl, .nilsl, .nilsl]⟩,
 ⟨none,none,.no,.store 4 (.t 10) (.t 32)⟩]
@[go_sem] def q1yr8 : List AIns := [
 ⟨some 33,none,.no,.mv (.t 3)⟩,
 ⟨some 34,none,.no,.bin .eql .none (.t 33) (.v (.int .i64 83))⟩,
 ⟨some 35,none,.no,.mv (.t 34)⟩,
 ⟨some 36, some (35, true), .no, .mv (.t 4)⟩,
 ⟨some 37, some (35, true), .no, .bin .eql .none (.t 36) (.v (.int .i64 0))⟩,
 ⟨some 38,none,.no,.pick (.t 35) (.t 37) (.v (.bool false))⟩,
 ⟨some 39,none,.no,.mv (.t 38)⟩,
 ⟨some 40, some (39, true), .no, .mv (.t 6)⟩,
 ⟨some 41, some (39, true), .no, .bin .eql .none (.t 40) (.v (.int .i64 0))⟩,
 ⟨some 42,none,.no,.pick (.t 39) (.t 41) (.v (.bool false))⟩,
 ⟨some 43,none,.no,.mv (.t 42)⟩,
 ⟨some 44, some (43, true), .no, .fa 0 (.t 5)⟩,
 ⟨some 45, some (43, true), .no, .fa 0 (.t 44)⟩,
 ⟨some 46, some (43, true), .no, .load false 1 (.t 45)⟩,
 ⟨some 47, some (43, true), .no, .bin .eql .none (.t 46) (.v (.int .i64 1))⟩,
 ⟨some 48,none,.no,.pick (.t 43) (.t 47) (.v (.bool false))⟩,
 ⟨some 49,none,.no,.mv (.t 48)⟩,
 ⟨some 50, some (49, true), .no, .fa 0 (.t 5)⟩,
 ⟨some 51, some (49, true), .no, .fa 1 (.t 50)⟩,
 ⟨some 52, some (49, true), .rd, .load true 32 (.t 51)⟩,
 ⟨some 53, some (49, true), .ef, .call (.v (.fn 40 [])) [(.v (.str [97]))]⟩,
 ⟨some 54, some (49, true), .no, .bin .eql (.agg (List.replicate 32 (.i .u8) ++ [])) (.t 52) (.t 53)⟩,
 ⟨some 55,none,.no,.pick (.t 49) (.t 54) (.v (.bool false))⟩,
 ⟨some 56,none,.no,.mv (.t 55)⟩,
 ⟨some 57, some (56, true), .no, .mv (.t 1)⟩,
 ⟨some 58, some (56, true), .ef, .call (.v (.fn 25 [])) [(.t 57)]⟩,
 ⟨some 59, some (56, true), .rd, .load true 36 (.t 5)⟩,
 ⟨some 60, some (56, true), .no, .call (.v (.fn 48 [])) [(.t 58), (.t 59)]⟩,
 ⟨some 61, some (56, true), .no, .bin .eql .none (.t 60) (.v (.int .i64 0))⟩,
 ⟨some 62,none,.no,.pick (.t 56) (.t 61) (.v (.bool false))⟩,
 ⟨some 63,none,.no,.mv (.t 62)⟩,
 ⟨some 64, some (63, true), .no, .mv (.t 8)⟩,
 ⟨some 65, some (63, true), .no, .bin .eql .none (.t 64) (.v (.int .i64 83))⟩,
 ⟨some 66,none,.no,.pick (.t 63) (.t 65) (.v (.bool false))⟩,
 ⟨some 67,none,.no,.mv (.t 66)⟩,
 ⟨some 68, some (67, true), .no, .mv (.t 9)⟩,
 ⟨some 69, some (67, true), .no, .bin .eql .none (.t 68) (.v (.int .i64 0))⟩,
 ⟨some 70,none,.no,.pick (.t 67) (.t 69) (.v (.bool false))⟩,
 ⟨some 71,none,.no,.mv (.t 70)⟩,
 ⟨some 72, some (71, true), .no, .fa 0 (.t 10)⟩,
 ⟨some 73, some (71, true), .no, .load false 1 (.t 72)⟩,
 ⟨some 74, some (71, true), .no, .lenSl (.t 73)⟩,
 ⟨some 75, some (71, true), .no, .bin .eql .none (.t 74) (.v (.int .i64 1))⟩,
 ⟨some 76,none,.no,.pick (.t 71) (.t 75) (.v (.bool false))⟩,
 ⟨some 77,none,.no,.mv (.t 76)⟩,
 ⟨some 78, some (77, true), .no, .fa 0 (.t 10)⟩,
 ⟨some 79, some (77, true), .no, .load false 1 (.t 78)⟩,
 ⟨some 80, some (77, true), .no, .iaSl 1 (.t 79) (.v (.int .i64 0))⟩,
 ⟨some 81, some (77, true), .no, .load false 1 (.t 80)⟩,
 ⟨some 82, some (77, true), .no, .bin .eql .none (.t 81) (.v (.str [97]))⟩,
 ⟨some 83,none,.no,.pick (.t 77) (.t 82) (.v (.bool false))⟩,
 ⟨some 84,none,.no,.mv (.t 83)⟩,
 ⟨some 85, some (84, true), .no, .mv (.t 1)⟩,
 ⟨some 86, some (84, true), .no, .call (.v (.fn 32 [])) [(.t 85)]⟩,
 ⟨some 87, some (84, true), .no, .lenSl (.t 86)⟩,
 ⟨some 88, some (84, true), .no, .bin .eql .none (.t 87) (.v (.int .i64 2))⟩,
 ⟨some 89,none,.no,.pick (.t 84) (.t 88) (.v (.bool false))⟩,
 ⟨some 90,none,.no,.mv (.t 89)⟩,
 ⟨some 91, some (90, true), .no, .mv (.t 1)⟩,
 ⟨some 92, some (90, true), .no, .call (.v (.fn 34 [])) [(.t 91)]⟩,
 ⟨some 93, some (90, true), .no, .lenSl (.t 92)⟩,
 ⟨some 94, some (90, true), .no, .bin .eql .none (.t 93) (.v (.int .i64 1))⟩,
 ⟨some 95,none,.no,.pick (.t 90) (.t 94) (.v (.bool false))⟩,
 ⟨some 0,none,.no,.mv (.t 95)⟩]
def q1yc9 : ACode := .seq (.reg q1yr8) .ret
def q1yc10 : ACode := .seq (.reg q1yr7) q1yc9
def q1yc11 : ACode := .seq (.reg q1yr6) q1yc10
def q1yc12 : ACode := .seq (.reg q1yr5) q1yc11
def q1yc13 : ACode := .seq (.reg q1yr4) q1yc12
def q1yc14 : ACode := .seq (.reg q1yr3) q1yc13
def q1yc15 : ACode := .seq (.reg q1yr2) q1yc14
def q1yc16 : ACode := .seq (.reg q1yr1) q1yc15
def q1yc17 : ACode := .seq (.reg q1yr0) q1yc16
theorem q1yok : cFn TC 22 = some (96, [.t 0], q1yc17) := by kernel_rfl
@[go_sem] def q1zr0 : List AIns := [
 ⟨some 2,none,.no,.alloc [(.int .i64 0), (.int .u8 0), (.int .u8 0), (.int .u8 0), (.int .u8 0), (.int .u8 0), (.int .u8 0), (.int .u8 0), (.int .u8 0), (.int .u8 0), (.int .u8 0), (.int .u8 0), (.int .u8 0), (.int .u8 0), (.int .u8 0), (.int .u8 0), (.int .u8 0), (.int .u8 0), (.int .u8 0), (.int .u8 0), (.int .u8 0), (.int .u8 0), (.int .u8 0), (.int .u8 0), (.int .u8 0), (.int .u8 0), (.int .u8 0), (.int .u8 0), (.int .u8 0), (.int .u8 0), (.int .u8 0), (.int .u8 0), (.int .u8 0), (.int .i64 0), (.str []), .nilsl]⟩,
 ⟨some 3,none,.no,.mv (.v (.int .i64 0))⟩]
@[go_sem] def q1zr1 : List AIns := [
 ⟨some 4,none,.no,.mv (.v (.int .i64 0))⟩]
@[go_sem] def q1zr2 : List AIns := [
 ⟨some 9,none,.no,.mv (.t 0)⟩,
 ⟨some 10,none,.no,.call (.v (.fn 34 [])) [(.t 9)]⟩,
 ⟨some 11,none,.no,.lenSl (.t 10)⟩,
 ⟨some 5,none,.no,.mv (.t 11)⟩]
@[go_sem] def q1zr3 : List AIns := [
 ⟨some 13,none,.no,.mv (.t 0)⟩,
 ⟨some 14,none,.no,.call (.v (.fn 61 [])) [(.t 13)]⟩,
 ⟨some 12,none,.no,.mv (.t 14)⟩]
@[go_sem] def q1zr4 : List AIns := [
 ⟨some 15,none,.no,.build [(.int .i64 0), (.int .u8 0), (.int .u8 0), (.int .u8 0), (.int .u8 0), (.int .u8 0), (.int .u8 0), (.int .u8 0), (.int .u8 0), (.int .u8 0), (.int .u8 0), (.int .u8 0), (.int .u8 0), (.int .u8 0), (.int .u8 0), (.int .u8 0), (.int .u8 0), (.int .u8 0), (.int .u8 0), (.int .u8 0), (.int .u8 0), (.int .u8 0), (.int .u8 0), (.int .u8 0), (.int .u8 0), (.int .u8 0), (.int .u8 0), (.int .u8 0), (.int .u8 0), (.int .u8 0), (.int .u8 0), (.int .u8 0), (.int .u8 0), (.int .i64 0), (.str []), .nilsl] []⟩,
 ⟨none,none,.no,.store 36 (.t 2) (.t 15)⟩,
 ⟨some 3,none,.no,.mv (.v (.int .i64 1))⟩]
def q1zc5 : ACode := .seq (.reg q1zr4) .ret
@[go_sem] def q1zr6 : List AIns := [
 ⟨some 17,none,.no,.mv (.t 5)⟩,
 ⟨some 18,none,.no,.bin .geq .none (.t 17) (.v (.int .i64 8))⟩,
 ⟨some 16,none,.no,.mv (.t 18)⟩]
@[go_sem] def q1zr7 : List AIns := [
 ⟨some 19,none,.no,.build [(.int .i64 0), (.int .u8 0), (.int .u8 0), (.int .u8 0), (.int .u8 0), (.int .u8 0), (.int .u8 0), (.int .u8 0), (.int .u8 0), (.int .u8 0), (.int .u8 0), (.int .u8 0), (.int .u8 0), (.int .u8 0), (.int .u8 0), (.int .u8 0), (.int .u8 0), (.int .u8 0), (.int .u8 0), (.int .u8 0), (.int .u8 0), (.int .u8 0), (.int .u8 0), (.int .u8 0), (.int .u8 0), (.int .u8 0), (.int .u8 0), (.int .u8 0), (.int .u8 0), (.int .u8 0), (.int .u8 0), (.int .u8 0), (.int .u8 0), (.int .i64 0), (.str []), .nilsl] []⟩,
 ⟨none,none,.no,.store 36 (.t 2) (.t 19)⟩,
 ⟨some 3,none,.no,.mv (.v (.int .i64 85))⟩]
def q1zc8 : ACode := .seq (.reg q1zr7) .ret
@[go_sem] def q1zr9 : List AIns := [
 ⟨some 21,none,.no,.mv (.t 5)⟩,
 ⟨some 22,none,.no,.bin .gtr .none (.t 21) (.v (.int .i64 0))⟩,
 ⟨some 20,none,.no,.mv (.t 22)⟩]
@[go_sem] def q1zr10 : List AIns := [
 ⟨some 23,none,.no,.mv (.t 0)⟩,
 ⟨some 24,none,.no,.nilc (.t 23)⟩,
 ⟨some 25,none,.no,.fa 5 (.t 24)⟩,
 ⟨some 26,none,.no,.load false 1 (.t 25)⟩,
 ⟨some 27,none,.no,.mv (.t 5)⟩,
 ⟨some 28,none,.no,.bin .sub .none (.t 27) (.v (.int .i64 1))⟩,
 ⟨some 29,none,.no,.iaSl 36 (.t 26) (.t 28)⟩,
 ⟨some 30,none,.no,.fa 0 (.t 29)⟩,
 ⟨some 31,none,.no,.fa 0 (.t 30)⟩,
 ⟨some 32,none,.no,.load false 1 (.t 31)⟩,
 ⟨some 4,none,.no,.mv (.t 32)⟩]
def q1zc11 : ACode := .cond (.t 20) (.reg q1zr10) .skip
def q1zc12 : ACode := .seq (.reg q1zr9) q1zc11
def q1zc13 : ACode := .cond (.t 16) q1zc8 q1zc12
def q1zc14 : ACode := .seq (.reg q1zr6) q1zc13
def q1zc15 : ACode := .cond (.t 12) q1zc5 q1zc14
def q1zc16 : ACode := .seq (.reg q1zr3) q1zc15
def q1zc17 : ACode := .block 0 q1zc16
def q1zc18 : ACode := .seq (.reg q1zr2) q1zc17
@[go_sem] def q1zr19 : List AIns := [
 ⟨some 33,none,.no,.mv (.t 0)⟩,
 ⟨some 34,none,.no,.nilc (.t 33)⟩,
 ⟨some 35,none,.no,.fa 1 (.t 34)⟩,
 ⟨some 36,none,.no,.load false 1 (.t 35)⟩,
 ⟨some 37,none,.no,.lenSl (.t 36)⟩,
 ⟨some 38,none,.no,.mv (.t 4)⟩,
 ⟨some 39,none,.no,.bin .eql .none (.t 37) (.t 38)⟩]
@[go_sem] def q1zr20 : List AIns := [
 ⟨some 40,none,.no,.build [(.int .i64 0), (.int .u8 0), (.int .u8 0), (.int .u8 0), (.int .u8 0), (.int .u8 0), (.int .u8 0), (.int .u8 0), (.int .u8 0), (.int .u8 0), (.int .u8 0), (.int .u8 0), (.int .u8 0), (.int .u8 0), (.int .u8 0), (.int .u8 0), (.int .u8 0), (.int .u8 0), (.int .u8 0), (.int .u8 0), (.int .u8 0), (.int .u8 0), (.int .u8 0), (.int .u8 0), (.int .u8 0), (.int .u8 0), (.int .u8 0), (.int .u8 0), (.int .u8 0), (.int .u8 0), (.int .u8 0), (.int .u8 0), (.int .u8 0), (.int .i64 0), (.str []), .nilsl] []⟩,
 ⟨none,none,.no,.store 36 (.t 2) (.t 40)⟩,
 ⟨some 3,none,.no,.mv (.v (.int .i64 83))⟩]
def q1zc21 : ACode := .seq (.reg q1zr20) .ret
def q1zc22 : ACode := .cond (.t 39) q1zc21 .skip
def q1zc23 : ACode := .seq (.reg q1zr19) q1zc22
@[go_sem] def q1zr24 : List AIns := [
 ⟨some 42,none,.no,.mv (.t 0)⟩,
 ⟨some 43,none,.no,.nilc (.t 42)⟩,
 ⟨some 44,none,.no,.fa 3 (.t 43)⟩,
 ⟨some 45,none,.no,.load true 2 (.t 44)⟩,
 ⟨some 46,none,.no,.call (.v (.fn 64 [])) [(.t 45)]⟩,
 ⟨some 41,none,.no,.mv (.t 46)⟩,
 ⟨some 47,none,.no,.ext 0 (.t 41)⟩,
 ⟨some 48,none,.no,.ext 1 (.t 41)⟩,
 ⟨some 6,none,.no,.alloc zZ0⟩,
 ⟨none,none,.no,.store 32 (.t 6) (.t 47)⟩,
 ⟨some 7,none,.no,.mv (.t 48)⟩]
@[go_sem] def q1zr25 : List AIns := [
 ⟨some 49,none,.no,.mv (.t 7)⟩,
 ⟨some 50,none,.no,.bin .neq .none (.t 49) (.v (.int .i64 0))⟩]
@[go_sem] def q1zr26 : List AIns := [
 ⟨some 51,none,.no,.build [(.int .i64 0), (.int .u8 0), (.int .u8 0), (.int .u8 0), (.int .u8 0), (.int .u8 0), (.int .u8 0), (.int .u8 0), (.int .u8 0), (.int .u8 0), (.int .u8 0), (.int .u8 0), (.int .u8 0), (.int .u8 0), (.int .u8 0), (.int .u8 0), (.int .u8 0), (.int .u8 0), (.int .u8 0), (.int .u8 0), (.int .u8 0), (.int .u8 0), (.int .u8 0), (.int .u8 0), (.int .u8 0), (.int .u8 0), (.int .u8 0), (.int .u8 0), (.int .u8 0), (.int .u8 0), (.int .u8 0), (.int .u8 0), (.int .u8 0), (.int .i64 0), (.str []), .nilsl] []⟩,
 ⟨some 52,none,.no,.mv (.t 7)⟩,
 ⟨none,none,.no,.store 36 (.t 2) (.t 51)⟩,
 ⟨some 3,none,.no,.mv (.t 52)⟩]
def q1zc27 : ACode := .seq (.reg q1zr26) .ret
def q1zc28 : ACode := .cond (.t 50) q1zc27 .skip
def q1zc29 : ACode := .seq (.reg q1zr25) q1zc28
@[go_sem] def q1zr30 : List AIns := [
 ⟨some 53,none,.no,.mv (.t 0)⟩,
 ⟨some 54,none,.no,.nilc (.t 53)⟩,
 ⟨some 55,none,.no,.fa 1 (.t 54)⟩,
 ⟨some 56, none, .rd, .load false 1 (.t 55)⟩,
 ⟨some 57,none,.no,.lenSl (.t 56)⟩,
 ⟨some 58, none, .rd, .load true 32 (.t 6)⟩,
 ⟨some 59,none,.no,.build ((.int .i64 0) :: zZ0) [(0, 1, (.t 57)), (1, 32, (.t 58))]⟩,
 ⟨some 60,none,.no,.build [(.int .i64 0), (.int .u8 0), (.int .u8 0), (.int .u8 0), (.int .u8 0), (.int .u8 0), (.int .u8 0), (.int .u8 0), (.int .u8 0), (.int .u8 0), (.int .u8 0), (.int .u8 0), (.int .u8 0), (.int .u8 0), (.int .u8 0), (.int .u8 0), (.int .u8 0), (.int .u8 0), (.int .u8 0), (.int .u8 0), (.int .u8 0), (.int .u8 0), (.int .u8 0), (.int .u8 0), (.int .u8 0), (.int .u8 0), (.int .u8 0), (.int .u8 0), (.int .u8 0), (.int .u8 0), (.int .u8 0), (.int .u8 0), (.int .u8 0), (.int .i64 0), (.str []), .nilsl] [(0, 33, (.t 59))]⟩,
 ⟨some 8, none, .ef, .alloc [(.int .i64 0), (.int .u8 0), (.int .u8 0), (.int .u8 0), (.int .u8 0), (.int .u8 0), (.int .u8 0), (.int .u8 0), (.int .u8 0), (.int .u8 0), (.int .u8 0), (.int .u8 0), (.int .u8 0), (.int .u8 0), (.int .u8 0), (.int .u8 0), (.int .u8 0), (.int .u8 0), (.int .u8 0), (.int .u8 0), (.int .u8 0), (.int .u8 0), (.int .u8 0), (.int .u8 0), (.int .u8 0), (.int .u8 0), (.int .u8 0), (.int .u8 0), (.int .u8 0), (.int .u8 0), (.int .u8 0), (.int .u8 0), (.int .u8 0), (.int .i64 0), (.str []), .nilsl]⟩,
 ⟨none,none,.no,.store 36 (.t 8) (.t 60)⟩]
@[go_sem] def q1zr31 : List AIns := [
 ⟨some 62,none,.no,.mv (.t 0)⟩,
 ⟨some 63,none,.no,.nilc (.t 62)⟩,
 ⟨some 64,none,.no,.fa 0 (.t 63)⟩,
 ⟨some 65, none, .rd, .load false 1 (.t 64)⟩,
 ⟨some 66,none,.no,.mv (.t 0)⟩,
 ⟨some 67,none,.no,.nilc (.t 66)⟩,
 ⟨some 68,none,.no,.fa 5 (.t 67)⟩,
 ⟨some 69, none, .rd, .load false 1 (.t 68)⟩,
 ⟨some 70,none,.no,.lenSl (.t 69)⟩,
 ⟨some 71,none,.no,.fa 0 (.t 8)⟩,
 ⟨some 72, none, .rd, .load true 33 (.t 71)⟩,
 ⟨some 73, none, .ef, .call (.v (.fn 66 [])) [(.t 72)]⟩,
 ⟨some 74,none,.no,.call (.v (.fn 65 [])) [(.t 65), (.t 70), (.t 73)]⟩,
 ⟨some 61,none,.no,.mv (.t 74)⟩,
 ⟨some 75,none,.no,.ext 0 (.t 61)⟩,
 ⟨some 76,none,.no,.ext 1 (.t 61)⟩,
 ⟨some 77,none,.no,.fa 33 (.t 8)⟩,
 ⟨none,none,.no,.store 3 (.t 77) (.t 75)⟩,
 ⟨some 7,none,.no,.mv (.t 76)⟩]
@[go_sem] def q1zr32 : List AIns := [
 ⟨some 78,none,.no,.mv (.t 7)⟩,
 ⟨some 79,none,.no,.bin .neq .none (.t 78) (.v (.int .i64 0))⟩]
@[go_sem] def q1zr33 : List AIns := [
 ⟨some 80,none,.no,.build [(.int .i64 0), (.int .u8 0), (.int .u8 0), (.int .u8 0), (.int .u8 0), (.int .u8 0), (.int .u8 0), (.int .u8 0), (.int .u8 0), (.int .u8 0), (.int .u8 0), (.int .u8 0), (.int .u8 0), (.int .u8 0), (.int .u8 0), (.int .u8 0), (.int .u8 0), (.int .u8 0), (.int .u8 0), (.int .u8 0), (.int .u8 0), (.int .u8 0), (.int .u8 0), (.int .u8 0), (.int .u8 0), (.int .u8 0), (.int .u8 0), (.int .u8 0), (.int .u8 0), (.int .u8 0), (.int .u8 0), (.int .u8 0), (.int .u8 0), (.int .i64 0), (.str []), .nilsl] []⟩,
 ⟨some 81,none,.no,.mv (.t 7)⟩,
 ⟨none,none,.no,.store 36 (.t 2) (.t 80)⟩,
 ⟨some 3,none,.no,.mv (.t 81)⟩]
def q1zc34 : ACode := .seq (.reg q1zr33) .ret
def q1zc35 : ACode := .cond (.t 79) q1zc34 .skip
def q1zc36 : ACode := .seq (.reg q1zr32) q1zc35
def q1zc37 : ACode := .seq (.reg q1zr31) q1zc36
@[go_sem] def q1zr38 : List AIns := [
 ⟨some 82,none,.no,.mv (.t 0)⟩,
 ⟨some 83,none,.no,.mv (.t 0)⟩,
 ⟨some 84,none,.no,.nilc (.t 83)⟩,
 ⟨some 85,none,.no,.fa 5 (.t 84)⟩,
 ⟨some 86, none, .rd, .load false 1 (.t 85)⟩,
 ⟨some 87, none, .rd, .load true 36 (.t 8)⟩,
 ⟨some 88,none,.no,.lit 36 [(.t 87)]⟩,
 ⟨some 89,none,.no,.app 36 (.t 86) (.t 88)⟩,
 ⟨some 90,none,.no,.nilc (.t 82)⟩,
 ⟨some 91,none,.no,.fa 5 (.t 90)⟩,
 ⟨none,none,.no,.store 1 (.t 91) (.t 89)⟩]
@[go_sem] def q1zr39 : List AIns := [
 ⟨some 92,none,.no,.load true 36 (.t 8)⟩,
 ⟨some 93,none,.no,.call (.v (.fn 67 [])) [(.t 92)]⟩,
 ⟨none,none,.no,.store 36 (.t 2) (.t 93)⟩,
 ⟨some 3,none,.no,.mv (.v (.int .i64 0))⟩]
def q1zc40 : ACode := .seq (.reg q1zr39) .ret
def q1zc41 : ACode := .seq (.reg q1zr38) q1zc40
def q1zc42 : ACode := .seq q1zc37 q1zc41
def q1zc43 : ACode := .seq (.reg q1zr30) q1zc42
def q1zc44 : ACode := .seq q1zc29 q1zc43
def q1zc45 : ACode := .seq (.reg q1zr24) q1zc44
def q1zc46 : ACode := .seq q1zc23 q1zc45
def q1zc47 : ACode := .seq q1zc18 q1zc46
def q1zc48 : ACode := .seq (.reg q1zr1) q1zc47
def q1zc49 : ACode := .seq (.reg q1zr0) q1zc48
theorem zap : cFn TC 29 = some (94, [.c 2 true 36, .t 3], q1zc49) := by kernel_rfl
@[go_sem] def q20r0 : List AIns := [
 ⟨some 2,none,.no,.alloc [.nilsl, .nilsl, .nilsl, .nilsl]⟩]
@[go_sem] def q20r1 : List AIns := [
 ⟨some 6,none,.no,.mv (.t 0)⟩,
 ⟨some 7,none,.no,.call (.v (.fn 34 [])) [(.t 6)]⟩,
 ⟨some 3,none,.no,.mv (.t 7)⟩]
@[go_sem] def q20r2 : List AIns := [
 ⟨some 8,none,.no,.mv (.t 3)⟩,
 ⟨some 9,none,.no,.lenSl (.t 8)⟩,
 ⟨some 10,none,.no,.bin .eql .none (.t 9) (.v (.int .i64 0))⟩]
@[go_sem] def q20r3 : List AIns := [
 ⟨some 11,none,.no,.build [.nilsl, .nilsl, .nilsl, .nilsl] []⟩,
 ⟨none,none,.no,.store 4 (.t 2) (.t 11)⟩]
def q20c4 : ACode := .seq (.reg q20r3) .ret
def q20c5 : ACode := .cond (.t 10) q20c4 .skip
def q20c6 : ACode := .seq (.reg q20r2) q20c5
@[go_sem] def q20r7 : List AIns := [
 ⟨some 12,none,.no,.mv (.t 3)⟩,
 ⟨some 13,none,.no,.mv (.t 3)⟩,
 ⟨some 14,none,.no,.lenSl (.t 13)⟩,
 ⟨some 15,none,.no,.bin .sub .none (.t 14) (.v (.int .i64 1))⟩,
 ⟨some 16,none,.no,.iaSl 36 (.t 12) (.t 15)⟩,
 ⟨some 17,none,.no,.load true 36 (.t 16)⟩,
 ⟨some 4,none,.no,.alloc [(.int .i64 0), (.int .u8 0), (.int .u8 0), (.int .u8 0), (.int .u8 0), (.int .u8 0), (.int .u8 0), (.int .u8 0), (.int .u8 0), (.int .u8 0), (.int .u8 0), (.int .u8 0), (.int .u8 0), (.int .u8 0), (.int .u8 0), (.int .u8 0), (.int .u8 0), (.int .u8 0), (.int .u8 0), (.int .u8 0), (.int .u8 0), (.int .u8 0), (.int .u8 0), (.int .u8 0), (.int .u8 0), (.int .u8 0), (.int .u8 0), (.int .u8 0), (.int .u8 0), (.int .u8 0), (.int .u8 0), (.int .u8 0), (.int .u8 0), (.int .i64 0), (.str []), .nilsl]⟩,
 ⟨none,none,.no,.store 36 (.t 4) (.t 17)⟩]
@[go_sem] def q20r8 : List AIns := [
 ⟨some 18,none,.no,.fa 0 (.t 4)⟩,
 ⟨some 19,none,.no,.fa 0 (.t 18)⟩,
 ⟨some 20,none,.no,.load false 1 (.t 19)⟩,
 ⟨some 5,none,.no,.mv (.t 20)⟩]
@[go_sem] def q20r9 : List AIns := [
 ⟨some 21,none,.no,.mv (.t 0)⟩,
 ⟨some 22, none, .ef, .call (.v (.fn 32 [])) [(.t 21)]⟩,
 ⟨some 23,none,.no,.mv (.t 5)⟩,
 ⟨some 24,none,.no,.slice (.sl 1) (.t 22) none (some (.t 23)) none⟩,
 ⟨some 25,none,.no,.mv (.t 0)⟩,
 ⟨some 26,none,.no,.nilc (.t 25)⟩,
 ⟨some 27,none,.no,.fa 2 (.t 26)⟩,
 ⟨some 28, none, .rd, .load false 1 (.t 27)⟩,
 ⟨some 29,none,.no,.mv (.t 5)⟩,
 ⟨some 30,none,.no,.slice (.sl 32) (.t 28) none (some (.t 29)) none⟩,
 ⟨some 31, none, .ef, .app 32 (.v .nilsl) (.t 30)⟩,
 ⟨some 32, none, .rd, .load true 36 (.t 4)⟩,
 ⟨some 33,none,.no,.lit 36 [(.t 32)]⟩,
 ⟨some 34,none,.no,.build [.nilsl, .nilsl, .nilsl, .nilsl] [(0, 1, (.t 24)), (1, 1, (.t 31)), (2, 1, (.t 33))]⟩,
 ⟨none,none,.no,.store 4 (.t 2) (.t 34)⟩]
def q20c10 : ACode := .seq (.reg q20r9) .ret
def q20c11 : ACode := .seq (.reg q20r8) q20c10
def q20c12 : ACode := .seq (.reg q20r7) q20c11
def q20c13 : ACode := .seq q20c6 q20c12
def q20c14 : ACode := .seq (.reg q20r1) q20c13
def q20c15 : ACode := .seq (.reg q20r0) q20c14
theorem q20ok : cFn TC 36 = some (35, [.c 2 true 4], q20c15) := by kernel_rfl
@[go_sem] def q21r0 : List AIns := [
 ⟨some 2,none,.no,.alloc zZ0⟩]
@[go_sem] def q21r1 : List AIns := [
 ⟨some 3,none,.no,.mv (.t 0)⟩,
 ⟨some 4,none,.no,.call (.v (.fn 61 [])) [(.t 3)]⟩]
@[go_sem] def q21r2 : List AIns := [
 ⟨some 5,none,.no,.build zZ0 []⟩,
 ⟨none,none,.no,.store 32 (.t 2) (.t 5)⟩]
def q21c3 : ACode := .seq (.reg q21r2) .ret
def q21c4 : ACode := .cond (.t 4) q21c3 .skip
def q21c5 : ACode := .seq (.reg q21r1) q21c4
@[go_sem] def q21r6 : List AIns := [
 ⟨some 6,none,.no,.mv (.t 0)⟩,
 ⟨some 7,none,.no,.nilc (.t 6)⟩,
 ⟨some 8,none,.no,.fa 0 (.t 7)⟩,
 ⟨some 9,none,.no,.load false 1 (.t 8)⟩,
 ⟨some 10,none,.no,.call (.v (.fn 10 [])) [(.t 9)]⟩,
 ⟨none,none,.no,.store 32 (.t 2) (.t 10)⟩]
def q21c7 : ACode := .seq (.reg q21r6) .ret
def q21c8 : ACode := .seq q21c5 q21c7
def q21c9 : ACode := .seq (.reg q21r0) q21c8
theorem q21ok : cFn TC 25 = some (11, [.c 2 true 32], q21c9) := by kernel_rfl
@[go_sem] def q22r0 : List AIns := [
 ⟨some 4,none,.no,.mv (.v (.int .i64 0))⟩]
@[go_sem] def q22r1 : List AIns := [
 ⟨some 9,none,.no,.mv (.t 0)⟩,
 ⟨some 10,none,.no,.call (.v (.fn 61 [])) [(.t 9)]⟩,
 ⟨some 8,none,.no,.mv (.t 10)⟩]
@[go_sem] def q22r2 : List AIns := [
 ⟨some 4,none,.no,.mv (.v (.int .i64 1))⟩]
def q22c3 : ACode := .seq (.reg q22r2) .ret
@[go_sem] def q22r4 : List AIns := [
 ⟨some 12,none,.no,.mv (.t 1)⟩,
 ⟨some 13,none,.no,.lenStr (.t 12)⟩,
 ⟨some 14,none,.no,.bin .gtr .none (.t 13) (.v (.int .i64 200))⟩,
 ⟨some 11,none,.no,.mv (.t 14)⟩]
@[go_sem] def q22r5 : List AIns := [
 ⟨some 4,none,.no,.mv (.v (.int .i64 3))⟩]
def q22c6 : ACode := .seq (.reg q22r5) .ret
@[go_sem] def q22r7 : List AIns := [
 ⟨some 16,none,.no,.mv (.t 0)⟩,
 ⟨some 17,none,.no,.nilc (.t 16)⟩,
 ⟨some 18,none,.no,.fa 1 (.t 17)⟩,
 ⟨some 19,none,.no,.load false 1 (.t 18)⟩,
 ⟨some 20,none,.no,.lenSl (.t 19)⟩,
 ⟨some 21,none,.no,.bin .geq .none (.t 20) (.v (.int .i64 4096))⟩,
 ⟨some 15,none,.no,.mv (.t 21)⟩]
@[go_sem] def q22r8 : List AIns := [
 ⟨some 4,none,.no,.mv (.v (.int .i64 60))⟩]
def q22c9 : ACode := .seq (.reg q22r8) .ret
def q22c10 : ACode := .cond (.t 15) q22c9 .skip
def q22c11 : ACode := .seq (.reg q22r7) q22c10
def q22c12 : ACode := .cond (.t 11) q22c6 q22c11
def q22c13 : ACode := .seq (.reg q22r4) q22c12
def q22c14 : ACode := .cond (.t 8) q22c3 q22c13
def q22c15 : ACode := .seq (.reg q22r1) q22c14
@[go_sem] def q22r16 : List AIns := [
 ⟨some 22,none,.no,.mv (.t 1)⟩,
 ⟨some 23,none,.no,.call (.v (.fn 40 [])) [(.t 22)]⟩,
 ⟨some 5,none,.no,.alloc zZ0⟩,
 ⟨none,none,.no,.store 32 (.t 5) (.t 23)⟩]
@[go_sem] def q22r17 : List AIns := [
 ⟨some 25,none,.no,.mv (.t 0)⟩,
 ⟨some 26,none,.no,.nilc (.t 25)⟩,
 ⟨some 27,none,.no,.fa 3 (.t 26)⟩,
 ⟨some 28, none, .rd, .load true 2 (.t 27)⟩,
 ⟨some 29, none, .rd, .load true 32 (.t 5)⟩,
 ⟨some 30, none, .ef, .call (.v (.fn 63 [])) [(.t 28), (.t 29)]⟩,
 ⟨some 24,none,.no,.mv (.t 30)⟩,
 ⟨some 31,none,.no,.ext 0 (.t 24)⟩,
 ⟨some 32,none,.no,.ext 1 (.t 24)⟩,
 ⟨some 6, none, .ef, .alloc [(.int .i64 0), .nilsl]⟩,
 ⟨none,none,.no,.store 2 (.t 6) (.t 31)⟩,
 ⟨some 7,none,.no,.mv (.t 32)⟩]
@[go_sem] def q22r18 : List AIns := [
 ⟨some 25,none,.no,.mv (.t 0)⟩,
 ⟨some 26,none,.no,.nilc (.t 25)⟩,
 ⟨some 27,none,.no,.fa 3 (.t 26)⟩,
 ⟨some 28, none, .rd, .load true 2 (.t 27)⟩,
 ⟨some 29, none, .rd, .load true 32 (.t 5)⟩,
 ⟨some 6, none, .ef, .alloc [(.int .i64 0), .nilsl]⟩,
 ⟨some 30, none, .ef, .call (.v (.fn 63 [])) [(.t 28), (.t 29)]⟩,
 ⟨some 24,none,.no,.mv (.t 30)⟩,
 ⟨some 31,none,.no,.ext 0 (.t 24)⟩,
 ⟨some 32,none,.no,.ext 1 (.t 24)⟩,
 ⟨none,none,.no,.store 2 (.t 6) (.t 31)⟩,
 ⟨some 7,none,.no,.mv (.t 32)⟩]
@[go_sem] def q22r19 : List AIns := [
 ⟨some 33,none,.no,.mv (.t 7)⟩,
 ⟨some 34,none,.no,.bin .neq .none (.t 33) (.v (.int .i64 0))⟩]
@[go_sem] def q22r20 : List AIns := [
 ⟨some 35,none,.no,.mv (.t 7)⟩,
 ⟨some 4,none,.no,.mv (.t 35)⟩]
def q22c21 : ACode := .seq (.reg q22r20) .ret
def q22c22 : ACode := .cond (.t 34) q22c21 .skip
def q22c23 : ACode := .seq (.reg q22r19) q22c22
@[go_sem] def q22r24 : List AIns := [
 ⟨some 36,none,.no,.mv (.t 0)⟩,
 ⟨some 37,none,.no,.mv (.t 0)⟩,
 ⟨some 38,none,.no,.mv (.t 0)⟩,
 ⟨some 39,none,.no,.mv (.t 0)⟩,
 ⟨some 40,none,.no,.nilc (.t 39)⟩,
 ⟨some 41,none,.no,.fa 1 (.t 40)⟩,
 ⟨some 42, none, .rd, .load false 1 (.t 41)⟩,
 ⟨some 43,none,.no,.mv (.t 1)⟩,
 ⟨some 44,none,.no,.lit 1 [(.t 43)]⟩,
 ⟨some 45, none, .ef, .app 1 (.t 42) (.t 44)⟩,
 ⟨some 46,none,.no,.mv (.t 0)⟩,
 ⟨some 47,none,.no,.nilc (.t 46)⟩,
 ⟨some 48,none,.no,.fa 2 (.t 47)⟩,
 ⟨some 49, none, .rd, .load false 1 (.t 48)⟩,
 ⟨some 50, none, .rd, .load true 32 (.t 5)⟩,
 ⟨some 51,none,.no,.lit 32 [(.t 50)]⟩,
 ⟨some 52, none, .ef, .app 32 (.t 49) (.t 51)⟩,
 ⟨some 53, none, .rd2, .load true 2 (.t 6)⟩,
 ⟨some 54,none,.no,.nilc (.t 36)⟩,
 ⟨some 55,none,.no,.fa 1 (.t 54)⟩,
 ⟨none, none, .ef2, .store 1 (.t 55) (.t 45)⟩,
 ⟨some 56,none,.no,.nilc (.t 37)⟩,
 ⟨some 57,none,.no,.fa 2 (.t 56)⟩,
 ⟨none, none, .ef2, .store 1 (.t 57) (.t 52)⟩,
 ⟨some 58,none,.no,.nilc (.t 38)⟩,
 ⟨some 59,none,.no,.fa 3 (.t 58)⟩,
 ⟨none,none,.no,.store 2 (.t 59) (.t 53)⟩]
@[go_sem] def q22r25 : List AIns := [
 ⟨some 4,none,.no,.mv (.v (.int .i64 0))⟩]
def q22c26 : ACode := .seq (.reg q22r25) .ret
def q22c27 : ACode := .seq (.reg q22r24) q22c26
def q22c28 : ACode := .seq q22c23 q22c27
def q22c29 : ACode := .seq (.reg2 q22r17 q22r18) q22c28
def q22c30 : ACode := .seq (.reg q22r16) q22c29
def q22c31 : ACode := .seq (.block 0 q22c15) q22c30
def q22c32 : ACode := .seq (.reg q22r0) q22c31
theorem q22ok : cFn TC 27 = some (60, [.t 4], q22c32) := by kernel_rfl
@[go_sem] def q23r0 : List AIns := [
 ⟨some 2,none,.no,.mv (.v .nilsl)⟩]
@[go_sem] def q23r1 : List AIns := [
 ⟨some 3,none,.no,.mv (.t 0)⟩,
 ⟨some 4,none,.no,.call (.v (.fn 61 [])) [(.t 3)]⟩]
@[go_sem] def q23r2 : List AIns := [
 ⟨some 2,none,.no,.mv (.v .nilsl)⟩]
def q23c3 : ACode := .seq (.reg q23r2) .ret
def q23c4 : ACode := .cond (.t 4) q23c3 .skip
def q23c5 : ACode := .seq (.reg q23r1) q23c4
@[go_sem] def q23r6 : List AIns := [
 ⟨some 5,none,.no,.mv (.t 0)⟩,
 ⟨some 6,none,.no,.nilc (.t 5)⟩,
 ⟨some 7,none,.no,.fa 1 (.t 6)⟩,
 ⟨some 8,none,.no,.load false 1 (.t 7)⟩,
 ⟨some 9,none,.no,.app 1 (.v .nilsl) (.t 8)⟩,
 ⟨some 2,none,.no,.mv (.t 9)⟩]
def q23c7 : ACode := .seq (.reg q23r6) .ret
def q23c8 : ACode := .seq q23c5 q23c7
def q23c9 : ACode := .seq (.reg q23r0) q23c8
theorem q23ok : cFn TC 32 = some (10, [.t 2], q23c9) := by kernel_rfl
@[go_sem] def q24r0 : List AIns := [
 ⟨some 2,none,.no,.mv (.v .nilsl)⟩]
@[go_sem] def q24r1 : List AIns := [
 ⟨some 6,none,.no,.mv (.t 0)⟩,
 ⟨some 7,none,.no,.call (.v (.fn 61 [])) [(.t 6)]⟩]
@[go_sem] def q24r2 : List AIns := [
 ⟨some 2,none,.no,.mv (.v .nilsl)⟩]
def q24c3 : ACode := .seq (.reg q24r2) .ret
def q24c4 : ACode := .cond (.t 7) q24c3 .skip
def q24c5 : ACode := .seq (.reg q24r1) q24c4
@[go_sem] def q24r6 : List AIns := [
 ⟨some 3,none,.no,.mv (.v .nilsl)⟩]
@[go_sem] def q24r7 : List AIns := [
 ⟨some 8,none,.no,.mv (.t 0)⟩,
 ⟨some 9,none,.no,.nilc (.t 8)⟩,
 ⟨some 10,none,.no,.fa 5 (.t 9)⟩,
 ⟨some 11,none,.no,.load false 1 (.t 10)⟩,
 ⟨some 12,none,.no,.lenSl (.t 11)⟩,
 ⟨some 13,none,.no,.mv (.v (.int .i64 0))⟩]
@[go_sem] def q24r8 : List AIns := [
 ⟨some 14,none,.no,.bin .lss .none (.t 13) (.t 12)⟩]
@[go_sem] def q24r9 : List AIns := [
 ⟨some 15,none,.no,.iaSl 36 (.t 11) (.t 13)⟩,
 ⟨some 16,none,.no,.load true 36 (.t 15)⟩,
 ⟨some 5,none,.no,.alloc [(.int .i64 0), (.int .u8 0), (.int .u8 0), (.int .u8 0), (.int .u8 0), (.int .u8 0), (.int .u8 0), (.int .u8 0), (.int .u8 0), (.int .u8 0), (.int .u8 0), (.int .u8 0), (.int .u8 0), (.int .u8 0), (.int .u8 0), (.int .u8 0), (.int .u8 0), (.int .u8 0), (.int .u8 0), (.int .u8 0), (.int .u8 0), (.int .u8 0), (.int .u8 0), (.int .u8 0), (.int .u8 0), (.int .u8 0), (.int .u8 0), (.int .u8 0), (.int .u8 0), (.int .u8 0), (.int .u8 0), (.int .u8 0), (.int .u8 0), (.int .i64 0), (.str []), .nilsl]⟩,
 ⟨none,none,.no,.store 36 (.t 5) (.t 16)⟩]
@[go_sem] def q24r10 : List AIns := [
 ⟨some 17,none,.no,.mv (.t 3)⟩,
 ⟨some 18,none,.no,.load true 36 (.t 5)⟩,
 ⟨some 19,none,.no,.call (.v (.fn 67 [])) [(.t 18)]⟩,
 ⟨some 20,none,.no,.lit 36 [(.t 19)]⟩,
 ⟨some 21,none,.no,.app 36 (.t 17) (.t 20)⟩,
 ⟨some 3,none,.no,.mv (.t 21)⟩]
def q24c11 : ACode := .seq (.reg q24r9) (.reg q24r10)
@[go_sem] def q24r12 : List AIns := [
 ⟨some 22,none,.no,.bin .add .none (.t 13) (.v (.int .i64 1))⟩,
 ⟨some 13,none,.no,.mv (.t 22)⟩]
def q24c13 : ACode := .seq (.block 1 q24c11) (.reg q24r12)
def q24c14 : ACode := .seq (.cond (.t 14) .skip (.exit 0)) q24c13
def q24c15 : ACode := .seq (.reg q24r8) q24c14
def q24c16 : ACode := .loop q24c15
def q24c17 : ACode := .block 0 q24c16
def q24c18 : ACode := .seq (.reg q24r7) q24c17
@[go_sem] def q24r19 : List AIns := [
 ⟨some 23,none,.no,.mv (.t 3)⟩,
 ⟨some 2,none,.no,.mv (.t 23)⟩]
def q24c20 : ACode := .seq (.reg q24r19) .ret
def q24c21 : ACode := .seq q24c18 q24c20
def q24c22 : ACode := .seq (.reg q24r6) q24c21
def q24c23 : ACode := .seq q24c5 q24c22
def q24c24 : ACode := .seq (.reg q24r0) q24c23
theorem q24ok : cFn TC 34 = some (24, [.t 2], q24c24) := by kernel_rfl
@[go_sem] def q25r0 : List AIns := [
 ⟨some 4,none,.no,.mv (.v (.bool false))⟩]
@[go_sem] def q25r1 : List AIns := [
 ⟨some 5,none,.no,.mv (.v (.int .i64 0))⟩]
@[go_sem] def q25r2 : List AIns := [
 ⟨some 6,none,.no,.mv (.t 5)⟩,
 ⟨some 7,none,.no,.mv (.t 0)⟩,
 ⟨some 8,none,.no,.lenSl (.t 7)⟩,
 ⟨some 9,none,.no,.bin .lss .none (.t 6) (.t 8)⟩]
def q25c3 : ACode := .cond (.t 9) .skip (.exit 0)
def q25c4 : ACode := .seq (.reg q25r2) q25c3
@[go_sem] def q25r5 : List AIns := [
 ⟨some 12,none,.no,.mv (.t 0)⟩,
 ⟨some 13,none,.no,.mv (.t 5)⟩,
 ⟨some 14,none,.no,.iaSl 2 (.t 12) (.t 13)⟩,
 ⟨some 15,none,.no,.fa 1 (.t 14)⟩,
 ⟨some 16,none,.no,.load false 1 (.t 15)⟩,
 ⟨some 17,none,.no,.lenStr (.t 16)⟩,
 ⟨some 18,none,.no,.bin .gtr .none (.t 17) (.v (.int .i64 300))⟩]
@[go_sem] def q25r6 : List AIns := [
 ⟨some 4,none,.no,.mv (.v (.bool true))⟩]
def q25c7 : ACode := .seq (.reg q25r6) .ret
def q25c8 : ACode := .cond (.t 18) q25c7 .skip
def q25c9 : ACode := .seq (.reg q25r5) q25c8
@[go_sem] def q25r10 : List AIns := [
 ⟨some 10,none,.no,.mv (.t 5)⟩,
 ⟨some 11,none,.no,.bin .add .none (.t 10) (.v (.int .i64 1))⟩,
 ⟨some 5,none,.no,.mv (.t 11)⟩]
def q25c11 : ACode := .seq (.block 1 q25c9) (.reg q25r10)
def q25c12 : ACode := .seq q25c4 q25c11
def q25c13 : ACode := .loop q25c12
def q25c14 : ACode := .block 0 q25c13
def q25c15 : ACode := .seq (.reg q25r1) q25c14
@[go_sem] def q25r16 : List AIns := [
 ⟨some 19,none,.no,.mv (.t 0)⟩,
 ⟨some 20,none,.no,.lenSl (.t 19)⟩,
 ⟨some 21,none,.no,.mv (.t 1)⟩,
 ⟨some 22,none,.no,.bin .gtr .none (.t 20) (.t 21)⟩,
 ⟨some 4,none,.no,.mv (.t 22)⟩]
def q25c17 : ACode := .seq (.reg q25r16) .ret
def q25c18 : ACode := .seq q25c15 q25c17
def q25c19 : ACode := .seq (.reg q25r0) q25c18
theorem q25ok : cFn TC 21 = some (23, [.t 4], q25c19) := by kernel_rfl
@[go_sem] def q26r0 : List AIns := [
 ⟨some 2,none,.no,.mv (.v .nilp)⟩]
@[go_sem] def q26r1 : List AIns := [
 ⟨some 3,none,.no,.mv (.t 0)⟩,
 ⟨some 4,none,.no,.call (.v (.fn 59 [])) [(.t 3)]⟩,
 ⟨some 5,none,.no,.build [.nilp, .nilsl, .nilsl, (.int .i64 0), .nilsl, .nilsl] [(0, 1, (.t 4))]⟩,
 ⟨some 6,none,.no,.box (.t 5)⟩,
 ⟨some 2,none,.no,.mv (.t 6)⟩]
def q26c2 : ACode := .seq (.reg q26r1) .ret
def q26c3 : ACode := .seq (.reg q26r0) q26c2
theorem q26ok : cFn TC 23 = some (7, [.t 2], q26c3) := by kernel_rfl
@[go_sem] def q27r0 : List AIns := [
 ⟨some 2,none,.no,.mv (.v (.bool false))⟩]
@[go_sem] def q27r1 : List AIns := [
 ⟨some 3,none,.no,.mv (.t 0)⟩,
 ⟨some 4,none,.no,.bin .eql .ptr (.t 3) (.v .nilp)⟩,
 ⟨some 5,none,.no,.mv (.t 4)⟩,
 ⟨some 6, some (5, false), .no, .mv (.t 0)⟩,
 ⟨some 7, some (5, false), .no, .nilc (.t 6)⟩,
 ⟨some 8, some (5, false), .no, .fa 0 (.t 7)⟩,
 ⟨some 9, some (5, false), .no, .load false 1 (.t 8)⟩,
 ⟨some 10, some (5, false), .no, .bin .eql .ptr (.t 9) (.v .nilp)⟩,
 ⟨some 11,none,.no,.pick (.t 5) (.v (.bool true)) (.t 10)⟩,
 ⟨some 2,none,.no,.mv (.t 11)⟩]
def q27c2 : ACode := .seq (.reg q27r1) .ret
def q27c3 : ACode := .seq (.reg q27r0) q27c2
theorem q27ok : cFn TC 61 = some (12, [.t 2], q27c3) := by kernel_rfl
@[go_sem] def q28r0 : List AIns := [
 ⟨some 1,none,.no,.box (.t 0)⟩,
 ⟨some 2,none,.no,.alloc [(.int .i64 0), (.int .u8 0), (.int .u8 0), (.int .u8 0), (.int .u8 0), (.int .u8 0), (.int .u8 0), (.int .u8 0), (.int .u8 0), (.int .u8 0), (.int .u8 0), (.int .u8 0), (.int .u8 0), (.int .u8 0), (.int .u8 0), (.int .u8 0), (.int .u8 0), (.int .u8 0), (.int .u8 0), (.int .u8 0), (.int .u8 0), (.int .u8 0), (.int .u8 0), (.int .u8 0), (.int .u8 0), (.int .u8 0), (.int .u8 0), (.int .u8 0), (.int .u8 0), (.int .u8 0), (.int .u8 0), (.int .u8 0), (.int .u8 0), (.int .i64 0), (.str []), .nilsl]⟩]
@[go_sem] def q28r1 : List AIns := [
 ⟨some 3,none,.no,.fa 33 (.t 1)⟩,
 ⟨some 4,none,.no,.fa 2 (.t 3)⟩,
 ⟨some 5,none,.no,.load false 1 (.t 4)⟩,
 ⟨some 6,none,.no,.app 32 (.v .nilsl) (.t 5)⟩,
 ⟨some 7,none,.no,.fa 33 (.t 1)⟩,
 ⟨some 8,none,.no,.fa 2 (.t 7)⟩,
 ⟨none,none,.no,.store 1 (.t 8) (.t 6)⟩]
@[go_sem] def q28r2 : List AIns := [
 ⟨some 9,none,.no,.load true 36 (.t 1)⟩,
 ⟨none,none,.no,.store 36 (.t 2) (.t 9)⟩]
def q28c3 : ACode := .seq (.reg q28r2) .ret
def q28c4 : ACode := .seq (.reg q28r1) q28c3
def q28c5 : ACode := .seq (.reg q28r0) q28c4
theorem q28ok : cFn TC 67 = some (10, [.c 2 true 36], q28c5) := by kernel_rfl
end
section
set_option maxRecDepth 10000

end
section
def pbC0 : List AV := [.nilp, .nilsl, .nilsl, .int .i64 0, .nilsl, .nilsl]
def PubN (Y : Store) (p : AV) : Prop := p = .nilp \/ ∃ r, p = .ptr r 0 0 /\ Y[r]? = some (some [pbC0])
theorem PubN.more {Y : Store} {p : AV} (h : PubN Y p) (y : Store) : PubN (Y ++ y) p := by
 rcases h with h | ⟨r, h, hg⟩
 ·exact .inl h
 ·exact .inr ⟨r, h, by rw [gapp (slen hg)]; exact hg⟩
def sgZ : List AV := .int .i64 0 :: (hc zeroH ++ [.int .i64 0, .str [], .nilsl])
attribute [local irreducible] ACallsTo ACallsP pubH
end
section
attribute [local irreducible] ACallsTo ACallsP pubH
end
section
def adC0 : List AV := .bool false :: (hc zeroH ++ (.bool false :: (sgZ ++ [.nilp])))
def AudN (Y : Store) (p : AV) : Prop := p = .nilp \/ ∃ r, p = .ptr r 0 0 /\ Y[r]? = some (some [adC0])
theorem AudN.more {Y : Store} {p : AV} (h : AudN Y p) (y : Store) : AudN (Y ++ y) p := by
 rcases h with h | ⟨r, h, hg⟩
 ·exact .inl h
 ·exact .inr ⟨r, h, by rw [gapp (slen hg)]; exact hg⟩
attribute [local irreducible] ACallsTo ACallsP pubH
end
section
attribute [local irreducible] ACallsTo ACallsP pubH
end
section
attribute [local irreducible] ACallsTo ACallsP pubH
def pbC (t : AV) (log lv : AV) (n : Int) (rg hs : AV) : List AV := [t, log, lv, .int .i64 n, rg, hs]
theorem zhi (Y : Store) (seed : List UInt8) (hs : seed.length < 1000000) : ACallsTo TC 23 [.str seed] Y (.ptr (Y.length + 1) 0 0) (Y ++ [some [z1e true seed (keyL seed)], some [pbC (.ptr Y.length 0 0) .nilsl .nilsl 0 .nilsl .nilsl]]) := by
 have hN := fun Y => zn7 Y seed hs
 unfold pbC
 refine ACallsTo.of_body_keep q26ok (by simp) ?_
 repeat' (first|apply zs_|apply zb_|apply zc_|apply zt_ rfl|apply zf_ rfl|(refine zd_ rfl (fun ht => ?_) (fun ht => ?_)<;>try (exfalso;omega))|((first|apply zr_|apply zk_|apply ze_|apply zq_|(apply callW.mk_pu; (first | exact (fun _ => hN _))) | (apply callW.za; (first | exact (hN _))) | ((first|apply zg0|apply zg1|apply zg2|apply zg3|apply zg4|apply zg5|apply zg6|apply zg7)<;>intro ht));all_goals try simp (disch:=first|omega|(simp only [lens,z7,z6,lQr,lQm,lQt,lQd];first|done|omega)) only [go_sem,nQ1,nQ2,nQ3,nQ4,nQ5,nQ6,nQ7,nQ8,z3r]))
theorem z56 (Y : Store) (r t : Nat) (log lv rg hs : AV) (n : Int) (hg : Y[r]? = some (some [pbC (.ptr t 0 0) log lv n rg hs])) : ACallsTo TC 61 [.ptr r 0 0] Y (.bool false) Y := by
 have d := slen hg
 unfold pbC at hg
 refine ACallsTo.of_body q27ok (by simp) fun hw _ => ?_
 repeat' (first|apply zs_|apply zb_|apply zc_|apply zt_ rfl|apply zf_ rfl|(refine zd_ rfl (fun ht => ?_) (fun ht => ?_)<;>try (exfalso;omega))|((first|apply zr_|apply zk_|apply ze_|apply zq_|((first|apply zg0|apply zg1|apply zg2|apply zg3|apply zg4|apply zg5|apply zg6|apply zg7)<;>intro ht));all_goals try simp (disch:=first|omega|(simp only [lens,z7,z6,lQr,lQm,lQt,lQd];first|done|omega)) only [go_sem,nQ1,nQ2,nQ3,nQ4,nQ5,nQ6,nQ7,nQ8,hg]))
 exact DownV.same hw z2b
theorem zqb (Y : Store) (r t : Nat) (seed : List UInt8) (K : List Hash) (log lv rg hs : AV) (n : Int) (hg : Y[r]? = some (some [pbC (.ptr t 0 0) log lv n rg hs])) (ht : Y[t]? = some (some [z1e true seed K])) (hK : K.length = 8) : ACallsTo TC 25 [.ptr r 0 0] Y (.agg (hc (z18 K))) Y := by
 have d := slen hg
 have d2 := slen ht
 have hN := fun y => z56 (Y ++ y) r t log lv rg hs n (by rw [gapp d]; exact hg)
 have hR := fun y => zt2 (Y ++ y) t seed K (by rw [gapp d2]; exact ht) hK
 unfold pbC at hg
 refine ACallsTo.of_body q21ok (by simp) fun hw _ => ?_
 repeat' (first|apply zs_|apply zb_|apply zc_|apply zt_ rfl|apply zf_ rfl|(refine zd_ rfl (fun ht => ?_) (fun ht => ?_)<;>try (exfalso;omega))|((first|apply zr_|apply zk_|apply ze_|apply zq_|(apply callW.mk_pu; (first | exact (fun _ => hN _) | exact (fun _ => hR _))) | (apply callW.za; (first | exact (hN _) | exact (hR _))) | ((first|apply zg0|apply zg1|apply zg2|apply zg3|apply zg4|apply zg5|apply zg6|apply zg7)<;>intro ht));all_goals try simp (disch:=first|omega|(simp only [lens,z7,z6,lQr,lQm,lQt,lQd];first|done|omega)) only [go_sem,nQ1,nQ2,nQ3,nQ4,nQ5,nQ6,nQ7,nQ8,hg]))
 exact DownV.pure hw (z2l _)
end
section
theorem zrz (n : Int) (r : Hash) (i : Int) (s : List UInt8) (x v : AV) : (sgC n r i s x).set 35 v = sgC n r i s v := by
 unfold sgC
 rw [List.set_cons_succ, List.set_append_right _ _ (by rw [z7]; omega), z7]
 rfl
theorem zrx (n : Int) (r : Hash) (i : Int) (s : List UInt8) (x v : AV) : (sgC n r i s x).take 35 ++ v :: (sgC n r i s x).drop 36 = sgC n r i s v := by
 have h := zrz n r i s x v
 rwa [List.set_eq_take_append_cons_drop, if_pos (by rw [z8]; omega)] at h
theorem z8c {G news : Store} (n : Int) (r : Hash) (i : Int) (s : List UInt8) (x v : AV) (h : DR (FrzD G news) v x) : DR (FrzD G news) (.agg (sgC n r i s v)) (.agg (sgC n r i s x)) := by
 refine drA (drsc (FrzD.same (by simp [RL])) ?_)
 have h2 : DRs (FrzD G news) [.int .i64 i, .str s, v] [.int .i64 i, .str s, x] := drsc (FrzD.same (by simp [RL])) (drsc (FrzD.same (by simp [RL])) (drs1 h))
 have : ∀ (l : List AV), RLs G.length l -> DRs (FrzD G news) (l ++ [.int .i64 i, .str s, v]) (l ++ [.int .i64 i, .str s, x]) := by
  intro l
  induction l with
  | nil => exact fun _ => h2
  | cons a l ih => exact fun hl => by simp only [RLs] at hl; exact drsc (FrzD.same hl.1) (ih hl.2)
 exact this _ (z78 r)
attribute [local irreducible] ACallsTo ACallsP
set_option maxHeartbeats 4000000 in
theorem zfk (Y : Store) (n : Int) (r : Hash) (i : Int) (s : List UInt8) (l : List Hash) (x : AV) (hx : RdSl Y 32 (hr l) x) (hl : l.length < 1000000) : ACallsTo TC 67 [.agg (sgC n r i s x)] Y (.agg (sgC n r i s (z12 32 (hr l)))) Y := by
 have xc := hx.cells
 unfold cellsOf at xc
 have hrel := fun y => (RdSl.app (y := y) hx).rel
 have hst := fun x v => zrx n r i s x v
 refine ACallsTo.of_body q28ok (by simp) fun hw _ => ?_
 by_cases h0 : l = []
 ·subst h0
  have e0 : z12 32 (hr []) = .nilsl := rfl
  rw [e0]
  rcases hx with (⟨rfl, _⟩ | ⟨ex, rfl⟩) | ⟨q, off, lim, o, rfl, hg, h1, h2⟩
  ·repeat' (first|apply zs_|apply zb_|apply zc_|apply zt_ rfl|apply zf_ rfl|(refine zd_ rfl (fun ht => ?_) (fun ht => ?_)<;>try (exfalso;omega))|((first|apply zr_|apply zk_|apply ze_|apply zq_|((first|apply zg0|apply zg1|apply zg2|apply zg3|apply zg4|apply zg5|apply zg6|apply zg7)<;>intro ht));all_goals try simp (disch:=first|omega|(simp only [lens,z7,z6,lQr,lQm,lQt,lQd,z8];first|done|omega)) only [go_sem,nQ1,nQ2,nQ3,nQ4,nQ5,nQ6,nQ7,nQ8,xc,hst]))
   exact DownV.all hw (z8c n r i s .nilsl .nilsl (FrzD.same (by simp [RL])))
  ·rw [zcg] at *
   repeat' (first|apply zs_|apply zb_|apply zc_|apply zt_ rfl|apply zf_ rfl|(refine zd_ rfl (fun ht => ?_) (fun ht => ?_)<;>try (exfalso;omega))|((first|apply zr_|apply zk_|apply ze_|apply zq_|((first|apply zg0|apply zg1|apply zg2|apply zg3|apply zg4|apply zg5|apply zg6|apply zg7)<;>intro ht));all_goals try simp (disch:=first|omega|(simp only [lens,z7,z6,lQr,lQm,lQt,lQd,z8];first|done|omega)) only [go_sem,nQ1,nQ2,nQ3,nQ4,nQ5,nQ6,nQ7,nQ8,xc,hst]))
   exact DownV.all hw (z8c n r i s .nilsl .nilsl (FrzD.same (by simp [RL])))
  ·have dg := slen hg
   have h1' := h1
   rw [z6] at h1'
   repeat' (first|apply zs_|apply zb_|apply zc_|apply zt_ rfl|apply zf_ rfl|(refine zd_ rfl (fun ht => ?_) (fun ht => ?_)<;>try (exfalso;omega))|((first|apply zr_|apply zk_|apply ze_|apply zq_|((first|apply zg0|apply zg1|apply zg2|apply zg3|apply zg4|apply zg5|apply zg6|apply zg7)<;>intro ht));all_goals try simp (disch:=first|omega|(simp only [lens,z7,z6,lQr,lQm,lQt,lQd,z8];first|done|omega)) only [go_sem,nQ1,nQ2,nQ3,nQ4,nQ5,nQ6,nQ7,nQ8,xc,hg,hst,h1,h2]))
   exact DownV.all hw (z8c n r i s .nilsl .nilsl (FrzD.same (by simp [RL])))
 ·have hne : hr l ≠ [] := fun e => h0 (hr_nil_iff.1 e)
  have hl0 : l.length ≠ 0 := fun e => h0 (List.eq_nil_of_length_eq_zero e)
  have e0 : z12 32 (hr l) = .vsl 32 (hr l) false := by unfold z12; rw [if_neg hne]
  rw [e0]
  have hf : ∀ (news : Store) (q : Nat), Y.length <= q -> (Y ++ news)[q]? = some (some (hr l)) -> DR (FrzD Y news) (.vsl 32 (hr l) false) (.sl q 0 l.length none 32) := by
   intro news q hq hg
   rw [show l.length = (hr l).length from (z6 l).symm]
   exact FrzD.sl (o := hr l) (off := 0) hq hg (by omega) (by simp) (z1w l)
  rcases hx with (⟨rfl, h⟩ | ⟨ex, rfl⟩) | ⟨q, off, lim, o, rfl, hg, h1, h2⟩
  ·exact absurd h hne
  ·repeat' (first|apply zs_|apply zb_|apply zc_|apply zt_ rfl|apply zf_ rfl|(refine zd_ rfl (fun ht => ?_) (fun ht => ?_)<;>try (exfalso;omega))|((first|apply zr_|apply zk_|apply ze_|apply zq_|((first|apply zg0|apply zg1|apply zg2|apply zg3|apply zg4|apply zg5|apply zg6|apply zg7)<;>intro ht));all_goals try simp (disch:=first|omega|(simp only [lens,z7,z6,lQr,lQm,lQt,lQd,z8];first|done|omega)) only [go_sem,nQ1,nQ2,nQ3,nQ4,nQ5,nQ6,nQ7,nQ8,xc,hst,hl0]))
   exact DownV.all hw (z8c n r i s _ _ (hf _ (Y.length + 2) (by omega) (by rw [z1a (by omega), Nat.add_sub_cancel_left]; rfl)))
  ·have dg := slen hg
   rw [z6] at *
   repeat' (first|apply zs_|apply zb_|apply zc_|apply zt_ rfl|apply zf_ rfl|(refine zd_ rfl (fun ht => ?_) (fun ht => ?_)<;>try (exfalso;omega))|((first|apply zr_|apply zk_|apply ze_|apply zq_|((first|apply zg0|apply zg1|apply zg2|apply zg3|apply zg4|apply zg5|apply zg6|apply zg7)<;>intro ht));all_goals try simp (disch:=first|omega|(simp only [lens,z7,z6,lQr,lQm,lQt,lQd,z8];first|done|omega)) only [go_sem,nQ1,nQ2,nQ3,nQ4,nQ5,nQ6,nQ7,nQ8,xc,hg,hst,h1,h2,hl0]))
   exact DownV.all hw (z8c n r i s _ _ (hf _ (Y.length + 2) (by omega) (by rw [z1a (by omega), Nat.add_sub_cancel_left]; rfl)))
end
section
attribute [local irreducible] ACallsTo ACallsP
set_option maxHeartbeats 4000000 in
theorem zqc (Y : Store) (r t : Nat) (L : List (List UInt8)) (x lv rg hs : AV) (n : Int) (hg : Y[r]? = some (some [pbC (.ptr t 0 0) x lv n rg hs])) (hx : (L = [] /\ x = .nilsl) \/ ∃ q, L ≠ [] /\ x = .sl q 0 L.length none 1 /\ Y[q]? = some (some (strs L))) (hl : L.length < 1000000) :
  ACallsTo TC 32 [.ptr r 0 0] Y (z12 1 (strs L)) Y := by
 have d := slen hg
 have hN := z56 Y r t x lv rg hs n hg
 unfold pbC at hg
 refine ACallsTo.of_body q23ok (by simp) fun hw _ => ?_
 rcases hx with ⟨rfl, rfl⟩ | ⟨q, h0, rfl, hq⟩
 ·repeat' (first|apply zs_|apply zb_|apply zc_|apply zt_ rfl|apply zf_ rfl|(refine zd_ rfl (fun ht => ?_) (fun ht => ?_)<;>try (exfalso;omega))|((first|apply zr_|apply zk_|apply ze_|apply zq_|(apply callW.mk_pu; (first | exact (fun _ => hN))) | (apply callW.za; (first | exact (hN))) | ((first|apply zg0|apply zg1|apply zg2|apply zg3|apply zg4|apply zg5|apply zg6|apply zg7)<;>intro ht));all_goals try simp (disch:=first|omega|(simp only [lens,z7,z6,lQr,lQm,lQt,lQd,z8];first|done|omega)) only [go_sem,nQ1,nQ2,nQ3,nQ4,nQ5,nQ6,nQ7,nQ8,hg]))
  exact Ext.pure hw (.refl Y) (z14 _ rfl)
 ·have dq := slen hq
  have hl0 : L.length ≠ 0 := fun e => h0 (List.eq_nil_of_length_eq_zero e)
  have htl := zg L
  have hne : strs L ≠ [] := fun e => by rw [e] at htl; simp at htl; omega
  repeat' (first|apply zs_|apply zb_|apply zc_|apply zt_ rfl|apply zf_ rfl|(refine zd_ rfl (fun ht => ?_) (fun ht => ?_)<;>try (exfalso;omega))|((first|apply zr_|apply zk_|apply ze_|apply zq_|(apply callW.mk_pu; (first | exact (fun _ => hN))) | (apply callW.za; (first | exact (hN))) | ((first|apply zg0|apply zg1|apply zg2|apply zg3|apply zg4|apply zg5|apply zg6|apply zg7)<;>intro ht));all_goals try simp (disch:=first|omega|(simp only [lens,z7,z6,lQr,lQm,lQt,lQd,z8];first|done|omega)) only [go_sem,nQ1,nQ2,nQ3,nQ4,nQ5,nQ6,nQ7,nQ8,hg,hq,htl,hl0]))
  refine DownV.all hw ?_
  unfold z12
  rw [if_neg hne, <- zg L]
  exact FrzD.sl (o := strs L) (off := 0) (by omega) (by rw [z1a (by omega), Nat.sub_self]; rfl) (by omega) (by simp) (z6c L)
end
section
structure Hdr where
 n : Int
 r : Hash
 i : Int
 s : List UInt8
 p : List Hash
def hdrC (h : Hdr) : List AV := sgC h.n h.r h.i h.s (z12 32 (hr h.p))
def hdrs (H : List Hdr) : List (List AV) := H.map hdrC
theorem zi (H : List Hdr) : (hdrs H).length = H.length := by simp [hdrs]
theorem zm (h : Hdr) : (hdrC h).length = 36 := z8 _ _ _ _ _
theorem zdi {k : Nat} (h : Hdr) : RLs k (hdrC h) := rls_sg (zhy (z1w _))
theorem zaw {k : Nat} : ∀ (H : List Hdr), RLss k (hdrs H)
 | [] => by simp [hdrs, RLss]
 | h :: H => by simp only [hdrs, List.map_cons, RLss]; exact ⟨zdi h, zaw H⟩
theorem z8h {H : List Hdr} {i : Nat} (h : i < H.length) : (hdrs H)[i]? = some (hdrC H[i]) := by
 simp [hdrs, List.getElem?_eq_getElem h]
theorem zmh {H : List Hdr} {i : Nat} (h : i < H.length) : hdrs (H.take i) ++ [hdrC H[i]] = hdrs (H.take (i + 1)) := by
 unfold hdrs; rw [List.take_succ_eq_append_getElem h, List.map_append]; rfl
attribute [local irreducible] ACallsTo ACallsP
set_option maxHeartbeats 4000000 in
theorem z8q (Y : Store) (r t : Nat) (H : List Hdr) (x lg lv rg : AV) (n : Int) (hg : Y[r]? = some (some [pbC (.ptr t 0 0) lg lv n rg x])) (hx : (H = [] /\ x = .nilsl) \/ ∃ q, H ≠ [] /\ x = .sl q 0 H.length none 36 /\ Y[q]? = some (some (hdrs H))) (hl : H.length < 1000000) (hp : ∀ h ∈ H, h.p.length < 1000000) :
  ACallsTo TC 34 [.ptr r 0 0] Y (z12 36 (hdrs H)) Y := by
 have d := slen hg
 have hN := z56 Y r t lg lv rg x n hg
 unfold pbC at hg
 refine ACallsTo.of_body q24ok (by simp) fun hw _ => ?_
 have hlen : z1j x = some (.int .i64 H.length) := by
  rcases hx with ⟨rfl, rfl⟩ | ⟨q, h0, rfl, hq⟩ <;> rfl
 unfold z1j at hlen
 repeat' (first|apply zs_|apply zb_|apply zc_|apply zt_ rfl|apply zf_ rfl|(refine zd_ rfl (fun ht => ?_) (fun ht => ?_)<;>try (exfalso;omega))|((first|apply zr_|apply zk_|apply ze_|apply zq_|(apply callW.mk_pu; (first | exact (fun _ => hN))) | (apply callW.za; (first | exact (hN))) | ((first|apply zg0|apply zg1|apply zg2|apply zg3|apply zg4|apply zg5|apply zg6|apply zg7)<;>intro ht));all_goals try simp (disch:=first|omega|(simp only [lens,z7,z6,lQr,lQm,lQt,lQd,z8];first|done|omega)) only [go_sem,nQ1,nQ2,nQ3,nQ4,nQ5,nQ6,nQ7,nQ8,hg,hlen]))
 refine zW.loop (fun m O Y' => ∃ (i : Nat) (v : AV), m + i = H.length /\ OwnN 36 Y Y' v (hdrs (H.take i)) /\ O 3 = v /\ O 11 = x /\ O 12 = .int .i64 H.length /\ O 13 = .int .i64 i) H.length ?_ ?_
 ·exact ⟨0, .nilsl, by omega, ⟨[], by simp, .inl ⟨by simp [hdrs], rfl⟩⟩, by simp (disch:=first|omega|(simp only [lens,z7,z6,lQr,lQm,lQt,lQd,z8];first|done|omega)) only [go_sem,nQ1,nQ2,nQ3,nQ4,nQ5,nQ6,nQ7,nQ8],by simp (disch:=first|omega|(simp only [lens,z7,z6,lQr,lQm,lQt,lQd,z8];first|done|omega)) only [go_sem,nQ1,nQ2,nQ3,nQ4,nQ5,nQ6,nQ7,nQ8],by simp (disch:=first|omega|(simp only [lens,z7,z6,lQr,lQm,lQt,lQd,z8];first|done|omega)) only [go_sem,nQ1,nQ2,nQ3,nQ4,nQ5,nQ6,nQ7,nQ8],by simp (disch:=first|omega|(simp only [lens,z7,z6,lQr,lQm,lQt,lQd,z8];first|done|omega)) only [go_sem,nQ1,nQ2,nQ3,nQ4,nQ5,nQ6,nQ7,nQ8]; rfl⟩
 ·rintro m O Y' ⟨i, v, hm, hO, q3, q11, q12, q13⟩
  by_cases hi : i < H.length
  ·have hi' : (i : Int) < H.length := by omega
   rcases hx with ⟨rfl, _⟩ | ⟨q, h0, rfl, hq⟩
   ·simp at hi
   have dq := slen hq
   have hq' : Y'[q]? = some (some (hdrs H)) := by
    obtain ⟨y, rfl⟩ := hO.ext
    rw [gapp dq]; exact hq
   have hgi := z8h hi
   have hst := zmh hi
   have hpp := hp H[i] (List.getElem_mem hi)
   generalize H[i] = h at *
   obtain ⟨v', Y2, ha, hO2⟩ := (hO.more [some [hdrC h]]).app (ys := [hdrC h]) (by simp) (by rw [zi, List.length_take]; simp; omega)
   rw [hst] at hO2
   have hC := fun Y => zfk Y h.n h.r h.i h.s h.p (z12 32 (hr h.p)) (.of (z3d _ _)) hpp
   rw [show sgC h.n h.r h.i h.s (z12 32 (hr h.p)) = hdrC h from rfl] at hC
   have hcl := zm h
   have hdl := zi H
   repeat' (first|apply zs_|apply zb_|apply zc_|apply zt_ rfl|apply zf_ rfl|(refine zd_ rfl (fun ht => ?_) (fun ht => ?_)<;>try (exfalso;omega))|((first|apply zr_|apply zk_|apply ze_|apply zq_|(apply callW.mk_pu; (first | exact (fun _ => hC _))) | (apply callW.za; (first | exact (hC _))) | ((first|apply zg0|apply zg1|apply zg2|apply zg3|apply zg4|apply zg5|apply zg6|apply zg7)<;>intro ht));all_goals try simp (disch:=first|omega|(simp only [lens,z7,z6,lQr,lQm,lQt,lQd,z8];first|done|omega)) only [go_sem,nQ1,nQ2,nQ3,nQ4,nQ5,nQ6,nQ7,nQ8,q3,q11,q12,q13,hi',hq',hgi,hcl,hdl,ha]))
   exact ⟨m - 1, by omega, i + 1, v', by omega, hO2, rfl, by simp⟩
  ·obtain rfl : i = H.length := by omega
   have hi' : ¬ ((H.length : Nat) : Int) < H.length := by omega
   rw [List.take_of_length_le (Nat.le_refl _)] at hO
   repeat' (first|apply zs_|apply zb_|apply zc_|apply zt_ rfl|apply zf_ rfl|(refine zd_ rfl (fun ht => ?_) (fun ht => ?_)<;>try (exfalso;omega))|((first|apply zr_|apply zk_|apply ze_|apply zq_|((first|apply zg0|apply zg1|apply zg2|apply zg3|apply zg4|apply zg5|apply zg6|apply zg7)<;>intro ht));all_goals try simp (disch:=first|omega|(simp only [lens,z7,z6,lQr,lQm,lQt,lQd,z8];first|done|omega)) only [go_sem,nQ1,nQ2,nQ3,nQ4,nQ5,nQ6,nQ7,nQ8,q3,q11,q12,q13,hi']))
   exact hO.froze hw (zaw H)
end
section
attribute [local irreducible] ACallsTo ACallsP
set_option maxHeartbeats 4000000 in
theorem zqe (Y : Store) (r t : Nat) (lv rg : AV) (n : Int) (hg : Y[r]? = some (some [pbC (.ptr t 0 0) .nilsl lv n rg .nilsl])) :
  ACallsTo TC 29 [.ptr r 0 0] Y (.tup [.agg sgZ, .int .i64 83]) Y := by
 have d := slen hg
 have hg' : ∀ y, (Y ++ y)[r]? = some (some [pbC (.ptr t 0 0) .nilsl lv n rg .nilsl]) := fun y => by rw [gapp d]; exact hg
 have hN := fun y => z56 (Y ++ y) r t .nilsl lv rg .nilsl n (hg' y)
 have hH := fun y => z8q (Y ++ y) r t [] .nilsl .nilsl lv rg n (hg' y) (.inl ⟨rfl, rfl⟩) (by simp) (by simp)
 rw [show z12 36 (hdrs []) = .nilsl from rfl] at hH
 unfold pbC at hg
 refine ACallsTo.of_body zap (by simp) fun hw _ => ?_
 repeat' (first|apply zs_|apply zb_|apply zc_|apply zt_ rfl|apply zf_ rfl|(refine zd_ rfl (fun ht => ?_) (fun ht => ?_)<;>try (exfalso;omega))|((first|apply zr_|apply zk_|apply ze_|apply zq_|(apply callW.mk_pu; (first | exact (fun _ => hN _) | exact (fun _ => hH _))) | (apply callW.za; (first | exact (hN _) | exact (hH _))) | ((first|apply zg0|apply zg1|apply zg2|apply zg3|apply zg4|apply zg5|apply zg6|apply zg7)<;>intro ht));all_goals try simp (disch:=first|omega|(simp only [lens,z7,z6,lQr,lQm,lQt,lQd,z8];first|done|omega)) only [go_sem,nQ1,nQ2,nQ3,nQ4,nQ5,nQ6,nQ7,nQ8,hg]))
 exact Ext.pure hw (Ext.refl Y).app (z14 _ rfl)
set_option maxHeartbeats 4000000 in
theorem zqf (Y : Store) (r t q : Nat) (lg lv rg : AV) (n : Int) (H : List Hdr) (k : Nat) (hg : Y[r]? = some (some [pbC (.ptr t 0 0) lg lv n rg (.sl q 0 H.length none 36)])) (hq : Y[q]? = some (some (hdrs H))) (h0 : H ≠ []) (h8 : H.length < 8) (hp : ∀ h ∈ H, h.p.length < 1000000)
  (hlg : z1j lg = some (.int .i64 k)) (hk : ∀ h, H[H.length - 1]? = some h -> h.n = k) :
  ACallsTo TC 29 [.ptr r 0 0] Y (.tup [.agg sgZ, .int .i64 83]) Y := by
 have d := slen hg
 have dq := slen hq
 have hg' : ∀ y, (Y ++ y)[r]? = some (some [pbC (.ptr t 0 0) lg lv n rg (.sl q 0 H.length none 36)]) := fun y => by rw [gapp d]; exact hg
 have hN := fun y => z56 (Y ++ y) r t lg lv rg _ n (hg' y)
 have hH := fun y => z8q (Y ++ y) r t H _ lg lv rg n (hg' y) (.inr ⟨q, h0, rfl, by rw [gapp dq]; exact hq⟩) (by omega) hp
 have hl0 : H.length ≠ 0 := fun e => h0 (List.eq_nil_of_length_eq_zero e)
 have hne : hdrs H ≠ [] := fun e => by have := congrArg List.length e; rw [zi] at this; simp at this; exact h0 this
 have hdl := zi H
 have hgi := z8h (H := H) (i := H.length - 1) (by omega)
 have hk' := hk _ (List.getElem?_eq_getElem (by omega))
 generalize H[H.length - 1] = h at *
 have hc0 : (hdrC h)[0]? = some (.int .i64 k) := by rw [<- hk']; rfl
 have hcl := zm h
 rw [show z12 36 (hdrs H) = .vsl 36 (hdrs H) false by unfold z12; rw [if_neg hne]] at hH
 have e1 : ((H.length : Int) - 1).toNat = H.length - 1 := by omega
 have e8 : ¬ (H.length : Int) >= 8 := by omega
 have e0 : (H.length : Int) > 0 := by omega
 unfold z1j at hlg
 unfold pbC at hg
 refine ACallsTo.of_body zap (by simp) fun hw _ => ?_
 repeat' (first|apply zs_|apply zb_|apply zc_|apply zt_ rfl|apply zf_ rfl|(refine zd_ rfl (fun ht => ?_) (fun ht => ?_)<;>try (exfalso;omega))|((first|apply zr_|apply zk_|apply ze_|apply zq_|(apply callW.mk_pu; (first | exact (fun _ => hN _) | exact (fun _ => hH _))) | (apply callW.za; (first | exact (hN _) | exact (hH _))) | ((first|apply zg0|apply zg1|apply zg2|apply zg3|apply zg4|apply zg5|apply zg6|apply zg7)<;>intro ht));all_goals try simp (disch:=first|omega|(simp only [lens,z7,z6,lQr,lQm,lQt,lQd,z8];first|done|omega)) only [go_sem,nQ1,nQ2,nQ3,nQ4,nQ5,nQ6,nQ7,nQ8,hg,hq,hdl,hgi,hc0,hcl,e1,e8,e0,hlg]))
 exact Ext.pure hw (Ext.refl Y).app (z14 _ rfl)
set_option maxHeartbeats 4000000 in
theorem zqd (Y : Store) (r t q : Nat) (lg lv rg : AV) (n : Int) (H : List Hdr) (hg : Y[r]? = some (some [pbC (.ptr t 0 0) lg lv n rg (.sl q 0 H.length none 36)])) (hq : Y[q]? = some (some (hdrs H))) (h8 : H.length = 8) (hp : ∀ h ∈ H, h.p.length < 1000000) :
  ACallsTo TC 29 [.ptr r 0 0] Y (.tup [.agg sgZ, .int .i64 85]) Y := by
 have d := slen hg
 have dq := slen hq
 have h0 : H ≠ [] := fun e => by rw [e] at h8; simp at h8
 have hg' : ∀ y, (Y ++ y)[r]? = some (some [pbC (.ptr t 0 0) lg lv n rg (.sl q 0 H.length none 36)]) := fun y => by rw [gapp d]; exact hg
 have hN := fun y => z56 (Y ++ y) r t lg lv rg _ n (hg' y)
 have hH := fun y => z8q (Y ++ y) r t H _ lg lv rg n (hg' y) (.inr ⟨q, h0, rfl, by rw [gapp dq]; exact hq⟩) (by omega) hp
 have hne : hdrs H ≠ [] := fun e => by have := congrArg List.length e; rw [zi] at this; simp at this; exact h0 this
 have hdl := zi H
 rw [show z12 36 (hdrs H) = .vsl 36 (hdrs H) false by unfold z12; rw [if_neg hne]] at hH
 have e8 : (H.length : Int) >= 8 := by omega
 refine ACallsTo.of_body zap (by simp) fun hw _ => ?_
 repeat' (first|apply zs_|apply zb_|apply zc_|apply zt_ rfl|apply zf_ rfl|(refine zd_ rfl (fun ht => ?_) (fun ht => ?_)<;>try (exfalso;omega))|((first|apply zr_|apply zk_|apply ze_|apply zq_|(apply callW.mk_pu; (first | exact (fun _ => hN _) | exact (fun _ => hH _))) | (apply callW.za; (first | exact (hN _) | exact (hH _))) | ((first|apply zg0|apply zg1|apply zg2|apply zg3|apply zg4|apply zg5|apply zg6|apply zg7)<;>intro ht));all_goals try simp (disch:=first|omega|(simp only [lens,z7,z6,lQr,lQm,lQt,lQd,z8];first|done|omega)) only [go_sem,nQ1,nQ2,nQ3,nQ4,nQ5,nQ6,nQ7,nQ8,hdl,e8]))
 exact Ext.pure hw (Ext.refl Y).app (z14 _ rfl)
theorem zq9 (Y : Store) (r t : Nat) (lg lv rg hs : AV) (n : Int) (s : List UInt8) (hg : Y[r]? = some (some [pbC (.ptr t 0 0) lg lv n rg hs])) (hl : 200 < s.length) :
  ACallsTo TC 27 [.ptr r 0 0, .str s] Y (.int .i64 3) Y := by
 have hN := z56 Y r t lg lv rg hs n hg
 have hl' : (s.length : Int) > 200 := by omega
 refine ACallsTo.of_body q22ok (by simp) fun hw _ => ?_
 repeat' (first|apply zs_|apply zb_|apply zc_|apply zt_ rfl|apply zf_ rfl|(refine zd_ rfl (fun ht => ?_) (fun ht => ?_)<;>try (exfalso;omega))|((first|apply zr_|apply zk_|apply ze_|apply zq_|(apply callW.mk_pu; (first | exact (fun _ => hN))) | (apply callW.za; (first | exact (hN))) | ((first|apply zg0|apply zg1|apply zg2|apply zg3|apply zg4|apply zg5|apply zg6|apply zg7)<;>intro ht));all_goals try simp (disch:=first|omega|(simp only [lens,z7,z6,lQr,lQm,lQt,lQd,z8];first|done|omega)) only [go_sem,nQ1,nQ2,nQ3,nQ4,nQ5,nQ6,nQ7,nQ8,hl']))
 exact Ext.pure hw (.refl Y) (z14 _ rfl)
end
section
theorem z3b {Y : Store} {q q' : Nat} {a b : List AV} {es es' : List (List AV)} (h : Y[q]? = some (some es)) (h' : Y[q']? = some (some es')) (e : es[0]? = some a) (e' : es'[0]? = some b) (hl : a.length ≠ b.length) : q ≠ q' := by
 rintro rfl
 rw [h] at h'
 simp only [Option.some.injEq] at h'
 subst h'
 rw [e] at e'
 simp only [Option.some.injEq] at e'
 exact hl (by rw [e'])
theorem ze3 {L : List (List UInt8)} (h : L ≠ []) : ∃ a : List AV, (strs L)[0]? = some a /\ a.length = 1 := by
 cases L with
 | nil => exact absurd rfl h
 | cons s L => exact ⟨[.str s], rfl, rfl⟩
theorem zgd {l : List Hash} (h : l ≠ []) : ∃ a : List AV, (hr l)[0]? = some a /\ a.length = 32 := by
 cases l with
 | nil => exact absurd rfl h
 | cons s l => exact ⟨hc s, rfl, z7 s⟩
theorem zce {H : List Hdr} (h : H ≠ []) : ∃ a : List AV, (hdrs H)[0]? = some a /\ a.length = 36 := by
 cases H with
 | nil => exact absurd rfl h
 | cons s H => exact ⟨hdrC s, rfl, zm s⟩
theorem RowAt.ne {sz n q : Nat} {Y : Store} {sid : Option Nat} {v : AV} {es es' : List (List AV)} {b : List AV} (h : RowAt sz Y sid v es) (hw : es ≠ [] -> ∃ a : List AV, es[0]? = some a /\ a.length = n) (h' : Y[q]? = some (some es')) (e' : es'[0]? = some b) (hb : b.length ≠ n) : ∀ j, sid = some j -> j ≠ q := by
 intro j e
 rcases h with ⟨e2, _⟩ | ⟨j', e2, hn, _, hg⟩
 ·rw [e2] at e; cases e
 ·rw [e2] at e; cases e
  obtain ⟨a, ha, hl⟩ := hw hn
  exact z3b hg h' ha e' (by omega)
theorem RowAt.ne2 {sz n sz' n' : Nat} {Y : Store} {sid sid' : Option Nat} {v v' : AV} {es es' : List (List AV)} (h : RowAt sz Y sid v es) (hw : es ≠ [] -> ∃ a : List AV, es[0]? = some a /\ a.length = n) (h' : RowAt sz' Y sid' v' es') (hw' : es' ≠ [] -> ∃ a : List AV, es'[0]? = some a /\ a.length = n') (hnn : n ≠ n') : ∀ j, sid = some j -> sid' ≠ some j := by
 intro j e e'
 rcases h' with ⟨e2, _⟩ | ⟨j', e2, hn, _, hg⟩
 ·rw [e2] at e'; cases e'
 ·rw [e2] at e'; cases e'
  obtain ⟨a, ha, hl⟩ := hw' hn
  exact h.ne hw hg ha (by omega) j e rfl
theorem z7g {L : List (List UInt8)} (h : strs L ≠ []) : ∃ a : List AV, (strs L)[0]? = some a /\ a.length = 1 := ze3 fun e => h (by rw [e]; rfl)
theorem hr_w {l : List Hash} (h : hr l ≠ []) : ∃ a : List AV, (hr l)[0]? = some a /\ a.length = 32 := zgd fun e => h (by rw [e]; rfl)
theorem z3e {H : List Hdr} (h : hdrs H ≠ []) : ∃ a : List AV, (hdrs H)[0]? = some a /\ a.length = 36 := zce fun e => h (by rw [e]; rfl)
structure Fr (Y Y' : Store) (own own' : List Nat) : Prop where
 st : ∀ j, j < Y.length -> j ∉ own -> Y'[j]? = Y[j]?
 new : ∀ j, j ∈ own' -> j ∈ own \/ Y.length <= j
 le : Y.length <= Y'.length
theorem Fr.ext {Y Y' : Store} {own : List Nat} (h : Ext Y Y') : Fr Y Y' own own := by
 refine ⟨fun j hj _ => ?_, fun j hj => .inl hj, h.le⟩
 obtain ⟨y, rfl⟩ := h
 exact gapp hj
theorem Fr.get {Y Y' : Store} {own own' : List Nat} (h : Fr Y Y' own own') {j : Nat} {o : Option AObj} (hg : Y[j]? = some o) (hj : j ∉ own) : Y'[j]? = some o := by
 rw [h.st j (slen hg) hj]; exact hg
def PubIs (Y : Store) (r : Nat) (seed : List UInt8) (L : List (List UInt8)) (H : List Hdr) (own : List Nat) : Prop :=
 ∃ t lg lv z hs sl sv sh, own = r :: t :: (Option.toList sl ++ (Option.toList sv ++ Option.toList sh)) /\ Y[r]? = some (some [pbC (.ptr t 0 0) lg lv L.length z hs]) ∧
  Y[t]? = some (some [z1e true seed (keyL seed)]) /\ RowAt 1 Y sl lg (strs L) /\ RowAt 32 Y sv lv (hr (lvs L)) /\ SlV 32 (hr (ofR (lvs L)).reverse) z /\ RowAt 36 Y sh hs (hdrs H)
theorem PubIs.lt {Y : Store} {r : Nat} {seed : List UInt8} {L : List (List UInt8)} {H : List Hdr} {own : List Nat} (h : PubIs Y r seed L H own) {j : Nat} (hj : j ∈ own) : j < Y.length := by
 obtain ⟨t, lg, lv, z, hs, sl, sv, sh, rfl, hg, ht, h1, h2, hz, h3⟩ := h
 simp only [List.mem_cons, List.mem_append, Option.mem_toList] at hj
 rcases hj with rfl | rfl | h | h | h
 ·exact slen hg
 ·exact slen ht
 ·exact h1.lt h
 ·exact h2.lt h
 ·exact h3.lt h
theorem PubIs.keep {Y Y' : Store} {r : Nat} {seed : List UInt8} {L : List (List UInt8)} {H : List Hdr} {own : List Nat} (h : PubIs Y r seed L H own) (hk : ∀ j, j ∈ own -> Y'[j]? = Y[j]?) : PubIs Y' r seed L H own := by
 obtain ⟨t, lg, lv, z, hs, sl, sv, sh, rfl, hg, ht, h1, h2, hz, h3⟩ := h
 refine ⟨t, lg, lv, z, hs, sl, sv, sh, rfl, ?_, ?_, h1.keep fun q e => hk q ?_, h2.keep fun q e => hk q ?_, hz, h3.keep fun q e => hk q ?_⟩
 ·rw [hk r (by simp)]; exact hg
 ·rw [hk t (by simp)]; exact ht
 all_goals simp [e]
theorem PubIs.ext {Y Y' : Store} {r : Nat} {seed : List UInt8} {L : List (List UInt8)} {H : List Hdr} {own : List Nat} (h : PubIs Y r seed L H own) (he : Ext Y Y') : PubIs Y' r seed L H own := by
 obtain ⟨y, rfl⟩ := he
 exact h.keep fun j hj => gapp (h.lt hj)
def apE (s : List UInt8) : Int := if 200 < s.length then 3 else 0
def apL (L : List (List UInt8)) (s : List UInt8) : List (List UInt8) := if 200 < s.length then L else L ++ [s]
def AppendP (Y : Store) (r : Nat) (seed : List UInt8) (L : List (List UInt8)) (H : List Hdr) (own : List Nat) (s : List UInt8) (a : AV) (Y' : Store) : Prop :=
 a = .int .i64 (apE s) /\ ∃ own', Fr Y Y' own own' /\ PubIs Y' r seed (apL L s) H own'
theorem znk (A B : List (List UInt8)) : lvs (A ++ B) = lvs A ++ lvs B := by simp [lvs]
theorem z92 {L : List (List UInt8)} (h : L ≠ []) : strs L ≠ [] := fun e => h (by cases L with | nil => rfl | cons a l => simp [strs] at e)
theorem z8i {H : List Hdr} (h : H ≠ []) : hdrs H ≠ [] := fun e => h (by cases H with | nil => rfl | cons a l => simp [hdrs] at e)
theorem zcn {L : List (List UInt8)} (h : L ≠ []) : hr (lvs L) ≠ [] := fun e => h (by cases L with | nil => rfl | cons a l => simp [lvs, hr] at e)
theorem AppendP.ok {Y Y' : Store} {r t q1 q2 : Nat} {seed : List UInt8} {L : List (List UInt8)} {H : List Hdr} {s : List UInt8} {z2 hs : AV} {sl sv sh : Option Nat} (h200 : ¬ 200 < s.length)
  (hg : Y'[r]? = some (some [pbC (.ptr t 0 0) (.sl q1 0 (L.length + 1) none 1) (.sl q2 0 (L.length + 1) none 32) ((L.length + 1 : Nat) : Int) z2 hs])) (ht : Y'[t]? = some (some [z1e true seed (keyL seed)]))
  (h1 : Y'[q1]? = some (some (strs (L ++ [s])))) (h2 : Y'[q2]? = some (some (hr (lvs (L ++ [s]))))) (hz : SlV 32 (hr (ofR (lvs (L ++ [s]))).reverse) z2) (h3 : RowAt 36 Y' sh hs (hdrs H))
  (hq1 : Y.length <= q1) (hq2 : Y.length <= q2) (hle : Y.length <= Y'.length) (hst : ∀ j, j < Y.length -> j ≠ r -> sl ≠ some j -> sv ≠ some j -> Y'[j]? = Y[j]?) :
  AppendP Y r seed L H (r :: t :: (Option.toList sl ++ (Option.toList sv ++ Option.toList sh))) s (.int .i64 0) Y' := by
 refine ⟨by unfold apE; rw [if_neg h200], r :: t :: (Option.toList (some q1) ++ (Option.toList (some q2) ++ Option.toList sh)), ⟨fun j hj hn => ?_, fun j hj => ?_, hle⟩, ?_⟩
 ·simp only [List.mem_cons, List.mem_append, Option.mem_toList, not_or] at hn
  exact hst j hj hn.1 (fun e => hn.2.2.1 e) (fun e => hn.2.2.2.1 e)
 ·simp only [List.mem_cons, List.mem_append, Option.mem_toList, Option.some.injEq] at hj ⊢
  rcases hj with h | h | h | h | h
  ·exact .inl (.inl h)
  ·exact .inl (.inr (.inl h))
  ·exact .inr (by omega)
  ·exact .inr (by omega)
  ·exact .inl (.inr (.inr (.inr (.inr h))))
 ·unfold apL
  rw [if_neg h200]
  have hne : L ++ [s] ≠ [] := by simp
  refine ⟨t, _, _, z2, hs, some q1, some q2, sh, rfl, by rw [List.length_append]; exact hg, ht, .inr ⟨q1, rfl, z92 hne, ?_, h1⟩, .inr ⟨q2, rfl, zcn hne, ?_, h2⟩, hz, h3⟩
  ·rw [zg, List.length_append]; rfl
  ·rw [z6, zj, List.length_append]; rfl
theorem AppendP.is {Y : Store} {r : Nat} {seed : List UInt8} {L : List (List UInt8)} {H : List Hdr} {own : List Nat} {s : List UInt8} (hT : PubIs Y r seed L H own) : ∃ a Y', AppendP Y r seed L H own s a Y' := by
 by_cases h : 200 < s.length
 ·exact ⟨_, Y, rfl, own, .ext (.refl _), by unfold apL; rw [if_pos h]; exact hT⟩
 ·obtain ⟨t, lg, lv, z, hs, sl, sv, sh, rfl, hg, ht, h1, h2, hz, h3⟩ := hT
  have d := slen hg
  have d2 := slen ht
  have hrt : t ≠ r := z3b ht hg (a := z1e true seed (keyL seed)) (b := pbC (.ptr t 0 0) lg lv L.length z hs) rfl rfl (by rw [z6j, z23]; simp [pbC])
  refine ⟨_, (Y.set r (some [pbC (.ptr t 0 0) (.sl Y.length 0 (L.length + 1) none 1) (.sl (Y.length + 1) 0 (L.length + 1) none 32) ((L.length + 1 : Nat) : Int) (z12 32 (hr (ofR (lvs (L ++ [s]))).reverse)) hs])) ++ [some (strs (L ++ [s])), some (hr (lvs (L ++ [s])))],
   .ok (Y := Y) (q1 := Y.length) (q2 := Y.length + 1) (hs := hs) h ?_ ?_ ?_ ?_ (z3d _ _) ?_ (Nat.le_refl _) (by omega) (by simp) fun j hj hjr _ _ => ?_⟩
  ·rw [gapp (by simpa using d), z22 d]
  ·rw [gapp (by simpa using d2), z1d (fun e => hrt e.symm)]; exact ht
  ·rw [z1a (by simp)]; simp
  ·rw [z1a (by simp)]; simp
  ·refine h3.keep fun q e => ?_
   have hq := h3.lt e
   have hqr : q ≠ r := by
    rcases h3 with ⟨e2, _⟩ | ⟨q', e2, hn, rfl, hgq⟩
    ·rw [e2] at e; cases e
    ·rw [e2] at e; cases e
     obtain ⟨a, ha, hal⟩ := zce (H := H) (fun e => hn (by rw [e]; rfl))
     exact z3b hgq hg ha (b := pbC (.ptr t 0 0) lg lv L.length z _) rfl (by rw [hal]; simp [pbC])
   rw [gapp (by simpa using hq), z1d (fun e => hqr e.symm)]
  ·rw [gapp (by simpa using hj), z1d (fun e => hjr e.symm)]
attribute [local irreducible] ACallsTo ACallsP
set_option maxHeartbeats 16000000 in
theorem zd6 (Y : Store) (r : Nat) (seed : List UInt8) (L : List (List UInt8)) (H : List Hdr) (own : List Nat) (s : List UInt8) (hT : PubIs Y r seed L H own) (hL : L.length < 4096) (hs : s.length < 1000000) :
  ACallsP TC 27 [.ptr r 0 0, .str s] Y (AppendP Y r seed L H own s) := by
 have hT' := hT
 obtain ⟨t, lg, lv, z, hs', sl, sv, sh, rfl, hg, ht, h1, h2, hz, h3⟩ := hT'
 by_cases h200 : 200 < s.length
 ·exact (zq9 Y r t lg lv z hs' L.length s hg h200).toP ⟨by unfold apE; rw [if_pos h200], _, .ext (.refl _), by unfold apL; rw [if_pos h200]; exact hT⟩
 have h200' : ¬ (s.length : Int) > 200 := by omega
 have d := slen hg
 have d2 := slen ht
 have hgC := hg
 have r1 := h1.rd.len
 rw [zg] at r1
 unfold z1j at r1
 have c1 := h1.cells
 have c2 := h2.cells
 have c3 := h3.cells
 unfold cellsOf at c1 c2 c3
 have hfull : ¬ (L.length : Int) >= 4096 := by omega
 have hN := z56 Y r t lg lv z hs' L.length hg
 have hLf := fun Y => zis Y s (by omega)
 have hA := fun Y' => zj7 Y' (L.length : Int) (ofR (lvs L)).reverse z (lfH s) (.of hz) (by omega) (by rw [List.length_reverse, zag _ (by rw [zj]; omega)]; have := zd4 13 (lvs L).length; omega)
 obtain ⟨z2, e1, hz2⟩ := ext_ok (Y := Y) (n := L.length) (l := [lfH s]) (.of hz) (by rw [List.length_reverse, zag _ (by rw [zj]; omega), zj]) (by simp; omega)
 rw [e1] at hA
 have hz3 : SlV 32 (hr (ofR (lvs (L ++ [s]))).reverse) z2 := by
  rw [List.reverse_reverse] at hz2
  have := z8a 0 [] (lvs L) [lfH s]
  rw [Nat.zero_add, zj] at this
  rw [znk]
  unfold ofR at hz2 ⊢
  rw [show lvs [s] = [lfH s] from rfl, this]
  exact hz2
 have zc := z91 hz
 have zc2 := z91 hz2
 unfold cellsOf at zc zc2
 have hlr : hr (lvs L) ++ [hc (lfH s)] = hr (lvs (L ++ [s])) := by simp [lvs, hr]
 have hsr : strs L ++ [[.str s]] = strs (L ++ [s]) := by simp [strs]
 have hrt : t ≠ r := z3b ht hg (a := z1e true seed (keyL seed)) (b := pbC (.ptr t 0 0) lg lv L.length z hs') rfl rfl (by rw [z6j, z23]; simp [pbC])
 have hshr : ∀ q, sh = some q -> q ≠ r := fun q e => by
  rcases h3 with ⟨e2, _⟩ | ⟨q', e2, hn, rfl, hgq⟩
  ·rw [e2] at e; cases e
  ·rw [e2] at e; cases e
   obtain ⟨a, ha, hal⟩ := zce (H := H) (fun e => hn (by rw [e]; rfl))
   exact z3b hgq hg ha (b := pbC (.ptr t 0 0) lg lv L.length z _) rfl (by rw [hal]; simp [pbC])
 unfold pbC at hg
 refine ACallsP.of_keepW q22ok (by simp) fun hw => ?_
 have hk3 : ∀ (G : Store), (∀ j, j < Y.length -> j ≠ r -> sl ≠ some j -> sv ≠ some j -> G[j]? = Y[j]?) -> RowAt 36 G sh hs' (hdrs H) := fun G hk => h3.keep fun j e => hk j (h3.lt e) (hshr j e) (h3.ne2 z3e h1 z7g (by omega) j e) (h3.ne2 z3e h2 hr_w (by omega) j e)
 by_cases hL0 : L = []
 ·subst hL0
  rcases h1 with ⟨rfl, _, rfl⟩ | ⟨q, _, hn, _⟩
  ·rcases h2 with ⟨rfl, _, rfl⟩ | ⟨q, _, hn, _⟩
   ·have fin : AppendP Y r seed [] H (r :: t :: (Option.toList none ++ (Option.toList none ++ Option.toList sh))) s (.int .i64 0) ((Y.set r (some [[AV.ptr t 0 0, AV.sl (Y.length + 2) 0 1 none 1, AV.sl (Y.length + 3) 0 1 none 32, AV.int .i64 (1 : Nat), z2, hs']])) ++
      [some [hc (lfH s)], some [[AV.int .i64 (1 : Nat), z2]], some [[AV.str s]], some [hc (lfH s)]]) := by
     have hst : ∀ j, j < Y.length -> j ≠ r -> (none : Option Nat) ≠ some j -> (none : Option Nat) ≠ some j -> ((Y.set r (some [[AV.ptr t 0 0, AV.sl (Y.length + 2) 0 1 none 1, AV.sl (Y.length + 3) 0 1 none 32, AV.int .i64 (1 : Nat), z2, hs']])) ++
      [some [hc (lfH s)], some [[AV.int .i64 (1 : Nat), z2]], some [[AV.str s]], some [hc (lfH s)]])[j]? = Y[j]? := fun j hj hjr _ _ => by rw [gapp (by simpa using hj), z1d (fun e => hjr e.symm)]
     refine .ok (q1 := Y.length + 2) (q2 := Y.length + 3) (z2 := z2) (hs := hs') h200 ?_ ?_ ?_ ?_ hz3 (hk3 _ hst) (by omega) (by omega) (by simp) hst
     ·rw [gapp (by simpa using d), z22 d]; rfl
     ·rw [gapp (by simpa using d2), z1d (fun e => hrt e.symm)]; exact ht
     ·rw [z1a (by simp)]; simp [strs]
     ·rw [z1a (by simp)]; simp [lvs, hr]
    repeat' (first|apply zs_|apply zb_|apply zc_|apply zt_ rfl|apply zf_ rfl|(refine zd_ rfl (fun ht => ?_) (fun ht => ?_)<;>try (exfalso;omega))|((first|apply zr_|apply zk_|apply ze_|apply zq_|(apply callW.mk_pu; (first | exact (fun _ => hN) | exact (fun _ => hLf _))) | (apply callW.za; (first | exact (hN) | exact (hLf _))) | ((first|apply zg0|apply zg1|apply zg2|apply zg3|apply zg4|apply zg5|apply zg6|apply zg7)<;>intro ht));all_goals try simp (disch:=first|omega|(simp only [lens,z7,z6,lQr,lQm,lQt,lQd,z8,zg,zj];first|done|omega)) only [go_sem,nQ1,nQ2,nQ3,nQ4,nQ5,nQ6,nQ7,nQ8,hg,r1,hfull,h200',c3,zc,zc2]))
    refine zW.reg2 ?_ ?_
    ·simp (disch:=first|omega|(simp only [lens,z7,z6,lQr,lQm,lQt,lQd,z8,zg,zj];first|done|omega)) only [go_sem,nQ1,nQ2,nQ3,nQ4,nQ5,nQ6,nQ7,nQ8,hg,zc,zc2,c3]
     repeat' (first|apply zs_|apply zb_|apply zc_|apply zt_ rfl|apply zf_ rfl|(refine zd_ rfl (fun ht => ?_) (fun ht => ?_)<;>try (exfalso;omega))|((first|apply zr_|apply zk_|apply ze_|apply zq_|(apply callW.mk_pu; (first | exact (fun _ => hA _))) | (apply callW.za; (first | exact (hA _))) | ((first|apply zg0|apply zg1|apply zg2|apply zg3|apply zg4|apply zg5|apply zg6|apply zg7)<;>intro ht));all_goals try simp (disch:=first|omega|(simp only [lens,z7,z6,lQr,lQm,lQt,lQd,z8,zg,zj];first|done|omega)) only [go_sem,nQ1,nQ2,nQ3,nQ4,nQ5,nQ6,nQ7,nQ8,hg,zc,zc2,c3]))
     exact fin
    ·simp (disch:=first|omega|(simp only [lens,z7,z6,lQr,lQm,lQt,lQd,z8,zg,zj];first|done|omega)) only [go_sem,nQ1,nQ2,nQ3,nQ4,nQ5,nQ6,nQ7,nQ8,hg,zc,zc2,c3]
     repeat' (first|apply zs_|apply zb_|apply zc_|apply zt_ rfl|apply zf_ rfl|(refine zd_ rfl (fun ht => ?_) (fun ht => ?_)<;>try (exfalso;omega))|((first|apply zr_|apply zk_|apply ze_|apply zq_|(apply callW.mk_pu; (first | exact (fun _ => hA _))) | (apply callW.za; (first | exact (hA _))) | ((first|apply zg0|apply zg1|apply zg2|apply zg3|apply zg4|apply zg5|apply zg6|apply zg7)<;>intro ht));all_goals try simp (disch:=first|omega|(simp only [lens,z7,z6,lQr,lQm,lQt,lQd,z8,zg,zj];first|done|omega)) only [go_sem,nQ1,nQ2,nQ3,nQ4,nQ5,nQ6,nQ7,nQ8,hg,zc,zc2,c3]))
     exact fin
   ·exact absurd rfl hn
  ·exact absurd rfl hn
 ·have hrl := zcn hL0
  have hsl := z92 hL0
  rcases h1 with ⟨_, h0, _⟩ | ⟨q1, rfl, _, rfl, hq1⟩
  ·exact absurd h0 hsl
  rcases h2 with ⟨_, h0, _⟩ | ⟨q2, rfl, _, rfl, hq2⟩
  ·exact absurd h0 hrl
  have e1 := slen hq1
  have e2 := slen hq2
  obtain ⟨a1, ha1, la1⟩ := ze3 hL0
  obtain ⟨a2, ha2, la2⟩ := zgd (l := lvs L) (fun e => hrl (by rw [e]; rfl))
  have n1 : q1 ≠ r := z3b hq1 hgC ha1 (b := pbC (.ptr t 0 0) _ _ L.length z hs') rfl (by simp [pbC]; omega)
  have n2 : q2 ≠ r := z3b hq2 hgC ha2 (b := pbC (.ptr t 0 0) _ _ L.length z hs') rfl (by simp [pbC]; omega)
  have n3 : q1 ≠ q2 := z3b hq1 hq2 ha1 ha2 (by omega)
  have n4 : q1 ≠ t := z3b hq1 ht ha1 (b := z1e true seed (keyL seed)) rfl (by rw [z6j, z23]; omega)
  have n5 : q2 ≠ t := z3b hq2 ht ha2 (b := z1e true seed (keyL seed)) rfl (by rw [z6j, z23]; omega)
  have n1' := n1.symm
  have n2' := n2.symm
  have n3' := n3.symm
  have l1 := zg L
  have l2 : (hr (lvs L)).length = L.length := by rw [z6, zj]
  have hLn : ¬ L.length = 0 := fun e => hL0 (List.eq_nil_of_length_eq_zero e)
  have fin : ∀ G, G = (((List.set Y q1 none).set q2 none).set r (some [[AV.ptr t 0 0, AV.sl (Y.length + 2) 0 (L.length + 1) none 1, AV.sl (Y.length + 3) 0 (L.length + 1) none 32, AV.int .i64 ((L.length + 1 : Nat) : Int), z2, hs']]) ++
    [some [hc (lfH s)], some [[AV.int .i64 ((L.length + 1 : Nat) : Int), z2]], some (strs L ++ [[AV.str s]]), some (hr (lvs L) ++ [hc (lfH s)])]) ->
    AppendP Y r seed L H (r :: t :: (Option.toList (some q1) ++ (Option.toList (some q2) ++ Option.toList sh))) s (.int .i64 0) G := by
   rintro G rfl
   have hst : ∀ j, j < Y.length -> j ≠ r -> (some q1 : Option Nat) ≠ some j -> (some q2 : Option Nat) ≠ some j -> (((List.set Y q1 none).set q2 none).set r (some [[AV.ptr t 0 0, AV.sl (Y.length + 2) 0 (L.length + 1) none 1, AV.sl (Y.length + 3) 0 (L.length + 1) none 32, AV.int .i64 ((L.length + 1 : Nat) : Int), z2, hs']]) ++
     [some [hc (lfH s)], some [[AV.int .i64 ((L.length + 1 : Nat) : Int), z2]], some (strs L ++ [[AV.str s]]), some (hr (lvs L) ++ [hc (lfH s)])])[j]? = Y[j]? := fun j hj hjr h1 h2 => by
    rw [gapp (by simpa using hj), z1d (fun e => hjr e.symm), z1d (fun e => h2 (by rw [e])), z1d (fun e => h1 (by rw [e]))]
   refine .ok (q1 := Y.length + 2) (q2 := Y.length + 3) (z2 := z2) (hs := hs') h200 ?_ ?_ ?_ ?_ hz3 (hk3 _ hst) (by omega) (by omega) (by simp) hst
   ·rw [gapp (by simpa using d), z22 (by simpa using d)]; rfl
   ·rw [hst t d2 hrt (fun e => n4 (by simpa using e)) (fun e => n5 (by simpa using e))]; exact ht
   ·rw [z1a (by simp)]; simp [strs]
   ·rw [z1a (by simp)]; simp [lvs, hr]
  repeat' (first|apply zs_|apply zb_|apply zc_|apply zt_ rfl|apply zf_ rfl|(refine zd_ rfl (fun ht => ?_) (fun ht => ?_)<;>try (exfalso;omega))|((first|apply zr_|apply zk_|apply ze_|apply zq_|(apply callW.mk_pu; (first | exact (fun _ => hN) | exact (fun _ => hLf _))) | (apply callW.za; (first | exact (hN) | exact (hLf _))) | ((first|apply zg0|apply zg1|apply zg2|apply zg3|apply zg4|apply zg5|apply zg6|apply zg7)<;>intro ht));all_goals try simp (disch:=first|omega|(simp only [lens,z7,z6,lQr,lQm,lQt,lQd,z8,zg,zj];first|done|omega)) only [go_sem,nQ1,nQ2,nQ3,nQ4,nQ5,nQ6,nQ7,nQ8,hg,r1,hfull,h200',c3,zc,zc2]))
  refine zW.reg2 ?_ ?_
  ·simp (disch:=first|omega|(simp only [lens,z7,z6,lQr,lQm,lQt,lQd,z8,zg,zj];first|done|omega)) only [go_sem,nQ1,nQ2,nQ3,nQ4,nQ5,nQ6,nQ7,nQ8,hg,zc,zc2,c3]
   repeat' (first|apply zs_|apply zb_|apply zc_|apply zt_ rfl|apply zf_ rfl|(refine zd_ rfl (fun ht => ?_) (fun ht => ?_)<;>try (exfalso;omega))|((first|apply zr_|apply zk_|apply ze_|apply zq_|(apply callW.mk_pu; (first | exact (fun _ => hA _))) | (apply callW.za; (first | exact (hA _))) | ((first|apply zg0|apply zg1|apply zg2|apply zg3|apply zg4|apply zg5|apply zg6|apply zg7)<;>intro ht));all_goals try simp (disch:=first|omega|(simp only [lens,z7,z6,lQr,lQm,lQt,lQd,z8,zg,zj];first|done|omega)) only [go_sem,nQ1,nQ2,nQ3,nQ4,nQ5,nQ6,nQ7,nQ8,hg,zc,zc2,c3,hq1,hq2,n1,n2,n3,n1',n2',n3',l1,l2]))
   exact fin _ rfl
  ·simp (disch:=first|omega|(simp only [lens,z7,z6,lQr,lQm,lQt,lQd,z8,zg,zj];first|done|omega)) only [go_sem,nQ1,nQ2,nQ3,nQ4,nQ5,nQ6,nQ7,nQ8,hg,zc,zc2,c3]
   repeat' (first|apply zs_|apply zb_|apply zc_|apply zt_ rfl|apply zf_ rfl|(refine zd_ rfl (fun ht => ?_) (fun ht => ?_)<;>try (exfalso;omega))|((first|apply zr_|apply zk_|apply ze_|apply zq_|(apply callW.mk_pu; (first | exact (fun _ => hA _))) | (apply callW.za; (first | exact (hA _))) | ((first|apply zg0|apply zg1|apply zg2|apply zg3|apply zg4|apply zg5|apply zg6|apply zg7)<;>intro ht));all_goals try simp (disch:=first|omega|(simp only [lens,z7,z6,lQr,lQm,lQt,lQd,z8,zg,zj];first|done|omega)) only [go_sem,nQ1,nQ2,nQ3,nQ4,nQ5,nQ6,nQ7,nQ8,hg,zc,zc2,c3,hq1,hq2,n1,n2,n3,n1',n2',n3',l1,l2]))
   exact fin _ rfl
end
section
def mkH (seed : List UInt8) (i : Nat) (M : List (List UInt8)) : Hdr := ⟨M.length, z18 (lvs M), i, ksgS seed i (digH M.length (z18 (lvs M))).1, z1i (keyL seed) i⟩
theorem zak (seed : List UInt8) (i : Nat) : (z1i (keyL seed) i).length = 3 := by unfold z1i; rw [List.length_reverse, zd2 _ i (z23 seed)]
theorem zno (seed : List UInt8) (i : Nat) (M : List (List UInt8)) (hi : i < 8) (hM : M.length <= 4096) : za9 (z18 (keyL seed)) (mkH seed i M).n (mkH seed i M).i (mkH seed i M).r (mkH seed i M).s (mkH seed i M).p = 0 := by
 have hv : z99 (mkH seed i M).n (mkH seed i M).i (mkH seed i M).s (mkH seed i M).p = true := decide_eq_true ⟨by simp only [mkH]; omega, by simp only [mkH]; omega, by simp only [mkH]; omega, by simp only [mkH]; omega, zgo _ _ _, zak _ _⟩
 unfold za9
 rw [hv, if_neg (by simp)]
 exact if_pos (ztd seed i hi _)
def pubN (H : List Hdr) : Int := ((H[H.length - 1]?).map Hdr.n).getD 0
structure PubOk (seed : List UInt8) (L : List (List UInt8)) (H : List Hdr) : Prop where
 len : H.length <= 8
 at' : ∀ i h, H[i]? = some h -> ∃ n, h = mkH seed i (L.take n) /\ 0 < n /\ n <= L.length
 up : ∀ i h h', H[i]? = some h -> H[i + 1]? = some h' -> h.n < h'.n
theorem PubOk.nil (seed : List UInt8) : PubOk seed [] [] := ⟨by simp, by simp, by simp⟩
theorem PubOk.app {seed : List UInt8} {L : List (List UInt8)} {H : List Hdr} (h : PubOk seed L H) (M : List (List UInt8)) : PubOk seed (L ++ M) H := by
 refine ⟨h.len, fun i x hx => ?_, h.up⟩
 obtain ⟨n, e, h0, hn⟩ := h.at' i x hx
 exact ⟨n, by rw [List.take_append_of_le_length hn]; exact e, h0, by rw [List.length_append]; omega⟩
theorem PubOk.path {seed : List UInt8} {L : List (List UInt8)} {H : List Hdr} (h : PubOk seed L H) : ∀ x ∈ H, x.p.length < 1000000 := by
 intro x hx
 obtain ⟨i, hi⟩ := List.mem_iff_getElem?.1 hx
 obtain ⟨n, rfl, _, _⟩ := h.at' i x hi
 show (z1i (keyL seed) i).length < 1000000
 rw [zak]; omega
def puE (L : List (List UInt8)) (H : List Hdr) : Int := if 8 <= H.length then 85 else if (L.length : Int) = pubN H then 83 else 0
def puV (seed : List UInt8) (L : List (List UInt8)) (H : List Hdr) : AV := .tup [.agg (if puE L H = 0 then hdrC (mkH seed H.length L) else sgZ), .int .i64 (puE L H)]
def puH (seed : List UInt8) (L : List (List UInt8)) (H : List Hdr) : List Hdr := if puE L H = 0 then H ++ [mkH seed H.length L] else H
theorem PubOk.lastle {seed : List UInt8} {L : List (List UInt8)} {H : List Hdr} (h : PubOk seed L H) : 0 <= pubN H /\ pubN H <= L.length := by
 unfold pubN
 cases e : H[H.length - 1]? with
 | none => simp
 | some x =>
  obtain ⟨n, rfl, h0, hn⟩ := h.at' _ x e
  show 0 <= ((L.take n).length : Int) /\ ((L.take n).length : Int) <= _
  rw [List.length_take]; omega
theorem PubOk.pub {seed : List UInt8} {L : List (List UInt8)} {H : List Hdr} (h : PubOk seed L H) : PubOk seed L (puH seed L H) := by
 unfold puH
 by_cases he : puE L H = 0
 ·rw [if_pos he]
  unfold puE at he
  have h8 : ¬ 8 <= H.length := fun e => by rw [if_pos e] at he; omega
  rw [if_neg h8] at he
  have hl : ¬ (L.length : Int) = pubN H := fun e => by rw [if_pos e] at he; omega
  obtain ⟨l0, l1⟩ := h.lastle
  refine ⟨by rw [List.length_append]; simp; omega, fun i x hx => ?_, fun i x y hx hy => ?_⟩
  ·by_cases hi : i < H.length
   ·rw [List.getElem?_append_left hi] at hx
    exact h.at' i x hx
   ·rw [List.getElem?_append_right (by omega)] at hx
    obtain ⟨hi0, rfl⟩ := List.getElem?_eq_some_iff.1 hx
    have : i = H.length := by simp at hi0; omega
    subst this
    exact ⟨L.length, by simp, by omega, Nat.le_refl _⟩
  ·by_cases hi : i + 1 < H.length
   ·rw [List.getElem?_append_left hi] at hy
    rw [List.getElem?_append_left (by omega)] at hx
    exact h.up i x y hx hy
   ·rw [List.getElem?_append_right (by omega)] at hy
    obtain ⟨hi0, rfl⟩ := List.getElem?_eq_some_iff.1 hy
    simp at hi0
    rw [List.getElem?_append_left (by omega)] at hx
    have : pubN H = x.n := by
     unfold pubN
     rw [show H.length - 1 = i by omega, hx]; rfl
    simp only [List.getElem_singleton]
    show x.n < (L.length : Int)
    omega
 ·rw [if_neg he]; exact h
def PublishP (Y : Store) (r : Nat) (seed : List UInt8) (L : List (List UInt8)) (H : List Hdr) (own : List Nat) (a : AV) (Y' : Store) : Prop :=
 a = puV seed L H /\ ∃ own', Fr Y Y' own own' /\ PubIs Y' r seed L (puH seed L H) own'
theorem zgb (A B : List Hdr) : hdrs (A ++ B) = hdrs A ++ hdrs B := by simp [hdrs]
theorem PublishP.ok {Y Y' : Store} {r t q : Nat} {seed : List UInt8} {L : List (List UInt8)} {H : List Hdr} {lg lv z hs : AV} {sl sv sh : Option Nat} (he : puE L H = 0)
  (hg0 : Y[r]? = some (some [pbC (.ptr t 0 0) lg lv L.length z hs])) (ht0 : Y[t]? = some (some [z1e true seed (keyL seed)])) (h1 : RowAt 1 Y sl lg (strs L)) (h2 : RowAt 32 Y sv lv (hr (lvs L))) (h3 : RowAt 36 Y sh hs (hdrs H))
  (hg : Y'[r]? = some (some [pbC (.ptr t 0 0) lg lv L.length z (.sl q 0 (H.length + 1) none 36)])) (hz : SlV 32 (hr (ofR (lvs L)).reverse) z)
  (hq : Y'[q]? = some (some (hdrs (H ++ [mkH seed H.length L])))) (hqn : Y.length <= q) (hle : Y.length <= Y'.length) (hst : ∀ j, j < Y.length -> j ≠ r -> sh ≠ some j -> Y'[j]? = Y[j]?) :
  PublishP Y r seed L H (r :: t :: (Option.toList sl ++ (Option.toList sv ++ Option.toList sh))) (.tup [.agg (hdrC (mkH seed H.length L)), .int .i64 0]) Y' := by
 refine ⟨by unfold puV; rw [he, if_pos rfl], r :: t :: (Option.toList sl ++ (Option.toList sv ++ Option.toList (some q))), ⟨fun j hj hn => ?_, fun j hj => ?_, hle⟩, ?_⟩
 ·simp only [List.mem_cons, List.mem_append, Option.mem_toList, not_or] at hn
  exact hst j hj hn.1 (fun e => hn.2.2.2.2 e)
 ·simp only [List.mem_cons, List.mem_append, Option.mem_toList, Option.some.injEq] at hj ⊢
  rcases hj with h | h | h | h | h
  ·exact .inl (.inl h)
  ·exact .inl (.inr (.inl h))
  ·exact .inl (.inr (.inr (.inl h)))
  ·exact .inl (.inr (.inr (.inr (.inl h))))
  ·exact .inr (by omega)
 ·unfold puH
  rw [if_pos he]
  have hne : H ++ [mkH seed H.length L] ≠ [] := by simp
  have hpl : (pbC (.ptr t 0 0) lg lv L.length z hs).length = 6 := rfl
  have htl : (z1e true seed (keyL seed)).length = 258 := by rw [z6j, z23]
  have hrt : t ≠ r := z3b ht0 hg0 (a := z1e true seed (keyL seed)) (b := pbC (.ptr t 0 0) lg lv L.length z hs) rfl rfl (by omega)
  refine ⟨t, lg, lv, z, _, sl, sv, some q, rfl, hg, by rw [hst t (slen ht0) hrt fun e => h3.ne z3e ht0 (b := z1e true seed (keyL seed)) rfl (by omega) t e rfl]; exact ht0, h1.keep fun j e => hst j (h1.lt e) ?_ ?_, h2.keep fun j e => hst j (h2.lt e) ?_ ?_, hz, .inr ⟨q, rfl, z8i hne, ?_, hq⟩⟩
  ·exact h1.ne z7g hg0 (b := pbC (.ptr t 0 0) lg lv L.length z hs) rfl (by omega) j e
  ·exact h1.ne2 z7g h3 z3e (by omega) j e
  ·exact h2.ne hr_w hg0 (b := pbC (.ptr t 0 0) lg lv L.length z hs) rfl (by omega) j e
  ·exact h2.ne2 hr_w h3 z3e (by omega) j e
  ·rw [zi, List.length_append]; rfl
theorem PublishP.no {Y : Store} {r : Nat} {seed : List UInt8} {L : List (List UInt8)} {H : List Hdr} {own : List Nat} {e : Int} (hT : PubIs Y r seed L H own) (he : puE L H = e) (h0 : e ≠ 0) : PublishP Y r seed L H own (.tup [.agg sgZ, .int .i64 e]) Y := by
 subst he
 exact ⟨by unfold puV; rw [if_neg h0], own, .ext (.refl _), by unfold puH; rw [if_neg h0]; exact hT⟩
theorem PublishP.is {Y : Store} {r : Nat} {seed : List UInt8} {L : List (List UInt8)} {H : List Hdr} {own : List Nat} (hT : PubIs Y r seed L H own) : ∃ a Y', PublishP Y r seed L H own a Y' := by
 by_cases he : puE L H = 0
 ·obtain ⟨t, lg, lv, z, hs, sl, sv, sh, rfl, hg, ht, h1, h2, hz, h3⟩ := hT
  have d := slen hg
  refine ⟨_, (Y.set r (some [pbC (.ptr t 0 0) lg lv L.length z (.sl Y.length 0 (H.length + 1) none 36)])) ++ [some (hdrs (H ++ [mkH seed H.length L]))], .ok (q := Y.length) he hg ht h1 h2 h3 ?_ hz ?_ (Nat.le_refl _) (by simp) fun j hj hjr _ => ?_⟩
  ·rw [gapp (by simpa using d), z22 d]
  ·rw [z1a (by simp)]; simp
  ·rw [gapp (by simpa using hj), z1d (fun e => hjr e.symm)]
 ·exact ⟨_, Y, .no hT rfl he⟩
@[go_sem] theorem sgC_set33 (n : Int) (r : Hash) (i j : Int) (s u : List UInt8) (x v : AV) : (sgC n r i s x).take 33 ++ .int .i64 j :: .str u :: v :: (sgC n r i s x).drop 36 = sgC n r j u v := by
 rw [zrw, z8z]; rfl
theorem zb0 (n : Int) (r : Hash) (i : Int) (s : List UInt8) (x : AV) : AV.int .i64 n :: (hc r ++ [AV.int .i64 i, .str s, x]) = sgC n r i s x := rfl
attribute [local irreducible] ACallsTo ACallsP
set_option maxHeartbeats 16000000 in
theorem zao (Y : Store) (r : Nat) (seed : List UInt8) (L : List (List UInt8)) (H : List Hdr) (own : List Nat) (hT : PubIs Y r seed L H own) (hok : PubOk seed L H) (hL : L.length <= 4096) (hs : seed.length < 1000000) :
  ACallsP TC 29 [.ptr r 0 0] Y (PublishP Y r seed L H own) := by
 have hT' := hT
 obtain ⟨t, lg, lv, z, hs', sl, sv, sh, rfl, hg, ht, h1, h2, hz, h3⟩ := hT'
 have hp := hok.path
 have hlen := hok.len
 have r1 := h1.rd.len
 rw [zg] at r1
 by_cases h8 : H.length = 8
 ·rcases h3 with ⟨_, h0, rfl⟩ | ⟨q, rfl, hn, rfl, hgq⟩
  ·have := congrArg List.length h0
   rw [zi] at this; simp at this; rw [this] at h8; simp at h8
  ·rw [zi] at hg
   exact (zqd Y r t q lg lv z L.length H hg hgq h8 hp).toP (.no hT (by unfold puE; rw [if_pos (by omega)]) (by omega))
 by_cases hold : (L.length : Int) = pubN H
 ·have he : puE L H = 83 := by unfold puE; rw [if_neg (by omega), if_pos hold]
  rcases h3 with ⟨_, h0, rfl⟩ | ⟨q, rfl, hn, rfl, hgq⟩
  ·have hH : H = [] := by have := congrArg List.length h0; rw [zi] at this; exact List.eq_nil_of_length_eq_zero this
   subst hH
   have hL0 : L = [] := List.eq_nil_of_length_eq_zero (by simp [pubN] at hold; rw [hold]; rfl)
   subst hL0
   rcases h1 with ⟨_, _, rfl⟩ | ⟨_, _, hn, _⟩
   ·exact (zqe Y r t lv z _ hg).toP (.no hT he (by omega))
   ·exact absurd rfl hn
  ·have hn0 : H ≠ [] := fun e => hn (by rw [e]; rfl)
   rw [zi] at hg
   refine (zqf Y r t q lg lv z L.length H L.length hg hgq hn0 (by omega) hp r1 fun x hx => ?_).toP (.no hT he (by omega))
   rw [hold]; unfold pubN; rw [hx]; rfl
 have he : puE L H = 0 := by unfold puE; rw [if_neg (by omega), if_neg hold]
 have d := slen hg
 have d2 := slen ht
 have hg0 := hg
 have hN := fun y => z56 (Y ++ y) r t lg lv z hs' L.length (by rw [gapp d]; exact hg)
 have c3 := h3.cells
 have zc := z91 hz
 have hRt := fun Y' => Root_h Y' (L.length : Int) (ofR (lvs L)).reverse z (.of hz) (by rw [List.length_reverse, zag _ (by rw [zj]; omega)]; have := zd4 13 (lvs L).length; omega) (by omega)
 have hval : z3n (L.length : Int) (ofR (lvs L)).reverse.length = true := decide_eq_true ⟨by omega, by omega, by rw [Int.toNat_natCast, pc13 (by omega), List.length_reverse, zag _ (by rw [zj]; omega), zj]⟩
 unfold z6d at hRt
 rw [if_neg (by rw [hval]; simp), List.reverse_reverse, zh0 ((lvs L).length + 1) (lvs L) (by omega)] at hRt
 have hD := fun Y => zee Y (L.length : Int) (z18 (lvs L))
 have hS := fun y => zt3 (Y ++ y) t seed (keyL seed) H.length (digH L.length (z18 (lvs L))) (by rw [gapp d2]; exact ht) (z23 seed) (by omega) hs
 have hC := fun Y => zfk Y L.length (z18 (lvs L)) H.length (ksgS seed H.length (digH L.length (z18 (lvs L))).1) (z1i (keyL seed) H.length) _ (.of (z3d _ _)) (by rw [zak]; omega)
 have hmk : sgC L.length (z18 (lvs L)) H.length (ksgS seed H.length (digH L.length (z18 (lvs L))).1) (z12 32 (hr (z1i (keyL seed) H.length))) = hdrC (mkH seed H.length L) := rfl
 have h3' := h3
 have hHn := fun y => z8q (Y ++ y) r t H hs' lg lv z L.length (by rw [gapp d]; exact hg)
 unfold z7c at hS
 unfold z1j at r1
 unfold cellsOf at c3 zc
 refine ACallsP.of_keepW zap (by simp) fun hw => ?_
 rcases h3 with ⟨rfl, h0, rfl⟩ | ⟨q, rfl, hn, rfl, hgq⟩
 ·have hH : H = [] := by have := congrArg List.length h0; rw [zi] at this; exact List.eq_nil_of_length_eq_zero this
  subst hH
  have hL0 : ¬ (L.length : Int) = 0 := by simpa [pubN] using hold
  have hH := fun y => hHn y (.inl ⟨rfl, rfl⟩) (by simp) hp
  rw [show z12 36 (hdrs []) = .nilsl from rfl] at hH
  unfold pbC at hg
  repeat' (first|apply zs_|apply zb_|apply zc_|apply zt_ rfl|apply zf_ rfl|(refine zd_ rfl (fun ht => ?_) (fun ht => ?_)<;>try (exfalso;omega))|((first|apply zr_|apply zk_|apply ze_|apply zq_|(apply callW.mk_pu; (first | exact (fun _ => hN _) | exact (fun _ => hH _) | exact (fun _ => hRt _) | exact (fun _ => hD _) | exact (fun _ => hS _) | exact (fun _ => hC _))) | (apply callW.za; (first | exact (hN _) | exact (hH _) | exact (hRt _) | exact (hD _) | exact (hS _) | exact (hC _))) | ((first|apply zg0|apply zg1|apply zg2|apply zg3|apply zg4|apply zg5|apply zg6|apply zg7)<;>intro ht));all_goals try simp (disch:=first|omega|(simp only [lens,z7,z6,lQr,lQm,lQt,lQd,z8,zg,zj,zi,zm];first|done|omega)) only [go_sem,nQ1,nQ2,nQ3,nQ4,nQ5,nQ6,nQ7,nQ8,hg,r1,hL0,zc,c3,zb0,z8z]))
  refine PublishP.ok (q := Y.length + 3) he hg0 ht h1 h2 h3' ?_ hz ?_ (by omega) (by simp) fun j hj hjr hjs => ?_
  ·rw [gapp (by simpa using d), z22 d]; rfl
  ·rw [z1a (by simp)]
   simp only [List.length_set, Nat.add_sub_cancel_left]; rfl
  ·rw [gapp (by simpa using hj), z1d (fun e => hjr e.symm)]
 ·have h0 : H ≠ [] := fun e => hn (by rw [e]; rfl)
  have dq := slen hgq
  have hl0 : H.length ≠ 0 := fun e => h0 (List.eq_nil_of_length_eq_zero e)
  have hne : hdrs H ≠ [] := z8i h0
  have hdl := zi H
  have hgi := z8h (H := H) (i := H.length - 1) (by omega)
  have hk' : pubN H = (H[H.length - 1]'(by omega)).n := by
   unfold pubN
   rw [List.getElem?_eq_getElem (by omega)]; rfl
  rw [hk'] at hold
  generalize H[H.length - 1]'(by omega) = h at *
  have hc0 : (hdrC h)[0]? = some (.int .i64 h.n) := rfl
  have hcl := zm h
  have hH := fun y => hHn y (.inr ⟨q, h0, by rw [hdl], by rw [gapp dq]; exact hgq⟩) (by omega) hp
  rw [show z12 36 (hdrs H) = .vsl 36 (hdrs H) false by unfold z12; rw [if_neg hne]] at hH
  have e1 : ((H.length : Int) - 1).toNat = H.length - 1 := by omega
  have e8 : ¬ (H.length : Int) >= 8 := by omega
  have e0 : (H.length : Int) > 0 := by omega
  have hqr : q ≠ r := h3'.ne z3e hg0 (b := pbC (.ptr t 0 0) lg lv L.length z _) rfl (by simp [pbC]) q rfl
  have hqt : q ≠ t := h3'.ne z3e ht (b := z1e true seed (keyL seed)) rfl (by rw [z6j, z23]; omega) q rfl
  have hqr' := hqr.symm
  unfold pbC at hg
  rw [hdl] at hg
  repeat' (first|apply zs_|apply zb_|apply zc_|apply zt_ rfl|apply zf_ rfl|(refine zd_ rfl (fun ht => ?_) (fun ht => ?_)<;>try (exfalso;omega))|((first|apply zr_|apply zk_|apply ze_|apply zq_|(apply callW.mk_pu; (first | exact (fun _ => hN _) | exact (fun _ => hH _) | exact (fun _ => hRt _) | exact (fun _ => hD _) | exact (fun _ => hS _) | exact (fun _ => hC _))) | (apply callW.za; (first | exact (hN _) | exact (hH _) | exact (hRt _) | exact (hD _) | exact (hS _) | exact (hC _))) | ((first|apply zg0|apply zg1|apply zg2|apply zg3|apply zg4|apply zg5|apply zg6|apply zg7)<;>intro ht));all_goals try simp (disch:=first|omega|(simp only [lens,z7,z6,lQr,lQm,lQt,lQd,z8,zg,zj,zi,zm];first|done|omega)) only [go_sem,nQ1,nQ2,nQ3,nQ4,nQ5,nQ6,nQ7,nQ8,hg,hgq,hdl,hgi,hc0,hcl,e1,e8,e0,r1,hold,zc,c3,hqr,hqr',zb0,z8z]))
  refine PublishP.ok (q := Y.length + 3) he hg0 ht h1 h2 h3' ?_ hz ?_ (by omega) (by simp) fun j hj hjr hjs => ?_
  ·rw [gapp (by simpa using d), z22 (by simpa using d)]; rfl
  ·rw [z1a (by simp), zgb]
   simp only [List.length_set, Nat.add_sub_cancel_left]; rfl
  ·rw [gapp (by simpa using hj), z1d (fun e => hjr e.symm), z1d (fun e => hjs (by rw [e]))]
end
section
attribute [local irreducible] ACallsTo ACallsP
theorem zhh (Y : Store) (seed : List UInt8) : PubIs (Y ++ [some [z1e true seed (keyL seed)], some [pbC (.ptr Y.length 0 0) .nilsl .nilsl 0 .nilsl .nilsl]]) (Y.length + 1) seed [] [] [Y.length + 1, Y.length] := by
 refine ⟨Y.length, .nilsl, .nilsl, .nilsl, .nilsl, none, none, none, rfl, ?_, ?_, .inl ⟨rfl, rfl, rfl⟩, .inl ⟨rfl, rfl, rfl⟩, .inl ⟨rfl, rfl⟩, .inl ⟨rfl, rfl, rfl⟩⟩
 ·rw [z1a (by omega), Nat.add_sub_cancel_left]; rfl
 ·rw [z1a (by omega), Nat.sub_self]; rfl
theorem PubIs.key {Y : Store} {r : Nat} {seed : List UInt8} {L : List (List UInt8)} {H : List Hdr} {own : List Nat} (h : PubIs Y r seed L H own) : ACallsTo TC 25 [.ptr r 0 0] Y (.agg (hc (z18 (keyL seed)))) Y := by
 obtain ⟨t, lg, lv, z, hs, sl, sv, sh, rfl, hg, ht, h1, h2, hz, h3⟩ := h
 exact zqb Y r t seed (keyL seed) lg lv z hs L.length hg ht (z23 seed)
theorem PubIs.log {Y : Store} {r : Nat} {seed : List UInt8} {L : List (List UInt8)} {H : List Hdr} {own : List Nat} (h : PubIs Y r seed L H own) (hL : L.length < 1000000) : ACallsTo TC 32 [.ptr r 0 0] Y (z12 1 (strs L)) Y := by
 obtain ⟨t, lg, lv, z, hs, sl, sv, sh, rfl, hg, ht, h1, h2, hz, h3⟩ := h
 refine zqc Y r t L lg lv z hs L.length hg ?_ hL
 rcases h1 with ⟨_, e, rfl⟩ | ⟨q, _, hn, rfl, hq⟩
 ·refine .inl ⟨?_, rfl⟩
  have := congrArg List.length e
  rw [zg] at this
  exact List.eq_nil_of_length_eq_zero this
 ·exact .inr ⟨q, fun e => hn (by rw [e]; rfl), by rw [zg], hq⟩
theorem PubIs.heads {Y : Store} {r : Nat} {seed : List UInt8} {L : List (List UInt8)} {H : List Hdr} {own : List Nat} (h : PubIs Y r seed L H own) (hok : PubOk seed L H) : ACallsTo TC 34 [.ptr r 0 0] Y (z12 36 (hdrs H)) Y := by
 obtain ⟨t, lg, lv, z, hs, sl, sv, sh, rfl, hg, ht, h1, h2, hz, h3⟩ := h
 refine z8q Y r t H hs lg lv z L.length hg ?_ (by have := hok.len; omega) hok.path
 rcases h3 with ⟨_, e, rfl⟩ | ⟨q, _, hn, rfl, hq⟩
 ·refine .inl ⟨?_, rfl⟩
  have := congrArg List.length e
  rw [zi] at this
  exact List.eq_nil_of_length_eq_zero this
 ·exact .inr ⟨q, fun e => hn (by rw [e]; rfl), by rw [zi], hq⟩
def srcV (L : List (List UInt8)) (h : Hdr) (n : Nat) : AV := .agg [.vsl 1 (strs (L.take n)) false, .vsl 32 (hr (lvs (L.take n))) false, .vsl 36 [hdrC h] true, .nilsl]
set_option maxHeartbeats 8000000 in
theorem PubIs.source {Y : Store} {r : Nat} {seed : List UInt8} {L : List (List UInt8)} {H : List Hdr} {own : List Nat} (h : PubIs Y r seed L H own) (hok : PubOk seed L H) (hL : L.length < 1000000) (x : Hdr) (n : Nat) (hx : H[H.length - 1]? = some x) (hn : x.n = n) (hn0 : 0 < n) (hn1 : n <= L.length) :
  ACallsTo TC 36 [.ptr r 0 0] Y (srcV L x n) Y := by
 have hH := fun y => (h.ext (Y' := Y ++ y) ⟨y, rfl⟩).heads hok
 have hLg := fun y => (h.ext (Y' := Y ++ y) ⟨y, rfl⟩).log hL
 obtain ⟨t, lg, lv, z, hs, sl, sv, sh, rfl, hg, ht, h1, h2, hz, h3⟩ := h
 have d := slen hg
 have hl8 := hok.len
 have hHl : ¬ H.length = 0 := fun e => by rw [List.eq_nil_of_length_eq_zero e] at hx; simp at hx
 have hne : hdrs H ≠ [] := z8i fun e => hHl (by rw [e]; rfl)
 have hLne : L ≠ [] := fun e => by rw [e] at hn1; simp at hn1; omega
 have hdl := zi H
 have hgi : (hdrs H)[H.length - 1]? = some (hdrC x) := by unfold hdrs; rw [List.getElem?_map, hx]; rfl
 have e1 : ((H.length : Int) - 1).toNat = H.length - 1 := by omega
 have e8 : ¬ (H.length : Int) = 0 := by omega
 have hc0 : (hdrC x)[0]? = some (.int .i64 n) := by rw [<- hn]; rfl
 have hcl := zm x
 rw [show z12 36 (hdrs H) = .vsl 36 (hdrs H) false by unfold z12; rw [if_neg hne]] at hH
 rw [show z12 1 (strs L) = .vsl 1 (strs L) false by unfold z12; rw [if_neg (z92 hLne)]] at hLg
 rcases h2 with ⟨_, e, _⟩ | ⟨q, _, hnv, rfl, hq⟩
 ·exact absurd e (zcn hLne)
 have dq := slen hq
 have l2 : (hr (lvs L)).length = L.length := by rw [z6, zj]
 have tk : (hr (lvs L)).take n = hr (lvs (L.take n)) := by simp [hr, lvs, List.map_take]
 rw [l2] at hg
 have hn0' : ¬ n = 0 := by omega
 unfold pbC at hg
 refine ACallsTo.of_body q20ok (by simp) fun hw _ => ?_
 repeat' (first|apply zs_|apply zb_|apply zc_|apply zt_ rfl|apply zf_ rfl|(refine zd_ rfl (fun ht => ?_) (fun ht => ?_)<;>try (exfalso;omega))|((first|apply zr_|apply zk_|apply ze_|apply zq_|(apply callW.mk_pu; (first | exact (fun _ => hH _) | exact (fun _ => hLg _))) | (apply callW.za; (first | exact (hH _) | exact (hLg _))) | ((first|apply zg0|apply zg1|apply zg2|apply zg3|apply zg4|apply zg5|apply zg6|apply zg7)<;>intro ht));all_goals try simp (disch:=first|omega|(simp only [lens,z7,z6,lQr,lQm,lQt,lQd,z8,zg,zj,zi,zm];first|done|omega)) only [go_sem,nQ1,nQ2,nQ3,nQ4,nQ5,nQ6,nQ7,nQ8,hg,hq,hdl,hgi,hc0,hcl,e1,e8,l2,tk,hn0',Int.toNat_natCast,zir]))
 have htl : lvs (L.take n) = (lvs L).take n := by simp [lvs, List.map_take]
 unfold srcV
 rw [htl]
 simp only [Nat.sub_zero, Bool.false_and]
 refine DownV.all hw (drA (drsc (FrzD.same (by simp only [RL]; exact z6c _)) (drsc ?_ (drsc (FrzD.same (by simp only [RL, RLss]; exact ⟨zdi x, trivial⟩)) (drs1 (FrzD.same (by simp [RL])))))))
 rw [<- z6]
 exact FrzD.sl (o := hr ((lvs L).take n)) (off := 0) (by omega) (by rw [z1a (by omega), Nat.add_sub_cancel_left]; rfl) (by omega) (by simp) (z1w _)
end
section
theorem puV_0 (seed : List UInt8) : puV seed [] [] = .tup [.agg sgZ, .int .i64 83] /\ puH seed [] [] = [] := by
 have e : puE [] [] = 83 := by simp [puE, pubN]
 exact ⟨by unfold puV; rw [e, if_neg (by omega)], by unfold puH; rw [e, if_neg (by omega)]⟩
theorem puV_1 (seed : List UInt8) (s : List UInt8) : puV seed [s] [] = .tup [.agg (hdrC (mkH seed 0 [s])), .int .i64 0] /\ puH seed [s] [] = [mkH seed 0 [s]] := by
 have e : puE [s] [] = 0 := by simp [puE, pubN]
 exact ⟨by unfold puV; rw [e, if_pos rfl]; rfl, by unfold puH; rw [e, if_pos rfl]; rfl⟩
theorem puV_2 (seed : List UInt8) (s : List UInt8) : puV seed [s] [mkH seed 0 [s]] = .tup [.agg sgZ, .int .i64 83] /\ puH seed [s] [mkH seed 0 [s]] = [mkH seed 0 [s]] := by
 have e : puE [s] [mkH seed 0 [s]] = 83 := by simp [puE, pubN, mkH]
 exact ⟨by unfold puV; rw [e, if_neg (by omega)], by unfold puH; rw [e, if_neg (by omega)]⟩
theorem PubOk.one (seed : List UInt8) (s : List UInt8) (M : List (List UInt8)) : PubOk seed (s :: M) [mkH seed 0 [s]] := by
 refine ⟨by simp, fun i h hi => ?_, fun i h h' hi hi' => by simp at hi'⟩
 match i, hi with
 | 0, hi =>
  simp only [List.getElem?_cons_zero, Option.some.injEq] at hi
  exact ⟨1, by rw [<- hi]; simp, by omega, by simp⟩
 | i + 1, hi => simp at hi
theorem PubOk.none1 (seed : List UInt8) (L : List (List UInt8)) : PubOk seed L [] := ⟨by simp, by simp, by simp⟩
attribute [local irreducible] ACallsTo ACallsP
theorem znn (Y : Store) (seed : List UInt8) (i : Nat) (M : List (List UInt8)) (hi : i < 8) (hM : M.length <= 4096) : ACallsTo TC 48 [.agg (hc (z18 (keyL seed))), .agg (hdrC (mkH seed i M))] Y (.int .i64 0) Y := by
 have h := zjf Y (z18 (keyL seed)) (mkH seed i M).n (mkH seed i M).i (mkH seed i M).r (mkH seed i M).s (mkH seed i M).p _ (.of (z3d _ _))
 rw [zno seed i M hi hM] at h
 exact h
theorem apE_s {s : List UInt8} (h : s.length <= 200) : apE s = 0 := by unfold apE; rw [if_neg (by omega)]
theorem apL_s {L : List (List UInt8)} {s : List UInt8} (h : s.length <= 200) : apL L s = L ++ [s] := by unfold apL; rw [if_neg (by omega)]
theorem zmf (h : Hdr) : (hdrC h)[0]? = some (.int .i64 h.n) := rfl
theorem zmg (h : Hdr) : ((hdrC h).drop 1).take 32 = hc h.r := zry _ _ _ _ _
theorem zaa (h : Hdr) : (hdrC h).take 36 = hdrC h := List.take_of_length_le (by rw [zm]; omega)
set_option maxHeartbeats 16000000 in
theorem zsb : ACallsTo TC 22 [] [] (.bool true) [] := by
 have hNew := fun Y => zhi Y [115, 101, 101, 100] (by simp)
 have P0 := zhh [] [115, 101, 101, 100]
 refine ACallsTo.of_body q1yok (by simp) fun hw _ => ?_
 repeat' (first|apply zs_|apply zb_|apply zc_|apply zt_ rfl|apply zf_ rfl|(refine zd_ rfl (fun ht => ?_) (fun ht => ?_)<;>try (exfalso;omega))|((first|apply zr_|apply zk_|apply ze_|apply zq_|(apply callW.mk_pu; (first | exact (fun _ => hNew _))) | (apply callW.za; (first | exact (hNew _))) | ((first|apply zg0|apply zg1|apply zg2|apply zg3|apply zg4|apply zg5|apply zg6|apply zg7)<;>intro ht));all_goals try simp (disch:=first|omega|(simp only [lens,z7,z6,lQr,lQm,lQt,lQd,z8,zg,zj,zi,zm];first|done|omega)) only [go_sem,nQ1,nQ2,nQ3,nQ4,nQ5,nQ6,nQ7,nQ8]))
 simp only [List.nil_append, List.length_nil, Nat.zero_add] at P0 ⊢
 have hsl : ([115, 101, 101, 100] : List UInt8).length < 1000000 := by simp
 generalize ([115, 101, 101, 100] : List UInt8) = seed at *
 generalize [some [z1e true seed (keyL seed)], some [pbC (.ptr 0 0 0) .nilsl .nilsl 0 .nilsl .nilsl]] = Y1 at *
 refine callW.mkP (caps := []) (zao Y1 1 seed [] [] _ P0 (.nil seed) (by simp) hsl) (PublishP.is P0) ?_
 rintro v Y2 ⟨rfl, own2, fr2, P2⟩
 rw [(puV_0 seed).2] at P2
 rw [(puV_0 seed).1]
 simp (disch:=first|omega|(simp only [lens,z7,z6,lQr,lQm,lQt,lQd,z8,zg,zj,zi,zm];first|done|omega)) only [go_sem,nQ1,nQ2,nQ3,nQ4,nQ5,nQ6,nQ7,nQ8]
 repeat' (first|apply zs_|apply zb_|apply zc_|apply zt_ rfl|apply zf_ rfl|(refine zd_ rfl (fun ht => ?_) (fun ht => ?_)<;>try (exfalso;omega))|((first|apply zr_|apply zk_|apply ze_|apply zq_|((first|apply zg0|apply zg1|apply zg2|apply zg3|apply zg4|apply zg5|apply zg6|apply zg7)<;>intro ht));all_goals try simp (disch:=first|omega|(simp only [lens,z7,z6,lQr,lQm,lQt,lQd,z8,zg,zj,zi,zm];first|done|omega)) only [go_sem,nQ1,nQ2,nQ3,nQ4,nQ5,nQ6,nQ7,nQ8]))
 have hza : (sgZ ++ List.drop sgZ.length ([] : List AV)) = sgZ := by simp
 generalize hX : (some [sgZ ++ List.drop sgZ.length _] : Option AObj) = x1
 have P2' := P2.ext (Y' := Y2 ++ [x1]) ⟨_, rfl⟩
 refine callW.mkP (caps := []) (zd6 _ 1 seed [] [] own2 [97] P2' (by simp) (by simp)) (AppendP.is P2') ?_
 rintro v Y3 ⟨rfl, own3, fr3, P3⟩
 rw [apL_s (by simp), List.nil_append] at P3
 rw [apE_s (by simp)]
 simp (disch:=first|omega|(simp only [lens,z7,z6,lQr,lQm,lQt,lQd,z8,zg,zj,zi,zm];first|done|omega)) only [go_sem,nQ1,nQ2,nQ3,nQ4,nQ5,nQ6,nQ7,nQ8]
 repeat' (first|apply zs_|apply zb_|apply zc_|apply zt_ rfl|apply zf_ rfl|(refine zd_ rfl (fun ht => ?_) (fun ht => ?_)<;>try (exfalso;omega))|((first|apply zr_|apply zk_|apply ze_|apply zq_|((first|apply zg0|apply zg1|apply zg2|apply zg3|apply zg4|apply zg5|apply zg6|apply zg7)<;>intro ht));all_goals try simp (disch:=first|omega|(simp only [lens,z7,z6,lQr,lQm,lQt,lQd,z8,zg,zj,zi,zm];first|done|omega)) only [go_sem,nQ1,nQ2,nQ3,nQ4,nQ5,nQ6,nQ7,nQ8]))
 refine callW.mkP (caps := []) (zao Y3 1 seed [[97]] [] own3 P3 (.none1 _ _) (by simp) hsl) (PublishP.is P3) ?_
 rintro v Y4 ⟨rfl, own4, fr4, P4⟩
 rw [(puV_1 seed [97]).2] at P4
 rw [(puV_1 seed [97]).1]
 have hm0 := zmf (mkH seed 0 [[97]])
 have hmr := zmg (mkH seed 0 [[97]])
 have hma := zaa (mkH seed 0 [[97]])
 have hml := zm (mkH seed 0 [[97]])
 have hmc := fun Y => znn Y seed 0 [[97]] (by omega) (by simp)
 rw [show (mkH seed 0 [[97]]).n = 1 from rfl] at hm0
 rw [show (mkH seed 0 [[97]]).r = lfH [97] from rfl] at hmr
 have ok4 : PubOk seed [[97]] [mkH seed 0 [[97]]] := .one seed [97] []
 have ok6 : PubOk seed [[97], [98]] [mkH seed 0 [[97]]] := .one seed [97] [[98]]
 have pv := puV_2 seed [97]
 have hsx : ([mkH seed 0 [[97]]] : List Hdr)[[mkH seed 0 [[97]]].length - 1]? = some (mkH seed 0 [[97]]) := rfl
 have hmn : (mkH seed 0 [[97]]).n = (1 : Nat) := rfl
 generalize mkH seed 0 [[97]] = m at *
 simp (disch:=first|omega|(simp only [lens,z7,z6,lQr,lQm,lQt,lQd,z8,zg,zj,zi,zm];first|done|omega)) only [go_sem,nQ1,nQ2,nQ3,nQ4,nQ5,nQ6,nQ7,nQ8,hml]
 repeat' (first|apply zs_|apply zb_|apply zc_|apply zt_ rfl|apply zf_ rfl|(refine zd_ rfl (fun ht => ?_) (fun ht => ?_)<;>try (exfalso;omega))|((first|apply zr_|apply zk_|apply ze_|apply zq_|((first|apply zg0|apply zg1|apply zg2|apply zg3|apply zg4|apply zg5|apply zg6|apply zg7)<;>intro ht));all_goals try simp (disch:=first|omega|(simp only [lens,z7,z6,lQr,lQm,lQt,lQd,z8,zg,zj,zi,zm];first|done|omega)) only [go_sem,nQ1,nQ2,nQ3,nQ4,nQ5,nQ6,nQ7,nQ8,hml]))
 have P4' := P4.ext (Y' := Y4 ++ [some [hdrC m]]) ⟨_, rfl⟩
 refine callW.mkP (caps := []) (zao _ 1 seed [[97]] [m] own4 P4' ok4 (by simp) hsl) (PublishP.is P4') ?_
 rintro v Y5 ⟨rfl, own5, fr5, P5⟩
 rw [pv.2] at P5
 rw [pv.1]
 have hs5 : Y5[Y4.length]? = some (some [hdrC m]) := fr5.get (by simp) fun h => by have := P4.lt h; omega
 have d5 := slen hs5
 simp (disch:=first|omega|(simp only [lens,z7,z6,lQr,lQm,lQt,lQd,z8,zg,zj,zi,zm];first|done|omega)) only [go_sem,nQ1,nQ2,nQ3,nQ4,nQ5,nQ6,nQ7,nQ8,hml]
 repeat' (first|apply zs_|apply zb_|apply zc_|apply zt_ rfl|apply zf_ rfl|(refine zd_ rfl (fun ht => ?_) (fun ht => ?_)<;>try (exfalso;omega))|((first|apply zr_|apply zk_|apply ze_|apply zq_|((first|apply zg0|apply zg1|apply zg2|apply zg3|apply zg4|apply zg5|apply zg6|apply zg7)<;>intro ht));all_goals try simp (disch:=first|omega|(simp only [lens,z7,z6,lQr,lQm,lQt,lQd,z8,zg,zj,zi,zm];first|done|omega)) only [go_sem,nQ1,nQ2,nQ3,nQ4,nQ5,nQ6,nQ7,nQ8,hml]))
 generalize hX2 : (some [sgZ ++ List.drop sgZ.length _] : Option AObj) = x2
 have P5' := P5.ext (Y' := Y5 ++ [x2]) ⟨_, rfl⟩
 refine callW.mkP (caps := []) (zd6 _ 1 seed [[97]] [m] own5 [98] P5' (by simp) (by simp)) (AppendP.is P5') ?_
 rintro v Y6 ⟨rfl, own6, fr6, P6⟩
 rw [apL_s (by simp)] at P6
 rw [apE_s (by simp)]
 change PubIs Y6 1 seed [[97], [98]] [m] own6 at P6
 have hs6 : Y6[Y4.length]? = some (some [hdrC m]) := fr6.get (by rw [gapp d5]; exact hs5) fun h => by
  rcases fr5.new _ h with h | h
  ·have := P4.lt h; omega
  ·simp at h; omega
 have d6 := slen hs6
 have hSrc := P6.source ok6 (by simp) m 1 hsx hmn (by omega) (by simp)
 rw [show srcV [[97], [98]] m 1 = .agg [.vsl 1 [[.str [97]]] false, .vsl 32 (hr (lvs [[97]])) false, .vsl 36 [hdrC m] true, .nilsl] from rfl] at hSrc
 have hKey := fun y => (P6.ext (Y' := Y6 ++ y) ⟨_, rfl⟩).key
 have hLog := fun y => (P6.ext (Y' := Y6 ++ y) ⟨_, rfl⟩).log (by simp)
 have hHd := fun y => (P6.ext (Y' := Y6 ++ y) ⟨_, rfl⟩).heads ok6
 rw [show z12 1 (strs [[97], [98]]) = .vsl 1 [[.str [97]], [.str [98]]] false from rfl] at hLog
 rw [show z12 36 (hdrs [m]) = .vsl 36 [hdrC m] false from rfl] at hHd
 have hLf := fun Y => zis Y [97] (by simp)
 simp (disch:=first|omega|(simp only [lens,z7,z6,lQr,lQm,lQt,lQd,z8,zg,zj,zi,zm];first|done|omega)) only [go_sem,nQ1,nQ2,nQ3,nQ4,nQ5,nQ6,nQ7,nQ8]
 repeat' (first|apply zs_|apply zb_|apply zc_|apply zt_ rfl|apply zf_ rfl|(refine zd_ rfl (fun ht => ?_) (fun ht => ?_)<;>try (exfalso;omega))|((first|apply zr_|apply zk_|apply ze_|apply zq_|(apply callW.mk_pu; (first | exact (fun _ => hSrc) | exact (fun _ => hLf _) | exact (fun _ => hKey _) | exact (fun _ => hmc _) | exact (fun _ => hLog _) | exact (fun _ => hHd _))) | (apply callW.za; (first | exact (hSrc) | exact (hLf _) | exact (hKey _) | exact (hmc _) | exact (hLog _) | exact (hHd _))) | ((first|apply zg0|apply zg1|apply zg2|apply zg3|apply zg4|apply zg5|apply zg6|apply zg7)<;>intro ht));all_goals try simp (disch:=first|omega|(simp only [lens,z7,z6,lQr,lQm,lQt,lQd,z8,zg,zj,zi,zm];first|done|omega)) only [go_sem,nQ1,nQ2,nQ3,nQ4,nQ5,nQ6,nQ7,nQ8,hs6,hm0,hmr,hma,hml]))
 exact DownV.pure (G := []) (news := _) hw (z14 _ rfl)
theorem z7e (Y : Store) : ACallsTo TC 22 [] Y (.bool true) Y := ACallsTo.frame glok zsb (by simp [RLs]) Y
end
section
structure Act22 where
 k : Int
 s : List UInt8
def ac22 (a : Act22) : List AV := [.int .u8 a.k, .str a.s]
def Act22.Ok (a : Act22) : Prop := 0 <= a.k /\ a.k <= 255
def z68 (l : List Act22) (n : Int) : Bool := l.any (fun a => decide (300 < a.s.length)) || decide (n < l.length)
theorem zm5 {l : List Act22} {n : Int} (h : z68 l n = false) : (l.length : Int) <= n /\ ∀ a ∈ l, a.s.length <= 300 := by
 unfold z68 at h
 simp only [Bool.or_eq_false_iff, decide_eq_false_iff_not, List.any_eq_false, decide_eq_true_eq] at h
 exact ⟨by omega, fun a ha => by have := h.1 a ha; omega⟩
theorem zeu {l : List Act22} {i : Nat} {a : Act22} (h : l[i]? = some a) : (l.map ac22)[i]? = some [.int .u8 a.k, .str a.s] := by rw [List.getElem?_map, h]; rfl
attribute [local irreducible] ACallsTo ACallsP
set_option maxHeartbeats 4000000 in
theorem zje (Y : Store) (l : List Act22) (n : Int) (y : AV) (hy : SlV 2 (l.map ac22) y) (hl : l.length < 9223372036854775808) : ACallsTo TC 21 [y, .int .i64 n] Y (.bool (z68 l n)) Y := by
 have r1 := hy.len
 rw [List.length_map] at r1
 unfold z1j at r1
 refine ACallsTo.of_body q25ok (by simp) fun hw _ => ?_
 repeat' (first|apply zs_|apply zb_|apply zc_|apply zt_ rfl|apply zf_ rfl|(refine zd_ rfl (fun ht => ?_) (fun ht => ?_)<;>try (exfalso;omega))|((first|apply zr_|apply zk_|apply ze_|apply zq_|((first|apply zg0|apply zg1|apply zg2|apply zg3|apply zg4|apply zg5|apply zg6|apply zg7)<;>intro ht));all_goals try simp (disch:=first|omega|(simp only [lens,z7,z6,lQr,lQm,lQt,lQd,z8,zg,zj,zi,zm];first|done|omega)) only [go_sem,nQ1,nQ2,nQ3,nQ4,nQ5,nQ6,nQ7,nQ8,r1]))
 refine zW.loop (fun m O Y' => ∃ i : Nat, m + i = l.length /\ Y' = Y /\ (l.take i).any (fun a => decide (300 < a.s.length)) = false /\ O 0 = y /\ O 1 = .int .i64 n /\ O 5 = .int .i64 i) l.length ?_ ?_
 ·exact ⟨0, by omega, rfl, by simp, by simp (disch:=first|omega|(simp only [lens,z7,z6,lQr,lQm,lQt,lQd,z8,zg,zj,zi,zm];first|done|omega)) only [go_sem,nQ1,nQ2,nQ3,nQ4,nQ5,nQ6,nQ7,nQ8],by simp (disch:=first|omega|(simp only [lens,z7,z6,lQr,lQm,lQt,lQd,z8,zg,zj,zi,zm];first|done|omega)) only [go_sem,nQ1,nQ2,nQ3,nQ4,nQ5,nQ6,nQ7,nQ8],by simp (disch:=first|omega|(simp only [lens,z7,z6,lQr,lQm,lQt,lQd,z8,zg,zj,zi,zm];first|done|omega)) only [go_sem,nQ1,nQ2,nQ3,nQ4,nQ5,nQ6,nQ7,nQ8]; rfl⟩
 ·rintro m O Y' ⟨i, hm, rfl, ht, q0, q1, q5⟩
  by_cases hi : i < l.length
  ·obtain ⟨ex, rfl⟩ := hy.vsl (by rw [List.length_map]; omega)
   obtain ⟨a, hal⟩ : ∃ a, l[i]? = some a := ⟨_, List.getElem?_eq_getElem hi⟩
   have ham : a ∈ l := List.mem_of_getElem? hal
   have hg := zeu hal
   by_cases h2 : 300 < a.s.length
   ·have hb : z68 l n = true := by
     unfold z68
     rw [List.any_eq_true.2 ⟨a, ham, decide_eq_true h2⟩]; rfl
    rw [hb]
    have h2' : (a.s.length : Int) > 300 := by omega
    repeat' (first|apply zs_|apply zb_|apply zc_|apply zt_ rfl|apply zf_ rfl|(refine zd_ rfl (fun ht => ?_) (fun ht => ?_)<;>try (exfalso;omega))|((first|apply zr_|apply zk_|apply ze_|apply zq_|((first|apply zg0|apply zg1|apply zg2|apply zg3|apply zg4|apply zg5|apply zg6|apply zg7)<;>intro ht));all_goals try simp (disch:=first|omega|(simp only [lens,z7,z6,lQr,lQm,lQt,lQd,z8,zg,zj,zi,zm];first|done|omega)) only [go_sem,nQ1,nQ2,nQ3,nQ4,nQ5,nQ6,nQ7,nQ8,q0,q1,q5,hg,r1,h2']))
    exact DownV.same hw z2b
   ·have h2' : ¬ (a.s.length : Int) > 300 := by omega
    have ht2 : (l.take (i + 1)).any (fun a => decide (300 < a.s.length)) = false := by
     rw [List.take_add_one, hal, List.any_append, ht]
     simp [h2]
     try omega
    repeat' (first|apply zs_|apply zb_|apply zc_|apply zt_ rfl|apply zf_ rfl|(refine zd_ rfl (fun ht => ?_) (fun ht => ?_)<;>try (exfalso;omega))|((first|apply zr_|apply zk_|apply ze_|apply zq_|((first|apply zg0|apply zg1|apply zg2|apply zg3|apply zg4|apply zg5|apply zg6|apply zg7)<;>intro ht));all_goals try simp (disch:=first|omega|(simp only [lens,z7,z6,lQr,lQm,lQt,lQd,z8,zg,zj,zi,zm];first|done|omega)) only [go_sem,nQ1,nQ2,nQ3,nQ4,nQ5,nQ6,nQ7,nQ8,q0,q1,q5,hg,r1,h2']))
    exact ⟨m - 1, by omega, i + 1, by omega, ht2, by simp⟩
  ·obtain rfl : i = l.length := by omega
   rw [List.take_of_length_le (Nat.le_refl _)] at ht
   unfold z68
   rw [ht, Bool.false_or]
   by_cases h6 : n < l.length
   ·rw [decide_eq_true h6]
    have h6' : (l.length : Int) > n := by omega
    repeat' (first|apply zs_|apply zb_|apply zc_|apply zt_ rfl|apply zf_ rfl|(refine zd_ rfl (fun ht => ?_) (fun ht => ?_)<;>try (exfalso;omega))|((first|apply zr_|apply zk_|apply ze_|apply zq_|((first|apply zg0|apply zg1|apply zg2|apply zg3|apply zg4|apply zg5|apply zg6|apply zg7)<;>intro ht));all_goals try simp (disch:=first|omega|(simp only [lens,z7,z6,lQr,lQm,lQt,lQd,z8,zg,zj,zi,zm];first|done|omega)) only [go_sem,nQ1,nQ2,nQ3,nQ4,nQ5,nQ6,nQ7,nQ8,q0,q1,q5,r1,h6']))
    exact DownV.same hw z2b
   ·rw [decide_eq_false h6]
    have h6' : ¬ (l.length : Int) > n := by omega
    repeat' (first|apply zs_|apply zb_|apply zc_|apply zt_ rfl|apply zf_ rfl|(refine zd_ rfl (fun ht => ?_) (fun ht => ?_)<;>try (exfalso;omega))|((first|apply zr_|apply zk_|apply ze_|apply zq_|((first|apply zg0|apply zg1|apply zg2|apply zg3|apply zg4|apply zg5|apply zg6|apply zg7)<;>intro ht));all_goals try simp (disch:=first|omega|(simp only [lens,z7,z6,lQr,lQm,lQt,lQd,z8,zg,zj,zi,zm];first|done|omega)) only [go_sem,nQ1,nQ2,nQ3,nQ4,nQ5,nQ6,nQ7,nQ8,q0,q1,q5,r1,h6']))
    exact DownV.same hw z2b
end
section
theorem zjz (L : List (List UInt8)) (s : List UInt8) : (apL L s).length <= L.length + 1 := by
 unfold apL; split
 ·omega
 ·simp
theorem apL_ok {seed : List UInt8} {L : List (List UInt8)} {H : List Hdr} (h : PubOk seed L H) (s : List UInt8) : PubOk seed (apL L s) H := by
 unfold apL; split
 ·exact h
 ·exact h.app [s]
theorem zk0 {L : List (List UInt8)} {s x : List UInt8} (h : x ∈ apL L s) : x ∈ L \/ (x = s /\ ¬ 200 < s.length) := by
 unfold apL at h
 split at h
 ·exact .inl h
 ·rename_i h0
  rcases List.mem_append.1 h with h | h
  ·exact .inl h
  ·exact .inr ⟨by simpa using h, h0⟩
attribute [local irreducible] ACallsTo ACallsP
def z7v : Ty := .row [.int .u8, .str]
theorem zjw {cs : List AV} (h : ShC z7v cs) : ∃ a : Act22, cs = ac22 a /\ a.Ok /\ a.s.length <= maxLen := by
 simp only [z7v, ShC, z5k] at h
 obtain ⟨A, B, rfl, hA, C, D, rfl, hC, rfl⟩ := h
 obtain ⟨k, rfl, k1, k2⟩ := hA
 obtain ⟨s, rfl, hs⟩ := hC
 simp only [IntKind.min, IntKind.max, IntKind.signed, IntKind.bits] at k1 k2
 simp at k1 k2
 exact ⟨⟨k, s⟩, rfl, ⟨k1, k2⟩, hs⟩
theorem zjx {x : AV} (h : ShC (.sl 2 z7v) [x]) : ∃ l : List Act22, SlV 2 (l.map ac22) x /\ l.length <= maxLen /\ ∀ a ∈ l, a.Ok := by
 simp only [ShC] at h
 rcases h with h | ⟨es, h, hl, _, h2⟩
 ·cases h
  exact ⟨[], .inl ⟨rfl, rfl⟩, Nat.zero_le _, by simp⟩
 ·cases h
  have : ∀ es : List (List AV), (∀ x ∈ es, ShC z7v x) -> ∃ l : List Act22, es = l.map ac22 /\ ∀ a ∈ l, a.Ok := by
   intro es
   induction es with
   | nil => intro _; exact ⟨[], rfl, by simp⟩
   | cons e es ih =>
    intro h
    obtain ⟨a, rfl, ha, _⟩ := zjw (h e (by simp))
    obtain ⟨l, rfl, hl⟩ := ih fun x hx => h x (by simp [hx])
    exact ⟨a :: l, rfl, fun b hb => by rcases List.mem_cons.1 hb with rfl | h1; exact ha; exact hl b h1⟩
  obtain ⟨l, rfl, hok⟩ := this es h2
  exact ⟨l, .inr ⟨false, rfl⟩, by rwa [List.length_map] at hl, hok⟩
end
section
set_option maxRecDepth 10000
@[go_sem] def q29r0 : List AIns := [
 ⟨some 4,none,.no,.mv (.v (.bool false))⟩]
@[go_sem] def q29r1 : List AIns := [
 ⟨some 12,none,.no,.mv (.t 1)⟩,
 ⟨some 13,none,.no,.call (.v (.fn 21 [])) [(.t 12), (.v (.int .i64 60))]⟩,
 ⟨some 14,none,.no,.mv (.t 13)⟩,
 ⟨some 15, some (14, false), .no, .mv (.t 0)⟩,
 ⟨some 16, some (14, false), .no, .lenStr (.t 15)⟩,
 ⟨some 17, some (14, false), .no, .bin .gtr .none (.t 16) (.v (.int .i64 100))⟩,
 ⟨some 18,none,.no,.pick (.t 14) (.v (.bool true)) (.t 17)⟩]
@[go_sem] def q29r2 : List AIns := [
 ⟨some 19,none,.no,.call (.v (.fn 22 [])) []⟩,
 ⟨some 4,none,.no,.mv (.t 19)⟩]
def q29c3 : ACode := .seq (.reg q29r2) .ret
def q29c4 : ACode := .cond (.t 18) q29c3 .skip
def q29c5 : ACode := .seq (.reg q29r1) q29c4
@[go_sem] def q29r6 : List AIns := [
 ⟨some 20,none,.no,.mv (.t 0)⟩,
 ⟨some 21,none,.no,.call (.v (.fn 23 [])) [(.t 20)]⟩,
 ⟨some 22,none,.no,.mv (.t 0)⟩,
 ⟨some 23,none,.no,.call (.v (.fn 24 [])) [(.t 22)]⟩,
 ⟨some 5,none,.no,.mv (.t 21)⟩,
 ⟨some 6,none,.no,.mv (.t 23)⟩]
@[go_sem] def q29r7 : List AIns := [
 ⟨some 24,none,.no,.mv (.t 5)⟩,
 ⟨some 25,none,.no,.call (.v (.fn 25 [])) [(.t 24)]⟩,
 ⟨some 26,none,.no,.mv (.t 6)⟩,
 ⟨some 27,none,.no,.call (.v (.fn 26 [])) [(.t 26)]⟩,
 ⟨some 28,none,.no,.bin .neq (.agg (List.replicate 32 (.i .u8) ++ [])) (.t 25) (.t 27)⟩]
@[go_sem] def q29r8 : List AIns := [
 ⟨some 4,none,.no,.mv (.v (.bool false))⟩]
def q29c9 : ACode := .seq (.reg q29r8) .ret
def q29c10 : ACode := .cond (.t 28) q29c9 .skip
def q29c11 : ACode := .seq (.reg q29r7) q29c10
@[go_sem] def q29r12 : List AIns := [
 ⟨some 7,none,.no,.mv (.v (.int .i64 0))⟩]
@[go_sem] def q29r13 : List AIns := [
 ⟨some 29,none,.no,.mv (.t 7)⟩,
 ⟨some 30,none,.no,.mv (.t 1)⟩,
 ⟨some 31,none,.no,.lenSl (.t 30)⟩,
 ⟨some 32,none,.no,.bin .lss .none (.t 29) (.t 31)⟩]
def q29c14 : ACode := .cond (.t 32) .skip (.exit 0)
def q29c15 : ACode := .seq (.reg q29r13) q29c14
@[go_sem] def q29r16 : List AIns := [
 ⟨some 35,none,.no,.mv (.t 1)⟩,
 ⟨some 36,none,.no,.mv (.t 7)⟩,
 ⟨some 37,none,.no,.iaSl 2 (.t 35) (.t 36)⟩,
 ⟨some 38,none,.no,.fa 0 (.t 37)⟩,
 ⟨some 39,none,.no,.load false 1 (.t 38)⟩,
 ⟨some 40,none,.no,.bin .rem .none (.t 39) (.v (.int .u8 5))⟩,
 ⟨some 41,none,.no,.bin .lss .none (.t 40) (.v (.int .u8 4))⟩]
@[go_sem] def q29r17 : List AIns := [
 ⟨some 42,none,.no,.mv (.t 5)⟩,
 ⟨some 43,none,.no,.mv (.t 1)⟩,
 ⟨some 44,none,.no,.mv (.t 7)⟩,
 ⟨some 45,none,.no,.iaSl 2 (.t 43) (.t 44)⟩,
 ⟨some 46,none,.no,.fa 1 (.t 45)⟩,
 ⟨some 47, none, .rd, .load false 1 (.t 46)⟩,
 ⟨some 48, none, .ef, .call (.v (.fn 27 [])) [(.t 42), (.t 47)]⟩,
 ⟨some 49,none,.no,.mv (.t 6)⟩,
 ⟨some 50,none,.no,.mv (.t 1)⟩,
 ⟨some 51,none,.no,.mv (.t 7)⟩,
 ⟨some 52,none,.no,.iaSl 2 (.t 50) (.t 51)⟩,
 ⟨some 53,none,.no,.fa 1 (.t 52)⟩,
 ⟨some 54, none, .rd, .load false 1 (.t 53)⟩,
 ⟨some 55,none,.no,.call (.v (.fn 28 [])) [(.t 49), (.t 54)]⟩,
 ⟨some 56,none,.no,.bin .neq .none (.t 48) (.t 55)⟩]
@[go_sem] def q29r18 : List AIns := [
 ⟨some 4,none,.no,.mv (.v (.bool false))⟩]
def q29c19 : ACode := .seq (.reg q29r18) .ret
def q29c20 : ACode := .cond (.t 56) q29c19 .skip
def q29c21 : ACode := .seq (.reg q29r17) q29c20
def q29c22 : ACode := .seq q29c21 (.exit 1)
def q29c23 : ACode := .cond (.t 41) q29c22 .skip
def q29c24 : ACode := .seq (.reg q29r16) q29c23
@[go_sem] def q29r25 : List AIns := [
 ⟨some 58,none,.no,.mv (.t 5)⟩,
 ⟨some 59,none,.no,.call (.v (.fn 29 [])) [(.t 58)]⟩,
 ⟨some 57,none,.no,.mv (.t 59)⟩,
 ⟨some 60,none,.no,.ext 0 (.t 57)⟩,
 ⟨some 61,none,.no,.ext 1 (.t 57)⟩,
 ⟨some 8,none,.no,.alloc [(.int .i64 0), (.int .u8 0), (.int .u8 0), (.int .u8 0), (.int .u8 0), (.int .u8 0), (.int .u8 0), (.int .u8 0), (.int .u8 0), (.int .u8 0), (.int .u8 0), (.int .u8 0), (.int .u8 0), (.int .u8 0), (.int .u8 0), (.int .u8 0), (.int .u8 0), (.int .u8 0), (.int .u8 0), (.int .u8 0), (.int .u8 0), (.int .u8 0), (.int .u8 0), (.int .u8 0), (.int .u8 0), (.int .u8 0), (.int .u8 0), (.int .u8 0), (.int .u8 0), (.int .u8 0), (.int .u8 0), (.int .u8 0), (.int .u8 0), (.int .i64 0), (.str []), .nilsl]⟩,
 ⟨none,none,.no,.store 36 (.t 8) (.t 60)⟩,
 ⟨some 9,none,.no,.mv (.t 61)⟩]
@[go_sem] def q29r26 : List AIns := [
 ⟨some 63,none,.no,.mv (.t 6)⟩,
 ⟨some 64,none,.no,.call (.v (.fn 30 [])) [(.t 63)]⟩,
 ⟨some 62,none,.no,.mv (.t 64)⟩,
 ⟨some 65,none,.no,.ext 0 (.t 62)⟩,
 ⟨some 66,none,.no,.ext 1 (.t 62)⟩,
 ⟨some 10,none,.no,.alloc [(.int .i64 0), (.int .u8 0), (.int .u8 0), (.int .u8 0), (.int .u8 0), (.int .u8 0), (.int .u8 0), (.int .u8 0), (.int .u8 0), (.int .u8 0), (.int .u8 0), (.int .u8 0), (.int .u8 0), (.int .u8 0), (.int .u8 0), (.int .u8 0), (.int .u8 0), (.int .u8 0), (.int .u8 0), (.int .u8 0), (.int .u8 0), (.int .u8 0), (.int .u8 0), (.int .u8 0), (.int .u8 0), (.int .u8 0), (.int .u8 0), (.int .u8 0), (.int .u8 0), (.int .u8 0), (.int .u8 0), (.int .u8 0), (.int .u8 0), (.int .i64 0), (.str []), .nilsl]⟩,
 ⟨none,none,.no,.store 36 (.t 10) (.t 65)⟩,
 ⟨some 11,none,.no,.mv (.t 66)⟩]
@[go_sem] def q29r27 : List AIns := [
 ⟨some 67,none,.no,.mv (.t 9)⟩,
 ⟨some 68,none,.no,.mv (.t 11)⟩,
 ⟨some 69,none,.no,.bin .neq .none (.t 67) (.t 68)⟩,
 ⟨some 70,none,.no,.mv (.t 69)⟩,
 ⟨some 71, some (70, false), .no, .load true 36 (.t 8)⟩,
 ⟨some 72, some (70, false), .no, .load true 36 (.t 10)⟩,
 ⟨some 73, some (70, false), .no, .call (.v (.fn 19 [])) [(.t 71), (.t 72)]⟩,
 ⟨some 74, some (70, false), .no, .un .not (.t 73)⟩,
 ⟨some 75,none,.no,.pick (.t 70) (.v (.bool true)) (.t 74)⟩]
@[go_sem] def q29r28 : List AIns := [
 ⟨some 4,none,.no,.mv (.v (.bool false))⟩]
def q29c29 : ACode := .seq (.reg q29r28) .ret
def q29c30 : ACode := .cond (.t 75) q29c29 .skip
def q29c31 : ACode := .seq (.reg q29r27) q29c30
def q29c32 : ACode := .seq (.reg q29r26) q29c31
def q29c33 : ACode := .seq (.reg q29r25) q29c32
def q29c34 : ACode := .seq q29c24 q29c33
@[go_sem] def q29r35 : List AIns := [
 ⟨some 33,none,.no,.mv (.t 7)⟩,
 ⟨some 34,none,.no,.bin .add .none (.t 33) (.v (.int .i64 1))⟩,
 ⟨some 7,none,.no,.mv (.t 34)⟩]
def q29c36 : ACode := .seq (.block 1 q29c34) (.reg q29r35)
def q29c37 : ACode := .seq q29c15 q29c36
def q29c38 : ACode := .loop q29c37
def q29c39 : ACode := .block 0 q29c38
def q29c40 : ACode := .seq (.reg q29r12) q29c39
@[go_sem] def q29r41 : List AIns := [
 ⟨some 76,none,.no,.mv (.t 5)⟩,
 ⟨some 77, none, .ef, .call (.v (.fn 32 [])) [(.t 76)]⟩,
 ⟨some 78,none,.no,.mv (.t 6)⟩,
 ⟨some 79,none,.no,.nilc (.t 78)⟩,
 ⟨some 80,none,.no,.fa 2 (.t 79)⟩,
 ⟨some 81, none, .rd, .load false 1 (.t 80)⟩,
 ⟨some 82,none,.no,.call (.v (.fn 31 [])) [(.t 77), (.t 81)]⟩,
 ⟨some 83,none,.no,.mv (.t 82)⟩,
 ⟨some 84, some (83, true), .no, .mv (.t 5)⟩,
 ⟨some 85, some (83, true), .ef, .call (.v (.fn 34 [])) [(.t 84)]⟩,
 ⟨some 86, some (83, true), .no, .mv (.t 6)⟩,
 ⟨some 87, some (83, true), .no, .nilc (.t 86)⟩,
 ⟨some 88, some (83, true), .no, .fa 3 (.t 87)⟩,
 ⟨some 89, some (83, true), .rd, .load false 1 (.t 88)⟩,
 ⟨some 90, some (83, true), .no, .call (.v (.fn 33 [])) [(.t 85), (.t 89)]⟩,
 ⟨some 91,none,.no,.pick (.t 83) (.t 90) (.v (.bool false))⟩,
 ⟨some 92,none,.no,.mv (.t 91)⟩,
 ⟨some 93, some (92, true), .no, .mv (.t 5)⟩,
 ⟨some 94, some (92, true), .no, .call (.v (.fn 36 [])) [(.t 93)]⟩,
 ⟨some 95, some (92, true), .no, .mv (.t 6)⟩,
 ⟨some 96, some (92, true), .no, .call (.v (.fn 37 [])) [(.t 95)]⟩,
 ⟨some 97, some (92, true), .no, .call (.v (.fn 35 [])) [(.t 94), (.t 96)]⟩,
 ⟨some 98,none,.no,.pick (.t 92) (.t 97) (.v (.bool false))⟩,
 ⟨some 99,none,.no,.mv (.t 98)⟩,
 ⟨some 100, some (99, true), .no, .call (.v (.fn 22 [])) []⟩,
 ⟨some 101,none,.no,.pick (.t 99) (.t 100) (.v (.bool false))⟩,
 ⟨some 4,none,.no,.mv (.t 101)⟩]
def zda : ACode := .seq (.reg q29r41) .ret
def q29c43 : ACode := .seq q29c40 zda
def q29c44 : ACode := .seq q29c11 q29c43
def q29c45 : ACode := .seq (.reg q29r6) q29c44
def q29c46 : ACode := .seq q29c5 q29c45
def q29c47 : ACode := .seq (.reg q29r0) q29c46
theorem q29ok : cFn TC 4 = some (102, [.t 4], q29c47) := by kernel_rfl
@[go_sem] def q2ar0 : List AIns := [
 ⟨some 2,none,.no,.mv (.v .nilp)⟩]
@[go_sem] def q2ar1 : List AIns := [
 ⟨some 3,none,.no,.mv (.t 0)⟩,
 ⟨some 4,none,.no,.mv (.t 0)⟩,
 ⟨some 5,none,.no,.call (.v (.fn 60 [])) [(.t 4)]⟩,
 ⟨some 6,none,.no,.build [(.str []), .nilsl, .nilsl, .nilsl] [(0, 1, (.t 3)), (1, 1, (.t 5))]⟩,
 ⟨some 7,none,.no,.box (.t 6)⟩,
 ⟨some 2,none,.no,.mv (.t 7)⟩]
def q2ac2 : ACode := .seq (.reg q2ar1) .ret
def q2ac3 : ACode := .seq (.reg q2ar0) q2ac2
theorem q2aok : cFn TC 24 = some (8, [.t 2], q2ac3) := by kernel_rfl
@[go_sem] def q2br0 : List AIns := [
 ⟨some 2,none,.no,.alloc zZ0⟩]
@[go_sem] def q2br1 : List AIns := [
 ⟨some 3,none,.no,.mv (.t 0)⟩,
 ⟨some 4,none,.no,.nilc (.t 3)⟩,
 ⟨some 5,none,.no,.fa 1 (.t 4)⟩,
 ⟨some 6,none,.no,.load false 1 (.t 5)⟩,
 ⟨some 7,none,.no,.call (.v (.fn 62 [])) [(.t 6)]⟩,
 ⟨none,none,.no,.store 32 (.t 2) (.t 7)⟩]
def q2bc2 : ACode := .seq (.reg q2br1) .ret
def q2bc3 : ACode := .seq (.reg q2br0) q2bc2
theorem q2bok : cFn TC 26 = some (8, [.c 2 true 32], q2bc3) := by kernel_rfl
@[go_sem] def q2cr0 : List AIns := [
 ⟨some 4,none,.no,.mv (.v (.int .i64 0))⟩]
@[go_sem] def q2cr1 : List AIns := [
 ⟨some 5,none,.no,.mv (.t 1)⟩,
 ⟨some 6,none,.no,.lenStr (.t 5)⟩,
 ⟨some 7,none,.no,.bin .gtr .none (.t 6) (.v (.int .i64 200))⟩]
@[go_sem] def q2cr2 : List AIns := [
 ⟨some 4,none,.no,.mv (.v (.int .i64 3))⟩]
def q2cc3 : ACode := .seq (.reg q2cr2) .ret
def q2cc4 : ACode := .cond (.t 7) q2cc3 .skip
def q2cc5 : ACode := .seq (.reg q2cr1) q2cc4
@[go_sem] def q2cr6 : List AIns := [
 ⟨some 8,none,.no,.mv (.t 0)⟩,
 ⟨some 9,none,.no,.nilc (.t 8)⟩,
 ⟨some 10,none,.no,.fa 2 (.t 9)⟩,
 ⟨some 11,none,.no,.load false 1 (.t 10)⟩,
 ⟨some 12,none,.no,.lenSl (.t 11)⟩,
 ⟨some 13,none,.no,.bin .geq .none (.t 12) (.v (.int .i64 4096))⟩]
@[go_sem] def q2cr7 : List AIns := [
 ⟨some 4,none,.no,.mv (.v (.int .i64 60))⟩]
def q2cc8 : ACode := .seq (.reg q2cr7) .ret
def q2cc9 : ACode := .cond (.t 13) q2cc8 .skip
def q2cc10 : ACode := .seq (.reg q2cr6) q2cc9
@[go_sem] def q2cr11 : List AIns := [
 ⟨some 14,none,.no,.mv (.t 0)⟩,
 ⟨some 15,none,.no,.mv (.t 0)⟩,
 ⟨some 16,none,.no,.nilc (.t 15)⟩,
 ⟨some 17,none,.no,.fa 2 (.t 16)⟩,
 ⟨some 18,none,.no,.load false 1 (.t 17)⟩,
 ⟨some 19,none,.no,.app 1 (.v .nilsl) (.t 18)⟩,
 ⟨some 20,none,.no,.mv (.t 1)⟩,
 ⟨some 21,none,.no,.lit 1 [(.t 20)]⟩,
 ⟨some 22,none,.no,.app 1 (.t 19) (.t 21)⟩,
 ⟨some 23,none,.no,.nilc (.t 14)⟩,
 ⟨some 24,none,.no,.fa 2 (.t 23)⟩,
 ⟨none,none,.no,.store 1 (.t 24) (.t 22)⟩]
@[go_sem] def q2cr12 : List AIns := [
 ⟨some 4,none,.no,.mv (.v (.int .i64 0))⟩]
def q2cc13 : ACode := .seq (.reg q2cr12) .ret
def q2cc14 : ACode := .seq (.reg q2cr11) q2cc13
def q2cc15 : ACode := .seq q2cc10 q2cc14
def q2cc16 : ACode := .seq q2cc5 q2cc15
def q2cc17 : ACode := .seq (.reg q2cr0) q2cc16
theorem q2cok : cFn TC 28 = some (25, [.t 4], q2cc17) := by kernel_rfl
@[go_sem] def q2dr0 : List AIns := [
 ⟨some 2,none,.no,.alloc [(.int .i64 0), (.int .u8 0), (.int .u8 0), (.int .u8 0), (.int .u8 0), (.int .u8 0), (.int .u8 0), (.int .u8 0), (.int .u8 0), (.int .u8 0), (.int .u8 0), (.int .u8 0), (.int .u8 0), (.int .u8 0), (.int .u8 0), (.int .u8 0), (.int .u8 0), (.int .u8 0), (.int .u8 0), (.int .u8 0), (.int .u8 0), (.int .u8 0), (.int .u8 0), (.int .u8 0), (.int .u8 0), (.int .u8 0), (.int .u8 0), (.int .u8 0), (.int .u8 0), (.int .u8 0), (.int .u8 0), (.int .u8 0), (.int .u8 0), (.int .i64 0), (.str []), .nilsl]⟩,
 ⟨some 3,none,.no,.mv (.v (.int .i64 0))⟩]
@[go_sem] def q2dr1 : List AIns := [
 ⟨some 9,none,.no,.mv (.t 0)⟩,
 ⟨some 10,none,.no,.nilc (.t 9)⟩,
 ⟨some 11,none,.no,.fa 3 (.t 10)⟩,
 ⟨some 12,none,.no,.load false 1 (.t 11)⟩,
 ⟨some 13,none,.no,.lenSl (.t 12)⟩,
 ⟨some 4,none,.no,.mv (.t 13)⟩]
@[go_sem] def q2dr2 : List AIns := [
 ⟨some 14,none,.no,.mv (.t 4)⟩,
 ⟨some 15,none,.no,.bin .geq .none (.t 14) (.v (.int .i64 8))⟩]
@[go_sem] def q2dr3 : List AIns := [
 ⟨some 16,none,.no,.build [(.int .i64 0), (.int .u8 0), (.int .u8 0), (.int .u8 0), (.int .u8 0), (.int .u8 0), (.int .u8 0), (.int .u8 0), (.int .u8 0), (.int .u8 0), (.int .u8 0), (.int .u8 0), (.int .u8 0), (.int .u8 0), (.int .u8 0), (.int .u8 0), (.int .u8 0), (.int .u8 0), (.int .u8 0), (.int .u8 0), (.int .u8 0), (.int .u8 0), (.int .u8 0), (.int .u8 0), (.int .u8 0), (.int .u8 0), (.int .u8 0), (.int .u8 0), (.int .u8 0), (.int .u8 0), (.int .u8 0), (.int .u8 0), (.int .u8 0), (.int .i64 0), (.str []), .nilsl] []⟩,
 ⟨none,none,.no,.store 36 (.t 2) (.t 16)⟩,
 ⟨some 3,none,.no,.mv (.v (.int .i64 85))⟩]
def q2dc4 : ACode := .seq (.reg q2dr3) .ret
def q2dc5 : ACode := .cond (.t 15) q2dc4 .skip
def q2dc6 : ACode := .seq (.reg q2dr2) q2dc5
@[go_sem] def q2dr7 : List AIns := [
 ⟨some 17,none,.no,.mv (.t 4)⟩,
 ⟨some 18,none,.no,.bin .eql .none (.t 17) (.v (.int .i64 0))⟩,
 ⟨some 19,none,.no,.mv (.t 18)⟩,
 ⟨some 20, some (19, true), .no, .mv (.t 0)⟩,
 ⟨some 21, some (19, true), .no, .nilc (.t 20)⟩,
 ⟨some 22, some (19, true), .no, .fa 2 (.t 21)⟩,
 ⟨some 23, some (19, true), .no, .load false 1 (.t 22)⟩,
 ⟨some 24, some (19, true), .no, .lenSl (.t 23)⟩,
 ⟨some 25, some (19, true), .no, .bin .eql .none (.t 24) (.v (.int .i64 0))⟩,
 ⟨some 26,none,.no,.pick (.t 19) (.t 25) (.v (.bool false))⟩,
 ⟨some 27,none,.no,.mv (.t 26)⟩,
 ⟨some 28, some (27, false), .no, .mv (.t 4)⟩,
 ⟨some 29, some (27, false), .no, .bin .gtr .none (.t 28) (.v (.int .i64 0))⟩,
 ⟨some 30, some (27, false), .no, .mv (.t 29)⟩,
 ⟨some 31, some (30, true), .no, .mv (.t 0)⟩,
 ⟨some 32, some (30, true), .no, .nilc (.t 31)⟩,
 ⟨some 33, some (30, true), .no, .fa 3 (.t 32)⟩,
 ⟨some 34, some (30, true), .rd, .load false 1 (.t 33)⟩,
 ⟨some 35, some (30, true), .no, .mv (.t 4)⟩,
 ⟨some 36, some (30, true), .no, .bin .sub .none (.t 35) (.v (.int .i64 1))⟩,
 ⟨some 37, some (30, true), .no, .iaSl 36 (.t 34) (.t 36)⟩,
 ⟨some 38, some (30, true), .no, .fa 0 (.t 37)⟩,
 ⟨some 39, some (30, true), .no, .fa 0 (.t 38)⟩,
 ⟨some 40, some (30, true), .rd, .load false 1 (.t 39)⟩,
 ⟨some 41, some (30, true), .no, .mv (.t 0)⟩,
 ⟨some 42, some (30, true), .no, .nilc (.t 41)⟩,
 ⟨some 43, some (30, true), .no, .fa 2 (.t 42)⟩,
 ⟨some 44, some (30, true), .rd, .load false 1 (.t 43)⟩,
 ⟨some 45, some (30, true), .no, .lenSl (.t 44)⟩,
 ⟨some 46, some (30, true), .no, .bin .eql .none (.t 40) (.t 45)⟩,
 ⟨some 47, some (27, false), .no, .pick (.t 30) (.t 46) (.v (.bool false))⟩,
 ⟨some 48,none,.no,.pick (.t 27) (.v (.bool true)) (.t 47)⟩]
@[go_sem] def q2dr8 : List AIns := [
 ⟨some 49,none,.no,.build [(.int .i64 0), (.int .u8 0), (.int .u8 0), (.int .u8 0), (.int .u8 0), (.int .u8 0), (.int .u8 0), (.int .u8 0), (.int .u8 0), (.int .u8 0), (.int .u8 0), (.int .u8 0), (.int .u8 0), (.int .u8 0), (.int .u8 0), (.int .u8 0), (.int .u8 0), (.int .u8 0), (.int .u8 0), (.int .u8 0), (.int .u8 0), (.int .u8 0), (.int .u8 0), (.int .u8 0), (.int .u8 0), (.int .u8 0), (.int .u8 0), (.int .u8 0), (.int .u8 0), (.int .u8 0), (.int .u8 0), (.int .u8 0), (.int .u8 0), (.int .i64 0), (.str []), .nilsl] []⟩,
 ⟨none,none,.no,.store 36 (.t 2) (.t 49)⟩,
 ⟨some 3,none,.no,.mv (.v (.int .i64 83))⟩]
def q2dc9 : ACode := .seq (.reg q2dr8) .ret
def q2dc10 : ACode := .cond (.t 48) q2dc9 .skip
def q2dc11 : ACode := .seq (.reg q2dr7) q2dc10
@[go_sem] def q2dr12 : List AIns := [
 ⟨some 50,none,.no,.mv (.t 0)⟩,
 ⟨some 51,none,.no,.nilc (.t 50)⟩,
 ⟨some 52,none,.no,.fa 2 (.t 51)⟩,
 ⟨some 53, none, .rd, .load false 1 (.t 52)⟩,
 ⟨some 54,none,.no,.lenSl (.t 53)⟩,
 ⟨some 55,none,.no,.mv (.t 0)⟩,
 ⟨some 56,none,.no,.nilc (.t 55)⟩,
 ⟨some 57,none,.no,.fa 2 (.t 56)⟩,
 ⟨some 58, none, .rd, .load false 1 (.t 57)⟩,
 ⟨some 59, none, .pu, .call (.v (.fn 68 [])) [(.t 58)]⟩,
 ⟨some 60, none, .pu, .call (.v (.fn 56 [])) [(.t 59)]⟩,
 ⟨some 61,none,.no,.build ((.int .i64 0) :: zZ0) [(0, 1, (.t 54)), (1, 32, (.t 60))]⟩,
 ⟨some 5, none, .ef, .alloc ((.int .i64 0) :: zZ0)⟩,
 ⟨none,none,.no,.store 33 (.t 5) (.t 61)⟩]
@[go_sem] def q2dr13 : List AIns := [
 ⟨some 63,none,.no,.mv (.t 0)⟩,
 ⟨some 64,none,.no,.nilc (.t 63)⟩,
 ⟨some 65,none,.no,.fa 0 (.t 64)⟩,
 ⟨some 66, none, .rd, .load false 1 (.t 65)⟩,
 ⟨some 67,none,.no,.mv (.t 0)⟩,
 ⟨some 68,none,.no,.nilc (.t 67)⟩,
 ⟨some 69,none,.no,.fa 1 (.t 68)⟩,
 ⟨some 70, none, .rd, .load false 1 (.t 69)⟩,
 ⟨some 71,none,.no,.mv (.t 4)⟩,
 ⟨some 72, none, .rd, .load true 33 (.t 5)⟩,
 ⟨some 73, none, .pu, .call (.v (.fn 70 [])) [(.t 72)]⟩,
 ⟨some 74, none, .pu, .call (.v (.fn 69 [])) [(.t 66), (.t 70), (.t 71), (.t 73)]⟩,
 ⟨some 62,none,.no,.mv (.t 74)⟩,
 ⟨some 75,none,.no,.ext 0 (.t 62)⟩,
 ⟨some 76,none,.no,.ext 1 (.t 62)⟩,
 ⟨some 6, none, .ef, .alloc [(.int .i64 0), (.str []), .nilsl]⟩,
 ⟨none,none,.no,.store 3 (.t 6) (.t 75)⟩,
 ⟨some 7,none,.no,.mv (.t 76)⟩]
@[go_sem] def q2dr14 : List AIns := [
 ⟨some 77,none,.no,.mv (.t 7)⟩,
 ⟨some 78,none,.no,.bin .neq .none (.t 77) (.v (.int .i64 0))⟩]
@[go_sem] def q2dr15 : List AIns := [
 ⟨some 79,none,.no,.build [(.int .i64 0), (.int .u8 0), (.int .u8 0), (.int .u8 0), (.int .u8 0), (.int .u8 0), (.int .u8 0), (.int .u8 0), (.int .u8 0), (.int .u8 0), (.int .u8 0), (.int .u8 0), (.int .u8 0), (.int .u8 0), (.int .u8 0), (.int .u8 0), (.int .u8 0), (.int .u8 0), (.int .u8 0), (.int .u8 0), (.int .u8 0), (.int .u8 0), (.int .u8 0), (.int .u8 0), (.int .u8 0), (.int .u8 0), (.int .u8 0), (.int .u8 0), (.int .u8 0), (.int .u8 0), (.int .u8 0), (.int .u8 0), (.int .u8 0), (.int .i64 0), (.str []), .nilsl] []⟩,
 ⟨some 80,none,.no,.mv (.t 7)⟩,
 ⟨none,none,.no,.store 36 (.t 2) (.t 79)⟩,
 ⟨some 3,none,.no,.mv (.t 80)⟩]
def q2dc16 : ACode := .seq (.reg q2dr15) .ret
def q2dc17 : ACode := .cond (.t 78) q2dc16 .skip
def q2dc18 : ACode := .seq (.reg q2dr14) q2dc17
@[go_sem] def q2dr19 : List AIns := [
 ⟨some 81,none,.no,.load true 33 (.t 5)⟩,
 ⟨some 82,none,.no,.load true 3 (.t 6)⟩,
 ⟨some 83,none,.no,.build [(.int .i64 0), (.int .u8 0), (.int .u8 0), (.int .u8 0), (.int .u8 0), (.int .u8 0), (.int .u8 0), (.int .u8 0), (.int .u8 0), (.int .u8 0), (.int .u8 0), (.int .u8 0), (.int .u8 0), (.int .u8 0), (.int .u8 0), (.int .u8 0), (.int .u8 0), (.int .u8 0), (.int .u8 0), (.int .u8 0), (.int .u8 0), (.int .u8 0), (.int .u8 0), (.int .u8 0), (.int .u8 0), (.int .u8 0), (.int .u8 0), (.int .u8 0), (.int .u8 0), (.int .u8 0), (.int .u8 0), (.int .u8 0), (.int .u8 0), (.int .i64 0), (.str []), .nilsl] [(0, 33, (.t 81)), (33, 3, (.t 82))]⟩,
 ⟨some 8,none,.no,.alloc [(.int .i64 0), (.int .u8 0), (.int .u8 0), (.int .u8 0), (.int .u8 0), (.int .u8 0), (.int .u8 0), (.int .u8 0), (.int .u8 0), (.int .u8 0), (.int .u8 0), (.int .u8 0), (.int .u8 0), (.int .u8 0), (.int .u8 0), (.int .u8 0), (.int .u8 0), (.int .u8 0), (.int .u8 0), (.int .u8 0), (.int .u8 0), (.int .u8 0), (.int .u8 0), (.int .u8 0), (.int .u8 0), (.int .u8 0), (.int .u8 0), (.int .u8 0), (.int .u8 0), (.int .u8 0), (.int .u8 0), (.int .u8 0), (.int .u8 0), (.int .i64 0), (.str []), .nilsl]⟩,
 ⟨none,none,.no,.store 36 (.t 8) (.t 83)⟩]
@[go_sem] def q2dr20 : List AIns := [
 ⟨some 84,none,.no,.mv (.t 0)⟩,
 ⟨some 85,none,.no,.mv (.t 0)⟩,
 ⟨some 86,none,.no,.nilc (.t 85)⟩,
 ⟨some 87,none,.no,.fa 3 (.t 86)⟩,
 ⟨some 88, none, .rd, .load false 1 (.t 87)⟩,
 ⟨some 89, none, .ef, .app 36 (.v .nilsl) (.t 88)⟩,
 ⟨some 90, none, .rd, .load true 36 (.t 8)⟩,
 ⟨some 91,none,.no,.lit 36 [(.t 90)]⟩,
 ⟨some 92,none,.no,.app 36 (.t 89) (.t 91)⟩,
 ⟨some 93,none,.no,.nilc (.t 84)⟩,
 ⟨some 94,none,.no,.fa 3 (.t 93)⟩,
 ⟨none,none,.no,.store 1 (.t 94) (.t 92)⟩]
@[go_sem] def q2dr21 : List AIns := [
 ⟨some 95,none,.no,.load true 36 (.t 8)⟩,
 ⟨none,none,.no,.store 36 (.t 2) (.t 95)⟩,
 ⟨some 3,none,.no,.mv (.v (.int .i64 0))⟩]
def q2dc22 : ACode := .seq (.reg q2dr21) .ret
def q2dc23 : ACode := .seq (.reg q2dr20) q2dc22
def q2dc24 : ACode := .seq (.reg q2dr19) q2dc23
def q2dc25 : ACode := .seq q2dc18 q2dc24
def q2dc26 : ACode := .seq (.reg q2dr13) q2dc25
def q2dc27 : ACode := .seq (.reg q2dr12) q2dc26
def q2dc28 : ACode := .seq q2dc11 q2dc27
def q2dc29 : ACode := .seq q2dc6 q2dc28
def q2dc30 : ACode := .seq (.reg q2dr1) q2dc29
def q2dc31 : ACode := .seq (.reg q2dr0) q2dc30
theorem q2dok : cFn TC 30 = some (96, [.c 2 true 36, .t 3], q2dc31) := by kernel_rfl
@[go_sem] def q2er0 : List AIns := [
 ⟨some 4,none,.no,.mv (.v (.bool false))⟩]
@[go_sem] def q2er1 : List AIns := [
 ⟨some 6,none,.no,.mv (.t 0)⟩,
 ⟨some 7,none,.no,.lenSl (.t 6)⟩,
 ⟨some 8,none,.no,.mv (.t 1)⟩,
 ⟨some 9,none,.no,.lenSl (.t 8)⟩,
 ⟨some 10,none,.no,.bin .neq .none (.t 7) (.t 9)⟩]
@[go_sem] def q2er2 : List AIns := [
 ⟨some 4,none,.no,.mv (.v (.bool false))⟩]
def q2ec3 : ACode := .seq (.reg q2er2) .ret
def q2ec4 : ACode := .cond (.t 10) q2ec3 .skip
def q2ec5 : ACode := .seq (.reg q2er1) q2ec4
@[go_sem] def q2er6 : List AIns := [
 ⟨some 5,none,.no,.mv (.v (.int .i64 0))⟩]
@[go_sem] def q2er7 : List AIns := [
 ⟨some 11,none,.no,.mv (.t 5)⟩,
 ⟨some 12,none,.no,.mv (.t 0)⟩,
 ⟨some 13,none,.no,.lenSl (.t 12)⟩,
 ⟨some 14,none,.no,.bin .lss .none (.t 11) (.t 13)⟩]
def q2ec8 : ACode := .cond (.t 14) .skip (.exit 0)
def q2ec9 : ACode := .seq (.reg q2er7) q2ec8
@[go_sem] def q2er10 : List AIns := [
 ⟨some 17,none,.no,.mv (.t 0)⟩,
 ⟨some 18,none,.no,.mv (.t 5)⟩,
 ⟨some 19,none,.no,.iaSl 1 (.t 17) (.t 18)⟩,
 ⟨some 20, none, .rd, .load false 1 (.t 19)⟩,
 ⟨some 21,none,.no,.mv (.t 1)⟩,
 ⟨some 22,none,.no,.mv (.t 5)⟩,
 ⟨some 23,none,.no,.iaSl 1 (.t 21) (.t 22)⟩,
 ⟨some 24, none, .rd, .load false 1 (.t 23)⟩,
 ⟨some 25,none,.no,.bin .neq .none (.t 20) (.t 24)⟩]
@[go_sem] def q2er11 : List AIns := [
 ⟨some 4,none,.no,.mv (.v (.bool false))⟩]
def q2ec12 : ACode := .seq (.reg q2er11) .ret
def q2ec13 : ACode := .cond (.t 25) q2ec12 .skip
def q2ec14 : ACode := .seq (.reg q2er10) q2ec13
@[go_sem] def q2er15 : List AIns := [
 ⟨some 15,none,.no,.mv (.t 5)⟩,
 ⟨some 16,none,.no,.bin .add .none (.t 15) (.v (.int .i64 1))⟩,
 ⟨some 5,none,.no,.mv (.t 16)⟩]
def q2ec16 : ACode := .seq (.block 1 q2ec14) (.reg q2er15)
def q2ec17 : ACode := .seq q2ec9 q2ec16
def q2ec18 : ACode := .loop q2ec17
def q2ec19 : ACode := .block 0 q2ec18
def q2ec20 : ACode := .seq (.reg q2er6) q2ec19
@[go_sem] def q2er21 : List AIns := [
 ⟨some 4,none,.no,.mv (.v (.bool true))⟩]
def q2ec22 : ACode := .seq (.reg q2er21) .ret
def q2ec23 : ACode := .seq q2ec20 q2ec22
def q2ec24 : ACode := .seq q2ec5 q2ec23
def q2ec25 : ACode := .seq (.reg q2er0) q2ec24
theorem q2eok : cFn TC 31 = some (26, [.t 4], q2ec25) := by kernel_rfl
@[go_sem] def q2fr0 : List AIns := [
 ⟨some 4,none,.no,.mv (.v (.bool false))⟩]
@[go_sem] def q2fr1 : List AIns := [
 ⟨some 5,none,.no,.mv (.t 0)⟩,
 ⟨some 6,none,.no,.build [(.int .i64 0), (.int .i64 0), (.int .i64 0), .nilsl, .nilsl, .nilsl] [(3, 1, (.t 5))]⟩,
 ⟨some 7,none,.no,.mv (.t 1)⟩,
 ⟨some 8,none,.no,.build [(.int .i64 0), (.int .i64 0), (.int .i64 0), .nilsl, .nilsl, .nilsl] [(3, 1, (.t 7))]⟩,
 ⟨some 9,none,.no,.call (.v (.fn 71 [])) [(.t 6), (.t 8)]⟩,
 ⟨some 4,none,.no,.mv (.t 9)⟩]
def q2fc2 : ACode := .seq (.reg q2fr1) .ret
def q2fc3 : ACode := .seq (.reg q2fr0) q2fc2
theorem q2fok : cFn TC 33 = some (10, [.t 4], q2fc3) := by kernel_rfl
@[go_sem] def q2gr0 : List AIns := [
 ⟨some 2,none,.no,.box (.t 0)⟩,
 ⟨some 3,none,.no,.box (.t 1)⟩,
 ⟨some 4,none,.no,.mv (.v (.bool false))⟩]
@[go_sem] def q2gr1 : List AIns := [
 ⟨some 5,none,.no,.fa 0 (.t 2)⟩,
 ⟨some 6,none,.no,.load false 1 (.t 5)⟩,
 ⟨some 7,none,.no,.fa 0 (.t 3)⟩,
 ⟨some 8,none,.no,.load false 1 (.t 7)⟩,
 ⟨some 9,none,.no,.call (.v (.fn 31 [])) [(.t 6), (.t 8)]⟩,
 ⟨some 10,none,.no,.mv (.t 9)⟩,
 ⟨some 11, some (10, true), .no, .fa 2 (.t 2)⟩,
 ⟨some 12, some (10, true), .no, .load false 1 (.t 11)⟩,
 ⟨some 13, some (10, true), .no, .fa 2 (.t 3)⟩,
 ⟨some 14, some (10, true), .no, .load false 1 (.t 13)⟩,
 ⟨some 15, some (10, true), .no, .call (.v (.fn 33 [])) [(.t 12), (.t 14)]⟩,
 ⟨some 16,none,.no,.pick (.t 10) (.t 15) (.v (.bool false))⟩,
 ⟨some 17,none,.no,.mv (.t 16)⟩,
 ⟨some 18, some (17, true), .no, .fa 3 (.t 2)⟩,
 ⟨some 19, some (17, true), .no, .load false 1 (.t 18)⟩,
 ⟨some 20, some (17, true), .no, .fa 3 (.t 3)⟩,
 ⟨some 21, some (17, true), .no, .load false 1 (.t 20)⟩,
 ⟨some 22, some (17, true), .no, .call (.v (.fn 33 [])) [(.t 19), (.t 21)]⟩,
 ⟨some 23,none,.no,.pick (.t 17) (.t 22) (.v (.bool false))⟩,
 ⟨some 24,none,.no,.mv (.t 23)⟩,
 ⟨some 25, some (24, true), .no, .fa 1 (.t 2)⟩,
 ⟨some 26, some (24, true), .no, .load false 1 (.t 25)⟩,
 ⟨some 27, some (24, true), .no, .build [(.int .i64 0), (.int .i64 0), (.int .i64 0), .nilsl, .nilsl, .nilsl] [(5, 1, (.t 26))]⟩,
 ⟨some 28, some (24, true), .no, .fa 1 (.t 3)⟩,
 ⟨some 29, some (24, true), .no, .load false 1 (.t 28)⟩,
 ⟨some 30, some (24, true), .no, .build [(.int .i64 0), (.int .i64 0), (.int .i64 0), .nilsl, .nilsl, .nilsl] [(5, 1, (.t 29))]⟩,
 ⟨some 31, some (24, true), .no, .call (.v (.fn 71 [])) [(.t 27), (.t 30)]⟩,
 ⟨some 32,none,.no,.pick (.t 24) (.t 31) (.v (.bool false))⟩,
 ⟨some 4,none,.no,.mv (.t 32)⟩]
def q2gc2 : ACode := .seq (.reg q2gr1) .ret
def q2gc3 : ACode := .seq (.reg q2gr0) q2gc2
theorem q2gok : cFn TC 35 = some (33, [.t 4], q2gc3) := by kernel_rfl
@[go_sem] def q2hr0 : List AIns := [
 ⟨some 2,none,.no,.alloc [.nilsl, .nilsl, .nilsl, .nilsl]⟩]
@[go_sem] def q2hr1 : List AIns := [
 ⟨some 5,none,.no,.mv (.t 0)⟩,
 ⟨some 6,none,.no,.nilc (.t 5)⟩,
 ⟨some 7,none,.no,.fa 3 (.t 6)⟩,
 ⟨some 8,none,.no,.load false 1 (.t 7)⟩,
 ⟨some 9,none,.no,.lenSl (.t 8)⟩,
 ⟨some 3,none,.no,.mv (.t 9)⟩]
@[go_sem] def q2hr2 : List AIns := [
 ⟨some 10,none,.no,.mv (.t 3)⟩,
 ⟨some 11,none,.no,.bin .eql .none (.t 10) (.v (.int .i64 0))⟩]
@[go_sem] def q2hr3 : List AIns := [
 ⟨some 12,none,.no,.build [.nilsl, .nilsl, .nilsl, .nilsl] []⟩,
 ⟨none,none,.no,.store 4 (.t 2) (.t 12)⟩]
def q2hc4 : ACode := .seq (.reg q2hr3) .ret
def q2hc5 : ACode := .cond (.t 11) q2hc4 .skip
def q2hc6 : ACode := .seq (.reg q2hr2) q2hc5
@[go_sem] def q2hr7 : List AIns := [
 ⟨some 13,none,.no,.mv (.t 0)⟩,
 ⟨some 14,none,.no,.nilc (.t 13)⟩,
 ⟨some 15,none,.no,.fa 2 (.t 14)⟩,
 ⟨some 16, none, .rd, .load false 1 (.t 15)⟩,
 ⟨some 17,none,.no,.mv (.t 0)⟩,
 ⟨some 18,none,.no,.nilc (.t 17)⟩,
 ⟨some 19,none,.no,.fa 3 (.t 18)⟩,
 ⟨some 20, none, .rd, .load false 1 (.t 19)⟩,
 ⟨some 21,none,.no,.mv (.t 3)⟩,
 ⟨some 22,none,.no,.bin .sub .none (.t 21) (.v (.int .i64 1))⟩,
 ⟨some 23,none,.no,.iaSl 36 (.t 20) (.t 22)⟩,
 ⟨some 24,none,.no,.fa 0 (.t 23)⟩,
 ⟨some 25,none,.no,.fa 0 (.t 24)⟩,
 ⟨some 26, none, .rd, .load false 1 (.t 25)⟩,
 ⟨some 27,none,.no,.slice (.sl 1) (.t 16) none (some (.t 26)) none⟩,
 ⟨some 4,none,.no,.mv (.t 27)⟩]
@[go_sem] def q2hr8 : List AIns := [
 ⟨some 28,none,.no,.mv (.t 4)⟩,
 ⟨some 29,none,.no,.mv (.t 4)⟩,
 ⟨some 30, none, .ef, .call (.v (.fn 68 [])) [(.t 29)]⟩,
 ⟨some 31,none,.no,.mv (.t 0)⟩,
 ⟨some 32,none,.no,.nilc (.t 31)⟩,
 ⟨some 33,none,.no,.fa 3 (.t 32)⟩,
 ⟨some 34, none, .rd, .load false 1 (.t 33)⟩,
 ⟨some 35,none,.no,.mv (.t 3)⟩,
 ⟨some 36,none,.no,.bin .sub .none (.t 35) (.v (.int .i64 1))⟩,
 ⟨some 37,none,.no,.iaSl 36 (.t 34) (.t 36)⟩,
 ⟨some 38, none, .rd, .load true 36 (.t 37)⟩,
 ⟨some 39,none,.no,.lit 36 [(.t 38)]⟩,
 ⟨some 40,none,.no,.build [.nilsl, .nilsl, .nilsl, .nilsl] [(0, 1, (.t 28)), (1, 1, (.t 30)), (2, 1, (.t 39))]⟩,
 ⟨none,none,.no,.store 4 (.t 2) (.t 40)⟩]
def q2hc9 : ACode := .seq (.reg q2hr8) .ret
def q2hc10 : ACode := .seq (.reg q2hr7) q2hc9
def q2hc11 : ACode := .seq q2hc6 q2hc10
def q2hc12 : ACode := .seq (.reg q2hr1) q2hc11
def q2hc13 : ACode := .seq (.reg q2hr0) q2hc12
theorem q2hok : cFn TC 37 = some (41, [.c 2 true 4], q2hc13) := by kernel_rfl
@[go_sem] def q2ir0 : List AIns := [
 ⟨some 2,none,.no,.mv (.v .nilsl)⟩]
@[go_sem] def q2ir1 : List AIns := [
 ⟨some 3,none,.no,.mv (.v .nilsl)⟩]
@[go_sem] def q2ir2 : List AIns := [
 ⟨some 4,none,.no,.mv (.v (.int .i64 0))⟩]
@[go_sem] def q2ir3 : List AIns := [
 ⟨some 5,none,.no,.mv (.t 4)⟩,
 ⟨some 6,none,.no,.mv (.t 0)⟩,
 ⟨some 7,none,.no,.lenSl (.t 6)⟩,
 ⟨some 8,none,.no,.bin .lss .none (.t 5) (.t 7)⟩]
def q2ic4 : ACode := .cond (.t 8) .skip (.exit 0)
def q2ic5 : ACode := .seq (.reg q2ir3) q2ic4
@[go_sem] def q2ir6 : List AIns := [
 ⟨some 11,none,.no,.mv (.t 3)⟩,
 ⟨some 12,none,.no,.mv (.t 0)⟩,
 ⟨some 13,none,.no,.mv (.t 4)⟩,
 ⟨some 14,none,.no,.iaSl 1 (.t 12) (.t 13)⟩,
 ⟨some 15,none,.no,.load false 1 (.t 14)⟩,
 ⟨some 16,none,.no,.call (.v (.fn 44 [])) [(.t 15)]⟩,
 ⟨some 17,none,.no,.lit 32 [(.t 16)]⟩,
 ⟨some 18,none,.no,.app 32 (.t 11) (.t 17)⟩,
 ⟨some 3,none,.no,.mv (.t 18)⟩]
@[go_sem] def q2ir7 : List AIns := [
 ⟨some 9,none,.no,.mv (.t 4)⟩,
 ⟨some 10,none,.no,.bin .add .none (.t 9) (.v (.int .i64 1))⟩,
 ⟨some 4,none,.no,.mv (.t 10)⟩]
def q2ic8 : ACode := .seq (.block 1 (.reg q2ir6)) (.reg q2ir7)
def q2ic9 : ACode := .seq q2ic5 q2ic8
def q2ic10 : ACode := .loop q2ic9
def q2ic11 : ACode := .block 0 q2ic10
def q2ic12 : ACode := .seq (.reg q2ir2) q2ic11
@[go_sem] def q2ir13 : List AIns := [
 ⟨some 19,none,.no,.mv (.t 3)⟩,
 ⟨some 2,none,.no,.mv (.t 19)⟩]
def q2ic14 : ACode := .seq (.reg q2ir13) .ret
def q2ic15 : ACode := .seq q2ic12 q2ic14
def q2ic16 : ACode := .seq (.reg q2ir1) q2ic15
def q2ic17 : ACode := .seq (.reg q2ir0) q2ic16
theorem q2iok : cFn TC 68 = some (20, [.t 2], q2ic17) := by kernel_rfl
@[go_sem] def q2jr0 : List AIns := [
 ⟨some 2,none,.no,.box (.t 0)⟩,
 ⟨some 3,none,.no,.box (.t 1)⟩,
 ⟨some 4,none,.no,.mv (.v (.bool false))⟩]
@[go_sem] def q2jr1 : List AIns := [
 ⟨some 8,none,.no,.fa 0 (.t 2)⟩,
 ⟨some 9,none,.no,.load false 1 (.t 8)⟩,
 ⟨some 10,none,.no,.fa 0 (.t 3)⟩,
 ⟨some 11,none,.no,.load false 1 (.t 10)⟩,
 ⟨some 12,none,.no,.bin .neq .none (.t 9) (.t 11)⟩,
 ⟨some 13,none,.no,.mv (.t 12)⟩,
 ⟨some 14, some (13, false), .no, .fa 1 (.t 2)⟩,
 ⟨some 15, some (13, false), .no, .load false 1 (.t 14)⟩,
 ⟨some 16, some (13, false), .no, .fa 1 (.t 3)⟩,
 ⟨some 17, some (13, false), .no, .load false 1 (.t 16)⟩,
 ⟨some 18, some (13, false), .no, .bin .neq .none (.t 15) (.t 17)⟩,
 ⟨some 19,none,.no,.pick (.t 13) (.v (.bool true)) (.t 18)⟩,
 ⟨some 20,none,.no,.mv (.t 19)⟩,
 ⟨some 21, some (20, false), .no, .fa 2 (.t 2)⟩,
 ⟨some 22, some (20, false), .no, .load false 1 (.t 21)⟩,
 ⟨some 23, some (20, false), .no, .fa 2 (.t 3)⟩,
 ⟨some 24, some (20, false), .no, .load false 1 (.t 23)⟩,
 ⟨some 25, some (20, false), .no, .bin .neq .none (.t 22) (.t 24)⟩,
 ⟨some 26,none,.no,.pick (.t 20) (.v (.bool true)) (.t 25)⟩,
 ⟨some 27,none,.no,.mv (.t 26)⟩,
 ⟨some 28, some (27, false), .no, .fa 3 (.t 2)⟩,
 ⟨some 29, some (27, false), .no, .load false 1 (.t 28)⟩,
 ⟨some 30, some (27, false), .no, .lenSl (.t 29)⟩,
 ⟨some 31, some (27, false), .no, .fa 3 (.t 3)⟩,
 ⟨some 32, some (27, false), .no, .load false 1 (.t 31)⟩,
 ⟨some 33, some (27, false), .no, .lenSl (.t 32)⟩,
 ⟨some 34, some (27, false), .no, .bin .neq .none (.t 30) (.t 33)⟩,
 ⟨some 35,none,.no,.pick (.t 27) (.v (.bool true)) (.t 34)⟩,
 ⟨some 36,none,.no,.mv (.t 35)⟩,
 ⟨some 37, some (36, false), .no, .fa 4 (.t 2)⟩,
 ⟨some 38, some (36, false), .no, .load false 1 (.t 37)⟩,
 ⟨some 39, some (36, false), .no, .lenSl (.t 38)⟩,
 ⟨some 40, some (36, false), .no, .fa 4 (.t 3)⟩,
 ⟨some 41, some (36, false), .no, .load false 1 (.t 40)⟩,
 ⟨some 42, some (36, false), .no, .lenSl (.t 41)⟩,
 ⟨some 43, some (36, false), .no, .bin .neq .none (.t 39) (.t 42)⟩,
 ⟨some 44,none,.no,.pick (.t 36) (.v (.bool true)) (.t 43)⟩,
 ⟨some 45,none,.no,.mv (.t 44)⟩,
 ⟨some 46, some (45, false), .no, .fa 5 (.t 2)⟩,
 ⟨some 47, some (45, false), .no, .load false 1 (.t 46)⟩,
 ⟨some 48, some (45, false), .no, .lenSl (.t 47)⟩,
 ⟨some 49, some (45, false), .no, .fa 5 (.t 3)⟩,
 ⟨some 50, some (45, false), .no, .load false 1 (.t 49)⟩,
 ⟨some 51, some (45, false), .no, .lenSl (.t 50)⟩,
 ⟨some 52, some (45, false), .no, .bin .neq .none (.t 48) (.t 51)⟩,
 ⟨some 53,none,.no,.pick (.t 45) (.v (.bool true)) (.t 52)⟩]
@[go_sem] def q2jr2 : List AIns := [
 ⟨some 4,none,.no,.mv (.v (.bool false))⟩]
def q2jc3 : ACode := .seq (.reg q2jr2) .ret
def q2jc4 : ACode := .cond (.t 53) q2jc3 .skip
def q2jc5 : ACode := .seq (.reg q2jr1) q2jc4
@[go_sem] def q2jr6 : List AIns := [
 ⟨some 5,none,.no,.mv (.v (.int .i64 0))⟩]
@[go_sem] def q2jr7 : List AIns := [
 ⟨some 54,none,.no,.mv (.t 5)⟩,
 ⟨some 55,none,.no,.fa 3 (.t 2)⟩,
 ⟨some 56,none,.no,.load false 1 (.t 55)⟩,
 ⟨some 57,none,.no,.lenSl (.t 56)⟩,
 ⟨some 58,none,.no,.bin .lss .none (.t 54) (.t 57)⟩]
def q2jc8 : ACode := .cond (.t 58) .skip (.exit 0)
def q2jc9 : ACode := .seq (.reg q2jr7) q2jc8
@[go_sem] def q2jr10 : List AIns := [
 ⟨some 61,none,.no,.fa 3 (.t 2)⟩,
 ⟨some 62, none, .rd, .load false 1 (.t 61)⟩,
 ⟨some 63,none,.no,.mv (.t 5)⟩,
 ⟨some 64,none,.no,.iaSl 36 (.t 62) (.t 63)⟩,
 ⟨some 65, none, .rd, .load true 36 (.t 64)⟩,
 ⟨some 66,none,.no,.fa 3 (.t 3)⟩,
 ⟨some 67, none, .rd, .load false 1 (.t 66)⟩,
 ⟨some 68,none,.no,.mv (.t 5)⟩,
 ⟨some 69,none,.no,.iaSl 36 (.t 67) (.t 68)⟩,
 ⟨some 70, none, .rd, .load true 36 (.t 69)⟩,
 ⟨some 71,none,.no,.call (.v (.fn 19 [])) [(.t 65), (.t 70)]⟩,
 ⟨some 72,none,.no,.un .not (.t 71)⟩]
@[go_sem] def q2jr11 : List AIns := [
 ⟨some 4,none,.no,.mv (.v (.bool false))⟩]
def q2jc12 : ACode := .seq (.reg q2jr11) .ret
def q2jc13 : ACode := .cond (.t 72) q2jc12 .skip
def q2jc14 : ACode := .seq (.reg q2jr10) q2jc13
@[go_sem] def q2jr15 : List AIns := [
 ⟨some 59,none,.no,.mv (.t 5)⟩,
 ⟨some 60,none,.no,.bin .add .none (.t 59) (.v (.int .i64 1))⟩,
 ⟨some 5,none,.no,.mv (.t 60)⟩]
def q2jc16 : ACode := .seq (.block 1 q2jc14) (.reg q2jr15)
def q2jc17 : ACode := .seq q2jc9 q2jc16
def q2jc18 : ACode := .loop q2jc17
def q2jc19 : ACode := .block 0 q2jc18
def q2jc20 : ACode := .seq (.reg q2jr6) q2jc19
@[go_sem] def q2jr21 : List AIns := [
 ⟨some 6,none,.no,.mv (.v (.int .i64 0))⟩]
@[go_sem] def q2jr22 : List AIns := [
 ⟨some 73,none,.no,.mv (.t 6)⟩,
 ⟨some 74,none,.no,.fa 4 (.t 2)⟩,
 ⟨some 75,none,.no,.load false 1 (.t 74)⟩,
 ⟨some 76,none,.no,.lenSl (.t 75)⟩,
 ⟨some 77,none,.no,.bin .lss .none (.t 73) (.t 76)⟩]
def q2jc23 : ACode := .cond (.t 77) .skip (.exit 2)
def q2jc24 : ACode := .seq (.reg q2jr22) q2jc23
@[go_sem] def q2jr25 : List AIns := [
 ⟨some 80,none,.no,.fa 4 (.t 2)⟩,
 ⟨some 81, none, .rd, .load false 1 (.t 80)⟩,
 ⟨some 82,none,.no,.mv (.t 6)⟩,
 ⟨some 83,none,.no,.iaSl 1 (.t 81) (.t 82)⟩,
 ⟨some 84, none, .rd, .load false 1 (.t 83)⟩,
 ⟨some 85,none,.no,.fa 4 (.t 3)⟩,
 ⟨some 86, none, .rd, .load false 1 (.t 85)⟩,
 ⟨some 87,none,.no,.mv (.t 6)⟩,
 ⟨some 88,none,.no,.iaSl 1 (.t 86) (.t 87)⟩,
 ⟨some 89, none, .rd, .load false 1 (.t 88)⟩,
 ⟨some 90,none,.no,.bin .neq .none (.t 84) (.t 89)⟩]
@[go_sem] def q2jr26 : List AIns := [
 ⟨some 4,none,.no,.mv (.v (.bool false))⟩]
def q2jc27 : ACode := .seq (.reg q2jr26) .ret
def q2jc28 : ACode := .cond (.t 90) q2jc27 .skip
def q2jc29 : ACode := .seq (.reg q2jr25) q2jc28
@[go_sem] def q2jr30 : List AIns := [
 ⟨some 78,none,.no,.mv (.t 6)⟩,
 ⟨some 79,none,.no,.bin .add .none (.t 78) (.v (.int .i64 1))⟩,
 ⟨some 6,none,.no,.mv (.t 79)⟩]
def q2jc31 : ACode := .seq (.block 3 q2jc29) (.reg q2jr30)
def q2jc32 : ACode := .seq q2jc24 q2jc31
def q2jc33 : ACode := .loop q2jc32
def q2jc34 : ACode := .block 2 q2jc33
def q2jc35 : ACode := .seq (.reg q2jr21) q2jc34
@[go_sem] def q2jr36 : List AIns := [
 ⟨some 7,none,.no,.mv (.v (.int .i64 0))⟩]
@[go_sem] def q2jr37 : List AIns := [
 ⟨some 91,none,.no,.mv (.t 7)⟩,
 ⟨some 92,none,.no,.fa 5 (.t 2)⟩,
 ⟨some 93,none,.no,.load false 1 (.t 92)⟩,
 ⟨some 94,none,.no,.lenSl (.t 93)⟩,
 ⟨some 95,none,.no,.bin .lss .none (.t 91) (.t 94)⟩]
def q2jc38 : ACode := .cond (.t 95) .skip (.exit 4)
def q2jc39 : ACode := .seq (.reg q2jr37) q2jc38
@[go_sem] def q2jr40 : List AIns := [
 ⟨some 98,none,.no,.fa 5 (.t 2)⟩,
 ⟨some 99, none, .rd, .load false 1 (.t 98)⟩,
 ⟨some 100,none,.no,.mv (.t 7)⟩,
 ⟨some 101,none,.no,.iaSl 32 (.t 99) (.t 100)⟩,
 ⟨some 102, none, .rd, .load true 32 (.t 101)⟩,
 ⟨some 103,none,.no,.fa 5 (.t 3)⟩,
 ⟨some 104, none, .rd, .load false 1 (.t 103)⟩,
 ⟨some 105,none,.no,.mv (.t 7)⟩,
 ⟨some 106,none,.no,.iaSl 32 (.t 104) (.t 105)⟩,
 ⟨some 107, none, .rd, .load true 32 (.t 106)⟩,
 ⟨some 108,none,.no,.bin .neq (.agg (List.replicate 32 (.i .u8) ++ [])) (.t 102) (.t 107)⟩]
@[go_sem] def q2jr41 : List AIns := [
 ⟨some 4,none,.no,.mv (.v (.bool false))⟩]
def q2jc42 : ACode := .seq (.reg q2jr41) .ret
def q2jc43 : ACode := .cond (.t 108) q2jc42 .skip
def q2jc44 : ACode := .seq (.reg q2jr40) q2jc43
@[go_sem] def q2jr45 : List AIns := [
 ⟨some 96,none,.no,.mv (.t 7)⟩,
 ⟨some 97,none,.no,.bin .add .none (.t 96) (.v (.int .i64 1))⟩,
 ⟨some 7,none,.no,.mv (.t 97)⟩]
def q2jc46 : ACode := .seq (.block 5 q2jc44) (.reg q2jr45)
def q2jc47 : ACode := .seq q2jc39 q2jc46
def q2jc48 : ACode := .loop q2jc47
def q2jc49 : ACode := .block 4 q2jc48
def q2jc50 : ACode := .seq (.reg q2jr36) q2jc49
@[go_sem] def q2jr51 : List AIns := [
 ⟨some 4,none,.no,.mv (.v (.bool true))⟩]
def q2jc52 : ACode := .seq (.reg q2jr51) .ret
def q2jc53 : ACode := .seq q2jc50 q2jc52
def q2jc54 : ACode := .seq q2jc35 q2jc53
def q2jc55 : ACode := .seq q2jc20 q2jc54
def q2jc56 : ACode := .seq q2jc5 q2jc55
def q2jc57 : ACode := .seq (.reg q2jr0) q2jc56
theorem q2jok : cFn TC 71 = some (109, [.t 4], q2jc57) := by kernel_rfl
end
section
theorem zmk (h : Hdr) : zab h.n h.n h.i h.i h.r h.r h.s h.s h.p h.p = true := by simp [zab]
attribute [local irreducible] ACallsTo ACallsP
theorem zhr (Y : Store) (h : Hdr) (hl : h.p.length < 1000000) : ACallsTo TC 19 [.agg (hdrC h), .agg (hdrC h)] Y (.bool true) Y := by
 have := zqr Y h.n h.n h.i h.i h.r h.r h.s h.s h.p h.p _ _ (z3d 32 (hr h.p)) (z3d 32 (hr h.p)) hl hl
 rw [zmk] at this
 exact this
set_option maxHeartbeats 4000000 in
theorem zjs (Y : Store) (L : List (List UInt8)) (x y : AV) (hx : SlV 1 (strs L) x) (hy : SlV 1 (strs L) y) (hl : L.length < 1000000) : ACallsTo TC 31 [x, y] Y (.bool true) Y := by
 have r1 := hx.len
 have r2 := hy.len
 rw [zg] at r1 r2
 unfold z1j at r1 r2
 refine ACallsTo.of_body q2eok (by simp) fun hw _ => ?_
 repeat' (first|apply zs_|apply zb_|apply zc_|apply zt_ rfl|apply zf_ rfl|(refine zd_ rfl (fun ht => ?_) (fun ht => ?_)<;>try (exfalso;omega))|((first|apply zr_|apply zk_|apply ze_|apply zq_|((first|apply zg0|apply zg1|apply zg2|apply zg3|apply zg4|apply zg5|apply zg6|apply zg7)<;>intro ht));all_goals try simp (disch:=first|omega|(simp only [lens,z7,z6,lQr,lQm,lQt,lQd,z8,zg,zj,zi,zm];first|done|omega)) only [go_sem,nQ1,nQ2,nQ3,nQ4,nQ5,nQ6,nQ7,nQ8,r1,r2]))
 refine zW.loop (fun m O Y' => ∃ i : Nat, m + i = L.length /\ Y' = Y /\ O 0 = x /\ O 1 = y /\ O 5 = .int .i64 i) L.length ?_ ?_
 ·exact ⟨0, by omega, rfl, by simp (disch:=first|omega|(simp only [lens,z7,z6,lQr,lQm,lQt,lQd,z8,zg,zj,zi,zm];first|done|omega)) only [go_sem,nQ1,nQ2,nQ3,nQ4,nQ5,nQ6,nQ7,nQ8],by simp (disch:=first|omega|(simp only [lens,z7,z6,lQr,lQm,lQt,lQd,z8,zg,zj,zi,zm];first|done|omega)) only [go_sem,nQ1,nQ2,nQ3,nQ4,nQ5,nQ6,nQ7,nQ8],by simp (disch:=first|omega|(simp only [lens,z7,z6,lQr,lQm,lQt,lQd,z8,zg,zj,zi,zm];first|done|omega)) only [go_sem,nQ1,nQ2,nQ3,nQ4,nQ5,nQ6,nQ7,nQ8]; rfl⟩
 ·rintro m O Y' ⟨i, hm, rfl, q0, q1, q5⟩
  by_cases hi : i < L.length
  ·obtain ⟨e1, rfl⟩ := hx.vsl (by rw [zg]; omega)
   obtain ⟨e2, rfl⟩ := hy.vsl (by rw [zg]; omega)
   have hg := ze4 hi
   repeat' (first|apply zs_|apply zb_|apply zc_|apply zt_ rfl|apply zf_ rfl|(refine zd_ rfl (fun ht => ?_) (fun ht => ?_)<;>try (exfalso;omega))|((first|apply zr_|apply zk_|apply ze_|apply zq_|((first|apply zg0|apply zg1|apply zg2|apply zg3|apply zg4|apply zg5|apply zg6|apply zg7)<;>intro ht));all_goals try simp (disch:=first|omega|(simp only [lens,z7,z6,lQr,lQm,lQt,lQd,z8,zg,zj,zi,zm];first|done|omega)) only [go_sem,nQ1,nQ2,nQ3,nQ4,nQ5,nQ6,nQ7,nQ8,q0,q1,q5,hg,r1]))
   exact ⟨m - 1, by omega, i + 1, by omega, by simp⟩
  ·obtain rfl : i = L.length := by omega
   repeat' (first|apply zs_|apply zb_|apply zc_|apply zt_ rfl|apply zf_ rfl|(refine zd_ rfl (fun ht => ?_) (fun ht => ?_)<;>try (exfalso;omega))|((first|apply zr_|apply zk_|apply ze_|apply zq_|((first|apply zg0|apply zg1|apply zg2|apply zg3|apply zg4|apply zg5|apply zg6|apply zg7)<;>intro ht));all_goals try simp (disch:=first|omega|(simp only [lens,z7,z6,lQr,lQm,lQt,lQd,z8,zg,zj,zi,zm];first|done|omega)) only [go_sem,nQ1,nQ2,nQ3,nQ4,nQ5,nQ6,nQ7,nQ8,q0,q1,q5,r1]))
   exact DownV.same hw (z14 _ rfl)
theorem zeo (Y : Store) (L : List (List UInt8)) (x y : AV) (hx : RdSl Y 1 (strs L) x) (hy : RdSl Y 1 (strs L) y) (hl : L.length < 1000000) : ACallsTo TC 31 [x, y] Y (.bool true) Y := by
 obtain ⟨x0, h0, hd⟩ := hx.lend (z6c L)
 obtain ⟨y0, h1, hd1⟩ := hy.lend (z6c L)
 have := ACallsTo.lend glok (zjs [] L x0 y0 h0 h1 hl) (drsc hd (drs1 hd1))
 rwa [show sh Y.length (.bool true) = .bool true from rfl, z5v, List.append_nil] at this
def repC (i k c : Int) (h e p : AV) : List AV := [.int .i64 i, .int .i64 k, .int .i64 c, h, e, p]
set_option maxHeartbeats 16000000 in
theorem zjq (Y : Store) (i k c : Int) (H : List Hdr) (L : List (List UInt8)) (P : List Hash) (hx hy ex ey px py : AV) (h1 : SlV 36 (hdrs H) hx) (h2 : SlV 36 (hdrs H) hy) (h3 : SlV 1 (strs L) ex) (h4 : SlV 1 (strs L) ey) (h5 : SlV 32 (hr P) px) (h6 : SlV 32 (hr P) py)
  (hH : H.length < 1000000) (hL : L.length < 1000000) (hP : P.length < 1000000) (hHp : ∀ h ∈ H, h.p.length < 1000000) : ACallsTo TC 71 [.agg (repC i k c hx ex px), .agg (repC i k c hy ey py)] Y (.bool true) Y := by
 have r1 := h1.len
 have r2 := h2.len
 have r3 := h3.len
 have r4 := h4.len
 have r5 := h5.len
 have r6 := h6.len
 rw [zi] at r1 r2
 rw [zg] at r3 r4
 rw [z6] at r5 r6
 unfold z1j at r1 r2 r3 r4 r5 r6
 unfold repC
 refine ACallsTo.of_body q2jok (by simp) fun hw _ => ?_
 repeat' (first|apply zs_|apply zb_|apply zc_|apply zt_ rfl|apply zf_ rfl|(refine zd_ rfl (fun ht => ?_) (fun ht => ?_)<;>try (exfalso;omega))|((first|apply zr_|apply zk_|apply ze_|apply zq_|((first|apply zg0|apply zg1|apply zg2|apply zg3|apply zg4|apply zg5|apply zg6|apply zg7)<;>intro ht));all_goals try simp (disch:=first|omega|(simp only [lens,z7,z6,lQr,lQm,lQt,lQd,z8,zg,zj,zi,zm];first|done|omega)) only [go_sem,nQ1,nQ2,nQ3,nQ4,nQ5,nQ6,nQ7,nQ8,r1,r2,r3,r4,r5,r6]))
 have hb0 : ∀ (y : Store), y = Y ++ [some [[.int .i64 i, .int .i64 k, .int .i64 c, hx, ex, px]], some [[.int .i64 i, .int .i64 k, .int .i64 c, hy, ey, py]]] -> True := fun _ _ => trivial
 refine zW.loop (fun m O Y' => ∃ j : Nat, m + j = H.length /\ Y' = Y ++ [some [[.int .i64 i, .int .i64 k, .int .i64 c, hx, ex, px]], some [[.int .i64 i, .int .i64 k, .int .i64 c, hy, ey, py]]] /\ O 2 = .ptr Y.length 0 0 /\ O 3 = .ptr (Y.length + 1) 0 0 /\ O 5 = .int .i64 j) H.length ?_ ?_
 ·exact ⟨0, by omega, rfl, by simp (disch:=first|omega|(simp only [lens,z7,z6,lQr,lQm,lQt,lQd,z8,zg,zj,zi,zm];first|done|omega)) only [go_sem,nQ1,nQ2,nQ3,nQ4,nQ5,nQ6,nQ7,nQ8],by simp (disch:=first|omega|(simp only [lens,z7,z6,lQr,lQm,lQt,lQd,z8,zg,zj,zi,zm];first|done|omega)) only [go_sem,nQ1,nQ2,nQ3,nQ4,nQ5,nQ6,nQ7,nQ8],by simp (disch:=first|omega|(simp only [lens,z7,z6,lQr,lQm,lQt,lQd,z8,zg,zj,zi,zm];first|done|omega)) only [go_sem,nQ1,nQ2,nQ3,nQ4,nQ5,nQ6,nQ7,nQ8]; rfl⟩
 ·rintro m O Y' ⟨j, hm, rfl, q2, q3, q5⟩
  by_cases hj : j < H.length
  ·obtain ⟨e1, rfl⟩ := h1.vsl (by rw [zi]; omega)
   obtain ⟨e2, rfl⟩ := h2.vsl (by rw [zi]; omega)
   have hg := z8h hj
   have hS := fun Y => zhr Y H[j] (hHp _ (List.getElem_mem hj))
   have hcl := zm H[j]
   have hca := zaa H[j]
   generalize H[j] = h at *
   repeat' (first|apply zs_|apply zb_|apply zc_|apply zt_ rfl|apply zf_ rfl|(refine zd_ rfl (fun ht => ?_) (fun ht => ?_)<;>try (exfalso;omega))|((first|apply zr_|apply zk_|apply ze_|apply zq_|(apply callW.mk_pu; (first | exact (fun _ => hS _))) | (apply callW.za; (first | exact (hS _))) | ((first|apply zg0|apply zg1|apply zg2|apply zg3|apply zg4|apply zg5|apply zg6|apply zg7)<;>intro ht));all_goals try simp (disch:=first|omega|(simp only [lens,z7,z6,lQr,lQm,lQt,lQd,z8,zg,zj,zi,zm];first|done|omega)) only [go_sem,nQ1,nQ2,nQ3,nQ4,nQ5,nQ6,nQ7,nQ8,q2,q3,q5,hg,r1,hcl,hca]))
   exact ⟨m - 1, by omega, j + 1, by omega, by simp⟩
  ·obtain rfl : j = H.length := by omega
   repeat' (first|apply zs_|apply zb_|apply zc_|apply zt_ rfl|apply zf_ rfl|(refine zd_ rfl (fun ht => ?_) (fun ht => ?_)<;>try (exfalso;omega))|((first|apply zr_|apply zk_|apply ze_|apply zq_|((first|apply zg0|apply zg1|apply zg2|apply zg3|apply zg4|apply zg5|apply zg6|apply zg7)<;>intro ht));all_goals try simp (disch:=first|omega|(simp only [lens,z7,z6,lQr,lQm,lQt,lQd,z8,zg,zj,zi,zm];first|done|omega)) only [go_sem,nQ1,nQ2,nQ3,nQ4,nQ5,nQ6,nQ7,nQ8,q2,q3,q5,r1]))
   refine zW.loop (fun m O Y' => ∃ j : Nat, m + j = L.length /\ Y' = Y ++ [some [[.int .i64 i, .int .i64 k, .int .i64 c, hx, ex, px]], some [[.int .i64 i, .int .i64 k, .int .i64 c, hy, ey, py]]] /\ O 2 = .ptr Y.length 0 0 /\ O 3 = .ptr (Y.length + 1) 0 0 /\ O 6 = .int .i64 j) L.length ?_ ?_
   ·exact ⟨0, by omega, rfl, by simp (disch:=first|omega|(simp only [lens,z7,z6,lQr,lQm,lQt,lQd,z8,zg,zj,zi,zm];first|done|omega)) only [go_sem,nQ1,nQ2,nQ3,nQ4,nQ5,nQ6,nQ7,nQ8,q2],by simp (disch:=first|omega|(simp only [lens,z7,z6,lQr,lQm,lQt,lQd,z8,zg,zj,zi,zm];first|done|omega)) only [go_sem,nQ1,nQ2,nQ3,nQ4,nQ5,nQ6,nQ7,nQ8,q3],by simp (disch:=first|omega|(simp only [lens,z7,z6,lQr,lQm,lQt,lQd,z8,zg,zj,zi,zm];first|done|omega)) only [go_sem,nQ1,nQ2,nQ3,nQ4,nQ5,nQ6,nQ7,nQ8]; rfl⟩
   ·rintro m O Y' ⟨j, hm, rfl, q2, q3, q6⟩
    by_cases hj : j < L.length
    ·obtain ⟨e1, rfl⟩ := h3.vsl (by rw [zg]; omega)
     obtain ⟨e2, rfl⟩ := h4.vsl (by rw [zg]; omega)
     have hg := ze4 hj
     repeat' (first|apply zs_|apply zb_|apply zc_|apply zt_ rfl|apply zf_ rfl|(refine zd_ rfl (fun ht => ?_) (fun ht => ?_)<;>try (exfalso;omega))|((first|apply zr_|apply zk_|apply ze_|apply zq_|((first|apply zg0|apply zg1|apply zg2|apply zg3|apply zg4|apply zg5|apply zg6|apply zg7)<;>intro ht));all_goals try simp (disch:=first|omega|(simp only [lens,z7,z6,lQr,lQm,lQt,lQd,z8,zg,zj,zi,zm];first|done|omega)) only [go_sem,nQ1,nQ2,nQ3,nQ4,nQ5,nQ6,nQ7,nQ8,q2,q3,q6,hg,r3]))
     exact ⟨m - 1, by omega, j + 1, by omega, by simp⟩
    ·obtain rfl : j = L.length := by omega
     repeat' (first|apply zs_|apply zb_|apply zc_|apply zt_ rfl|apply zf_ rfl|(refine zd_ rfl (fun ht => ?_) (fun ht => ?_)<;>try (exfalso;omega))|((first|apply zr_|apply zk_|apply ze_|apply zq_|((first|apply zg0|apply zg1|apply zg2|apply zg3|apply zg4|apply zg5|apply zg6|apply zg7)<;>intro ht));all_goals try simp (disch:=first|omega|(simp only [lens,z7,z6,lQr,lQm,lQt,lQd,z8,zg,zj,zi,zm];first|done|omega)) only [go_sem,nQ1,nQ2,nQ3,nQ4,nQ5,nQ6,nQ7,nQ8,q2,q3,q6,r3]))
     refine zW.loop (fun m O Y' => ∃ j : Nat, m + j = P.length /\ Y' = Y ++ [some [[.int .i64 i, .int .i64 k, .int .i64 c, hx, ex, px]], some [[.int .i64 i, .int .i64 k, .int .i64 c, hy, ey, py]]] /\ O 2 = .ptr Y.length 0 0 /\ O 3 = .ptr (Y.length + 1) 0 0 /\ O 7 = .int .i64 j) P.length ?_ ?_
     ·exact ⟨0, by omega, rfl, by simp (disch:=first|omega|(simp only [lens,z7,z6,lQr,lQm,lQt,lQd,z8,zg,zj,zi,zm];first|done|omega)) only [go_sem,nQ1,nQ2,nQ3,nQ4,nQ5,nQ6,nQ7,nQ8,q2],by simp (disch:=first|omega|(simp only [lens,z7,z6,lQr,lQm,lQt,lQd,z8,zg,zj,zi,zm];first|done|omega)) only [go_sem,nQ1,nQ2,nQ3,nQ4,nQ5,nQ6,nQ7,nQ8,q3],by simp (disch:=first|omega|(simp only [lens,z7,z6,lQr,lQm,lQt,lQd,z8,zg,zj,zi,zm];first|done|omega)) only [go_sem,nQ1,nQ2,nQ3,nQ4,nQ5,nQ6,nQ7,nQ8]; rfl⟩
     ·rintro m O Y' ⟨j, hm, rfl, q2, q3, q7⟩
      by_cases hj : j < P.length
      ·obtain ⟨e1, rfl⟩ := h5.vsl (by rw [z6]; omega)
       obtain ⟨e2, rfl⟩ := h6.vsl (by rw [z6]; omega)
       repeat' (first | refine zs_ ?_ | refine zb_ ?_ | refine zc_ ?_ | refine zt_ rfl ?_ | refine zf_ rfl ?_ | (refine zd_ rfl (fun ht => ?_) (fun ht => ?_) <;> try (exfalso; omega)) | ((first | refine zW.regS ?_ | refine zk_ ?_ | refine ze_ ?_ | refine zq_ ?_ | ((first|apply zg0|apply zg1|apply zg2|apply zg3|apply zg4|apply zg5|apply zg6|apply zg7)<;>intro ht));all_goals try simp (disch:=first|omega|(simp only [lens,z7,z6,lQr,lQm,lQt,lQd,z8,zg,zj,zi,zm];first|done|omega)) only [go_sem,nQ1,nQ2,nQ3,nQ4,nQ5,nQ6,nQ7,nQ8,q2,q3,q7]))
       exact ⟨m - 1, by omega, j + 1, by omega, by simp⟩
      ·obtain rfl : j = P.length := by omega
       repeat' (first|apply zs_|apply zb_|apply zc_|apply zt_ rfl|apply zf_ rfl|(refine zd_ rfl (fun ht => ?_) (fun ht => ?_)<;>try (exfalso;omega))|((first|apply zr_|apply zk_|apply ze_|apply zq_|((first|apply zg0|apply zg1|apply zg2|apply zg3|apply zg4|apply zg5|apply zg6|apply zg7)<;>intro ht));all_goals try simp (disch:=first|omega|(simp only [lens,z7,z6,lQr,lQm,lQt,lQd,z8,zg,zj,zi,zm];first|done|omega)) only [go_sem,nQ1,nQ2,nQ3,nQ4,nQ5,nQ6,nQ7,nQ8,q2,q3,q7,r5]))
       exact DownV.pure hw (z14 _ rfl)
theorem zel (Y : Store) (i k c : Int) (H : List Hdr) (L : List (List UInt8)) (P : List Hash) (hx hy ex ey px py : AV) (h1 : RdSl Y 36 (hdrs H) hx) (h2 : RdSl Y 36 (hdrs H) hy) (h3 : RdSl Y 1 (strs L) ex) (h4 : RdSl Y 1 (strs L) ey) (h5 : RdSl Y 32 (hr P) px) (h6 : RdSl Y 32 (hr P) py)
  (hH : H.length < 1000000) (hL : L.length < 1000000) (hP : P.length < 1000000) (hHp : ∀ h ∈ H, h.p.length < 1000000) : ACallsTo TC 71 [.agg (repC i k c hx ex px), .agg (repC i k c hy ey py)] Y (.bool true) Y := by
 obtain ⟨x1, k1, d1⟩ := h1.lend (zaw H)
 obtain ⟨x2, k2, d2⟩ := h2.lend (zaw H)
 obtain ⟨x3, k3, d3⟩ := h3.lend (z6c L)
 obtain ⟨x4, k4, d4⟩ := h4.lend (z6c L)
 obtain ⟨x5, k5, d5⟩ := h5.lend (z1w P)
 obtain ⟨x6, k6, d6⟩ := h6.lend (z1w P)
 have hi : ∀ i : Int, RL 0 (.int .i64 i) := fun i => by simp [RL]
 have := ACallsTo.lend glok (zjq [] i k c H L P x1 x2 x3 x4 x5 x6 k1 k2 k3 k4 k5 k6 hH hL hP hHp)
  (drsc (drA (drsc (rl0 (hi i) Y) (drsc (rl0 (hi k) Y) (drsc (rl0 (hi c) Y) (drsc d1 (drsc d3 (drs1 d5))))))) (drs1 (drA (drsc (rl0 (hi i) Y) (drsc (rl0 (hi k) Y) (drsc (rl0 (hi c) Y) (drsc d2 (drsc d4 (drs1 d6)))))))))
 rwa [show sh Y.length (.bool true) = .bool true from rfl, z5v, List.append_nil] at this
theorem z8b {x : AV} (h : cellsOf x = some [x]) (cells : List AV) (off : Nat) (rest : List (Nat × Nat × AV)) (hl : off + 1 <= cells.length) : z16 cells ((off, 1, x) :: rest) = z16 (z19 cells off [x]) rest := by simp [z16, h, hl]
theorem zbi (Y : Store) (H : List Hdr) (x y : AV) (hx : RdSl Y 36 (hdrs H) x) (hy : RdSl Y 36 (hdrs H) y) (hH : H.length < 1000000) (hHp : ∀ h ∈ H, h.p.length < 1000000) : ACallsTo TC 33 [x, y] Y (.bool true) Y := by
 have hn : ∀ sz, RdSl Y sz ([] : List (List AV)) .nilsl := fun sz => .of (.inl ⟨rfl, rfl⟩)
 have hS := zel Y 0 0 0 H [] [] x y .nilsl .nilsl .nilsl .nilsl hx hy (hn 1) (hn 1) (hn 32) (hn 32) hH (by simp) (by simp) hHp
 have fx := z8b hx.cells
 have fy := z8b hy.cells
 have xc := hx.cells
 have yc := hy.cells
 unfold cellsOf at xc yc
 unfold repC at hS
 refine ACallsTo.of_body q2fok (by simp) fun hw _ => ?_
 repeat' (first|apply zs_|apply zb_|apply zc_|apply zt_ rfl|apply zf_ rfl|(refine zd_ rfl (fun ht => ?_) (fun ht => ?_)<;>try (exfalso;omega))|((first|apply zr_|apply zk_|apply ze_|apply zq_|(apply callW.mk_pu; (first | exact (fun _ => hS))) | (apply callW.za; (first | exact (hS))) | ((first|apply zg0|apply zg1|apply zg2|apply zg3|apply zg4|apply zg5|apply zg6|apply zg7)<;>intro ht));all_goals try simp (disch:=first|omega|(simp only [lens,z7,z6,lQr,lQm,lQt,lQd,z8,zg,zj,zi,zm];first|done|omega)) only [go_sem,nQ1,nQ2,nQ3,nQ4,nQ5,nQ6,nQ7,nQ8,xc,yc,fx,fy]))
 exact DownV.same hw z2b
end
section
def rfC (seed : List UInt8) (lg hv : AV) : List AV := [.str seed, .vsl 32 (hr (keyL seed)) false, lg, hv]
def RfIs (Y : Store) (r : Nat) (seed : List UInt8) (L : List (List UInt8)) (H : List Hdr) (own : List Nat) : Prop :=
 ∃ lg hv sl sh, own = r :: (Option.toList sl ++ Option.toList sh) /\ Y[r]? = some (some [rfC seed lg hv]) /\ RowAt 1 Y sl lg (strs L) /\ RowAt 36 Y sh hv (hdrs H)
theorem RfIs.lt {Y : Store} {r : Nat} {seed : List UInt8} {L : List (List UInt8)} {H : List Hdr} {own : List Nat} (h : RfIs Y r seed L H own) {j : Nat} (hj : j ∈ own) : j < Y.length := by
 obtain ⟨lg, hv, sl, sh, rfl, hg, h1, h2⟩ := h
 simp only [List.mem_cons, List.mem_append, Option.mem_toList] at hj
 rcases hj with rfl | h | h
 ·exact slen hg
 ·exact h1.lt h
 ·exact h2.lt h
theorem RfIs.keep {Y Y' : Store} {r : Nat} {seed : List UInt8} {L : List (List UInt8)} {H : List Hdr} {own : List Nat} (h : RfIs Y r seed L H own) (hk : ∀ j, j ∈ own -> Y'[j]? = Y[j]?) : RfIs Y' r seed L H own := by
 obtain ⟨lg, hv, sl, sh, rfl, hg, h1, h2⟩ := h
 refine ⟨lg, hv, sl, sh, rfl, ?_, h1.keep fun q e => hk q ?_, h2.keep fun q e => hk q ?_⟩
 ·rw [hk r (by simp)]; exact hg
 all_goals simp [e]
theorem RfIs.ext {Y Y' : Store} {r : Nat} {seed : List UInt8} {L : List (List UInt8)} {H : List Hdr} {own : List Nat} (h : RfIs Y r seed L H own) (he : Ext Y Y') : RfIs Y' r seed L H own := by
 obtain ⟨y, rfl⟩ := he
 exact h.keep fun j hj => gapp (h.lt hj)
def RAppendP (Y : Store) (r : Nat) (seed : List UInt8) (L : List (List UInt8)) (H : List Hdr) (own : List Nat) (s : List UInt8) (a : AV) (Y' : Store) : Prop :=
 a = .int .i64 (apE s) /\ ∃ own', Fr Y Y' own own' /\ RfIs Y' r seed (apL L s) H own'
theorem RAppendP.ok {Y Y' : Store} {r q : Nat} {seed : List UInt8} {L : List (List UInt8)} {H : List Hdr} {s : List UInt8} {hv : AV} {sl sh : Option Nat} (h200 : ¬ 200 < s.length)
  (hg : Y'[r]? = some (some [rfC seed (.sl q 0 (L.length + 1) none 1) hv])) (h1 : Y'[q]? = some (some (strs (L ++ [s])))) (h2 : RowAt 36 Y' sh hv (hdrs H)) (hq : Y.length <= q) (hle : Y.length <= Y'.length) (hst : ∀ j, j < Y.length -> j ≠ r -> Y'[j]? = Y[j]?) :
  RAppendP Y r seed L H (r :: (Option.toList sl ++ Option.toList sh)) s (.int .i64 0) Y' := by
 refine ⟨by unfold apE; rw [if_neg h200], r :: (Option.toList (some q) ++ Option.toList sh), ⟨fun j hj hn => ?_, fun j hj => ?_, hle⟩, ?_⟩
 ·simp only [List.mem_cons, List.mem_append, Option.mem_toList, not_or] at hn
  exact hst j hj hn.1
 ·simp only [List.mem_cons, List.mem_append, Option.mem_toList, Option.some.injEq] at hj ⊢
  rcases hj with h | h | h
  ·exact .inl (.inl h)
  ·exact .inr (by omega)
  ·exact .inl (.inr (.inr h))
 ·unfold apL
  rw [if_neg h200]
  exact ⟨_, hv, some q, sh, rfl, hg, .inr ⟨q, rfl, z92 (by simp), by rw [zg, List.length_append]; rfl, h1⟩, h2⟩
theorem z5t (seed : List UInt8) (lg hv : AV) : (rfC seed lg hv).length = 4 := rfl
theorem RAppendP.is {Y : Store} {r : Nat} {seed : List UInt8} {L : List (List UInt8)} {H : List Hdr} {own : List Nat} {s : List UInt8} (hT : RfIs Y r seed L H own) : ∃ a Y', RAppendP Y r seed L H own s a Y' := by
 by_cases h : 200 < s.length
 ·exact ⟨_, Y, rfl, own, .ext (.refl _), by unfold apL; rw [if_pos h]; exact hT⟩
 ·obtain ⟨lg, hv, sl, sh, rfl, hg, h1, h2⟩ := hT
  have d := slen hg
  have hst : ∀ j, j < Y.length -> j ≠ r -> ((Y.set r (some [rfC seed (.sl Y.length 0 (L.length + 1) none 1) hv])) ++ [some (strs (L ++ [s]))])[j]? = Y[j]? := fun j hj hjr => by
   rw [gapp (by simpa using hj), z1d (fun e => hjr e.symm)]
  refine ⟨_, (Y.set r (some [rfC seed (.sl Y.length 0 (L.length + 1) none 1) hv])) ++ [some (strs (L ++ [s]))], .ok (q := Y.length) h ?_ ?_ (h2.keep fun j e => hst j (h2.lt e) (h2.ne z3e hg (b := rfC seed lg hv) rfl (by rw [z5t]; omega) j e)) (Nat.le_refl _) (by simp) hst⟩
  ·rw [gapp (by simpa using d), z22 d]
  ·rw [z1a (by simp)]; simp
attribute [local irreducible] ACallsTo ACallsP
theorem zqx (Y : Store) (seed : List UInt8) (hs : seed.length < 1000000) : ACallsTo TC 24 [.str seed] Y (.ptr Y.length 0 0) (Y ++ [some [rfC seed .nilsl .nilsl]]) := by
 have hL := fun Y => zqt Y seed hs
 unfold rfC
 refine ACallsTo.of_body_keep q2aok (by simp) ?_
 repeat' (first|apply zs_|apply zb_|apply zc_|apply zt_ rfl|apply zf_ rfl|(refine zd_ rfl (fun ht => ?_) (fun ht => ?_)<;>try (exfalso;omega))|((first|apply zr_|apply zk_|apply ze_|apply zq_|(apply callW.mk_pu; (first | exact (fun _ => hL _))) | (apply callW.za; (first | exact (hL _))) | ((first|apply zg0|apply zg1|apply zg2|apply zg3|apply zg4|apply zg5|apply zg6|apply zg7)<;>intro ht));all_goals try simp (disch:=first|omega|(simp only [lens,z7,z6,lQr,lQm,lQt,lQd,z8,zg,zj,zi,zm];first|done|omega)) only [go_sem,nQ1,nQ2,nQ3,nQ4,nQ5,nQ6,nQ7,nQ8,z3r]))
theorem zqw (Y : Store) (seed : List UInt8) : RfIs (Y ++ [some [rfC seed .nilsl .nilsl]]) Y.length seed [] [] [Y.length] :=
 ⟨.nilsl, .nilsl, none, none, rfl, by rw [z1a (by omega), Nat.sub_self]; rfl, .inl ⟨rfl, rfl, rfl⟩, .inl ⟨rfl, rfl, rfl⟩⟩
theorem RfIs.key {Y : Store} {r : Nat} {seed : List UInt8} {L : List (List UInt8)} {H : List Hdr} {own : List Nat} (h : RfIs Y r seed L H own) : ACallsTo TC 26 [.ptr r 0 0] Y (.agg (hc (z18 (keyL seed)))) Y := by
 obtain ⟨lg, hv, sl, sh, rfl, hg, h1, h2⟩ := h
 have d := slen hg
 have hR := fun Y => zr1 Y (keyL seed) false (z23 seed)
 unfold rfC at hg
 refine ACallsTo.of_body q2bok (by simp) fun hw _ => ?_
 repeat' (first|apply zs_|apply zb_|apply zc_|apply zt_ rfl|apply zf_ rfl|(refine zd_ rfl (fun ht => ?_) (fun ht => ?_)<;>try (exfalso;omega))|((first|apply zr_|apply zk_|apply ze_|apply zq_|(apply callW.mk_pu; (first | exact (fun _ => hR _))) | (apply callW.za; (first | exact (hR _))) | ((first|apply zg0|apply zg1|apply zg2|apply zg3|apply zg4|apply zg5|apply zg6|apply zg7)<;>intro ht));all_goals try simp (disch:=first|omega|(simp only [lens,z7,z6,lQr,lQm,lQt,lQd,z8,zg,zj,zi,zm];first|done|omega)) only [go_sem,nQ1,nQ2,nQ3,nQ4,nQ5,nQ6,nQ7,nQ8,hg]))
 exact DownV.pure hw (z2l _)
set_option maxHeartbeats 8000000 in
theorem zqv (Y : Store) (r : Nat) (seed : List UInt8) (L : List (List UInt8)) (H : List Hdr) (own : List Nat) (s : List UInt8) (hT : RfIs Y r seed L H own) (hL : L.length < 4096) (hs : s.length < 1000000) :
  ACallsP TC 28 [.ptr r 0 0, .str s] Y (RAppendP Y r seed L H own s) := by
 have hT' := hT
 obtain ⟨lg, hv, sl, sh, rfl, hg, h1, h2⟩ := hT'
 have d := slen hg
 have hgS := hg
 have r1 := h1.rd.len
 rw [zg] at r1
 unfold z1j at r1
 have c2 := h2.cells
 unfold cellsOf at c2
 have hfull : ¬ (L.length : Int) >= 4096 := by omega
 unfold rfC at hg
 generalize hK : AV.vsl 32 (hr (keyL seed)) false = kv at hg
 refine ACallsP.of_keepW q2cok (by simp) fun hw => ?_
 by_cases h200 : 200 < s.length
 ·have h200' : (s.length : Int) > 200 := by omega
  repeat' (first|apply zs_|apply zb_|apply zc_|apply zt_ rfl|apply zf_ rfl|(refine zd_ rfl (fun ht => ?_) (fun ht => ?_)<;>try (exfalso;omega))|((first|apply zr_|apply zk_|apply ze_|apply zq_|((first|apply zg0|apply zg1|apply zg2|apply zg3|apply zg4|apply zg5|apply zg6|apply zg7)<;>intro ht));all_goals try simp (disch:=first|omega|(simp only [lens,z7,z6,lQr,lQm,lQt,lQd,z8,zg,zj,zi,zm];first|done|omega)) only [go_sem,nQ1,nQ2,nQ3,nQ4,nQ5,nQ6,nQ7,nQ8,h200']))
  exact ⟨by unfold apE; rw [if_pos h200], _, .ext (.refl _), by unfold apL; rw [if_pos h200]; exact hT⟩
 have h200' : ¬ (s.length : Int) > 200 := by omega
 rcases h1 with ⟨rfl, h0, rfl⟩ | ⟨q, rfl, hn, rfl, hq⟩
 ·have hL0 : L = [] := by have := congrArg List.length h0; rw [zg] at this; exact List.eq_nil_of_length_eq_zero this
  subst hL0
  repeat' (first|apply zs_|apply zb_|apply zc_|apply zt_ rfl|apply zf_ rfl|(refine zd_ rfl (fun ht => ?_) (fun ht => ?_)<;>try (exfalso;omega))|((first|apply zr_|apply zk_|apply ze_|apply zq_|((first|apply zg0|apply zg1|apply zg2|apply zg3|apply zg4|apply zg5|apply zg6|apply zg7)<;>intro ht));all_goals try simp (disch:=first|omega|(simp only [lens,z7,z6,lQr,lQm,lQt,lQd,z8,zg,zj,zi,zm];first|done|omega)) only [go_sem,nQ1,nQ2,nQ3,nQ4,nQ5,nQ6,nQ7,nQ8,hg,r1,hfull,h200',c2]))
  subst hK
  have hst : ∀ j, j < Y.length -> j ≠ r -> (List.set Y r (some [[AV.str seed, AV.vsl 32 (hr (keyL seed)) false, AV.sl Y.length 0 1 none 1, hv]]) ++ [some [[AV.str s]]])[j]? = Y[j]? := fun j hj hjr => by
   rw [gapp (by simpa using hj), z1d (fun e => hjr e.symm)]
  refine RAppendP.ok (q := Y.length) (sl := none) (hv := hv) h200 ?_ ?_ (h2.keep fun j e => hst j (h2.lt e) (h2.ne z3e hgS (b := rfC seed _ hv) rfl (by rw [z5t]; omega) j e)) (Nat.le_refl _) (by simp) hst
  ·rw [gapp (by simpa using d), z22 d]; rfl
  ·rw [z1a (by simp)]; simp [strs]
 ·have hL0 : L ≠ [] := fun e => hn (by rw [e]; rfl)
  have hLn : ¬ L.length = 0 := fun e => hL0 (List.eq_nil_of_length_eq_zero e)
  have dq := slen hq
  obtain ⟨a1, ha1, la1⟩ := ze3 hL0
  have n1 : q ≠ r := z3b hq hgS ha1 (b := rfC seed _ hv) rfl (by rw [z5t]; omega)
  have n1' := n1.symm
  have l1 := zg L
  rw [l1] at hg hgS
  repeat' (first|apply zs_|apply zb_|apply zc_|apply zt_ rfl|apply zf_ rfl|(refine zd_ rfl (fun ht => ?_) (fun ht => ?_)<;>try (exfalso;omega))|((first|apply zr_|apply zk_|apply ze_|apply zq_|((first|apply zg0|apply zg1|apply zg2|apply zg3|apply zg4|apply zg5|apply zg6|apply zg7)<;>intro ht));all_goals try simp (disch:=first|omega|(simp only [lens,z7,z6,lQr,lQm,lQt,lQd,z8,zg,zj,zi,zm];first|done|omega)) only [go_sem,nQ1,nQ2,nQ3,nQ4,nQ5,nQ6,nQ7,nQ8,hg,r1,hfull,h200',c2,hq,n1,n1',l1,hLn]))
  subst hK
  have hst : ∀ j, j < Y.length -> j ≠ r -> (List.set Y r (some [[AV.str seed, AV.vsl 32 (hr (keyL seed)) false, AV.sl (Y.length + 1) 0 (L.length + 1) none 1, hv]]) ++ [none, some (strs L ++ [[AV.str s]])])[j]? = Y[j]? := fun j hj hjr => by
   rw [gapp (by simpa using hj), z1d (fun e => hjr e.symm)]
  refine RAppendP.ok (q := Y.length + 1) (sl := some q) (hv := hv) h200 ?_ ?_ (h2.keep fun j e => hst j (h2.lt e) (h2.ne z3e hgS (b := rfC seed _ hv) rfl (by rw [z5t]; omega) j e)) (by omega) (by simp) hst
  ·rw [gapp (by simpa using d), z22 d]; rfl
  ·rw [z1a (by simp)]; simp [strs]
end
section
def RPublishP (Y : Store) (r : Nat) (seed : List UInt8) (L : List (List UInt8)) (H : List Hdr) (own : List Nat) (a : AV) (Y' : Store) : Prop :=
 a = puV seed L H /\ ∃ own', Fr Y Y' own own' /\ RfIs Y' r seed L (puH seed L H) own'
theorem RPublishP.no {Y Y' : Store} {r : Nat} {seed : List UInt8} {L : List (List UInt8)} {H : List Hdr} {own : List Nat} {e : Int} (hT : RfIs Y r seed L H own) (he : puE L H = e) (h0 : e ≠ 0) (hx : Ext Y Y') : RPublishP Y r seed L H own (.tup [.agg sgZ, .int .i64 e]) Y' := by
 subst he
 exact ⟨by unfold puV; rw [if_neg h0], own, .ext hx, by unfold puH; rw [if_neg h0]; exact hT.ext hx⟩
theorem RPublishP.ok {Y Y' : Store} {r q : Nat} {seed : List UInt8} {L : List (List UInt8)} {H : List Hdr} {lg : AV} {sl sh : Option Nat} (he : puE L H = 0)
  (hg : Y'[r]? = some (some [rfC seed lg (.sl q 0 (H.length + 1) none 36)])) (h1 : RowAt 1 Y' sl lg (strs L)) (hq : Y'[q]? = some (some (hdrs (H ++ [mkH seed H.length L])))) (hqn : Y.length <= q) (hle : Y.length <= Y'.length) (hst : ∀ j, j < Y.length -> j ≠ r -> Y'[j]? = Y[j]?) :
  RPublishP Y r seed L H (r :: (Option.toList sl ++ Option.toList sh)) (.tup [.agg (hdrC (mkH seed H.length L)), .int .i64 0]) Y' := by
 refine ⟨by unfold puV; rw [he, if_pos rfl], r :: (Option.toList sl ++ Option.toList (some q)), ⟨fun j hj hn => ?_, fun j hj => ?_, hle⟩, ?_⟩
 ·simp only [List.mem_cons, List.mem_append, Option.mem_toList, not_or] at hn
  exact hst j hj hn.1
 ·simp only [List.mem_cons, List.mem_append, Option.mem_toList, Option.some.injEq] at hj ⊢
  rcases hj with h | h | h
  ·exact .inl (.inl h)
  ·exact .inl (.inr (.inl h))
  ·exact .inr (by omega)
 ·unfold puH
  rw [if_pos he]
  exact ⟨lg, _, sl, some q, rfl, hg, h1, .inr ⟨q, rfl, z8i (by simp), by rw [zi, List.length_append]; rfl, hq⟩⟩
theorem RPublishP.is {Y : Store} {r : Nat} {seed : List UInt8} {L : List (List UInt8)} {H : List Hdr} {own : List Nat} (hT : RfIs Y r seed L H own) : ∃ a Y', RPublishP Y r seed L H own a Y' := by
 by_cases he : puE L H = 0
 ·obtain ⟨lg, hv, sl, sh, rfl, hg, h1, h2⟩ := hT
  have d := slen hg
  have hst : ∀ j, j < Y.length -> j ≠ r -> ((Y.set r (some [rfC seed lg (.sl Y.length 0 (H.length + 1) none 36)])) ++ [some (hdrs (H ++ [mkH seed H.length L]))])[j]? = Y[j]? := fun j hj hjr => by
   rw [gapp (by simpa using hj), z1d (fun e => hjr e.symm)]
  refine ⟨_, (Y.set r (some [rfC seed lg (.sl Y.length 0 (H.length + 1) none 36)])) ++ [some (hdrs (H ++ [mkH seed H.length L]))], .ok (q := Y.length) he ?_ (h1.keep fun j e => hst j (h1.lt e) (h1.ne z7g hg (b := rfC seed lg hv) rfl (by rw [z5t]; omega) j e)) ?_ (Nat.le_refl _) (by simp) hst⟩
  ·rw [gapp (by simpa using d), z22 d]
  ·rw [z1a (by simp)]; simp
 ·exact ⟨_, Y, .no hT rfl he (.refl _)⟩
attribute [local irreducible] ACallsTo ACallsP
set_option maxHeartbeats 4000000 in
theorem zdg (Y : Store) (L : List (List UInt8)) (q n : Nat) (lim : Option Nat) (hq : Y[q]? = some (some (strs L))) (hn : n <= L.length) (hL : ∀ s ∈ L, s.length < 1000000) (hl : L.length < 1000000) : ACallsTo TC 68 [.sl q 0 n lim 1] Y (z12 32 (hr (lvs (L.take n)))) Y := by
 have dq := slen hq
 have l1 := zg L
 refine ACallsTo.of_body q2iok (by simp) fun hw _ => ?_
 repeat' (first|apply zs_|apply zb_|apply zc_|apply zt_ rfl|apply zf_ rfl|(refine zd_ rfl (fun ht => ?_) (fun ht => ?_)<;>try (exfalso;omega))|((first|apply zr_|apply zk_|apply ze_|apply zq_|((first|apply zg0|apply zg1|apply zg2|apply zg3|apply zg4|apply zg5|apply zg6|apply zg7)<;>intro ht));all_goals try simp (disch:=first|omega|(simp only [lens,z7,z6,lQr,lQm,lQt,lQd,z8,zg,zj,zi,zm];first|done|omega)) only [go_sem,nQ1,nQ2,nQ3,nQ4,nQ5,nQ6,nQ7,nQ8]))
 refine zW.loop (fun m O Y' => ∃ (i : Nat) (v : AV), m + i = n /\ OwnN 32 Y Y' v (hr (lvs (L.take i))) /\ O 0 = .sl q 0 n lim 1 /\ O 3 = v /\ O 4 = .int .i64 i) n ?_ ?_
 ·refine ⟨0, .nilsl, by omega, ?_, by simp (disch:=first|omega|(simp only [lens,z7,z6,lQr,lQm,lQt,lQd,z8,zg,zj,zi,zm];first|done|omega)) only [go_sem,nQ1,nQ2,nQ3,nQ4,nQ5,nQ6,nQ7,nQ8],by simp (disch:=first|omega|(simp only [lens,z7,z6,lQr,lQm,lQt,lQd,z8,zg,zj,zi,zm];first|done|omega)) only [go_sem,nQ1,nQ2,nQ3,nQ4,nQ5,nQ6,nQ7,nQ8],by simp (disch:=first|omega|(simp only [lens,z7,z6,lQr,lQm,lQt,lQd,z8,zg,zj,zi,zm];first|done|omega)) only [go_sem,nQ1,nQ2,nQ3,nQ4,nQ5,nQ6,nQ7,nQ8]; rfl⟩
  exact ⟨[], by simp, .inl ⟨by simp [lvs, hr], rfl⟩⟩
 ·rintro m O Y' ⟨i, v, hm, hO, q0, q3, q4⟩
  by_cases hi : i < n
  ·have hg := ze4 (show i < L.length by omega)
   have hq' : Y'[q]? = some (some (strs L)) := by
    obtain ⟨y, rfl⟩ := hO.ext
    rw [gapp dq]; exact hq
   have hLf := fun Y => zqu Y (stD L i) (by have := hL _ (zsh (L := L) (i := i) (by omega)); omega)
   obtain ⟨v', Y2, ha, hO2⟩ := hO.app (ys := [hc (lfH (stD L i))]) (by simp) (by rw [z6, zj, List.length_take]; simp; omega)
   have hcat : hr (lvs (L.take i)) ++ [hc (lfH (stD L i))] = hr (lvs (L.take (i + 1))) := by rw [zsv (by omega)]; simp [lvs, hr]
   rw [hcat] at hO2
   rw [show L.getD i [] = stD L i from rfl] at hg
   generalize stD L i = s at *
   repeat' (first|apply zs_|apply zb_|apply zc_|apply zt_ rfl|apply zf_ rfl|(refine zd_ rfl (fun ht => ?_) (fun ht => ?_)<;>try (exfalso;omega))|((first|apply zr_|apply zk_|apply ze_|apply zq_|(apply callW.mk_pu; (first | exact (fun _ => hLf _))) | (apply callW.za; (first | exact (hLf _))) | ((first|apply zg0|apply zg1|apply zg2|apply zg3|apply zg4|apply zg5|apply zg6|apply zg7)<;>intro ht));all_goals try simp (disch:=first|omega|(simp only [lens,z7,z6,lQr,lQm,lQt,lQd,z8,zg,zj,zi,zm];first|done|omega)) only [go_sem,nQ1,nQ2,nQ3,nQ4,nQ5,nQ6,nQ7,nQ8,q0,q3,q4,hg,hq',l1,ha]))
   exact ⟨m - 1, by omega, i + 1, v', by omega, hO2, by simp⟩
  ·obtain rfl : i = n := by omega
   repeat' (first|apply zs_|apply zb_|apply zc_|apply zt_ rfl|apply zf_ rfl|(refine zd_ rfl (fun ht => ?_) (fun ht => ?_)<;>try (exfalso;omega))|((first|apply zr_|apply zk_|apply ze_|apply zq_|((first|apply zg0|apply zg1|apply zg2|apply zg3|apply zg4|apply zg5|apply zg6|apply zg7)<;>intro ht));all_goals try simp (disch:=first|omega|(simp only [lens,z7,z6,lQr,lQm,lQt,lQd,z8,zg,zj,zi,zm];first|done|omega)) only [go_sem,nQ1,nQ2,nQ3,nQ4,nQ5,nQ6,nQ7,nQ8,q0,q3,q4]))
   exact hO.froze hw (z1w _)
set_option maxHeartbeats 16000000 in
theorem zqy (Y : Store) (r : Nat) (seed : List UInt8) (L : List (List UInt8)) (H : List Hdr) (own : List Nat) (hT : RfIs Y r seed L H own) (hok : PubOk seed L H) (hL : L.length <= 4096) (hLs : ∀ s ∈ L, s.length < 1000000) (hs : seed.length < 1000000) :
  ACallsP TC 30 [.ptr r 0 0] Y (RPublishP Y r seed L H own) := by
 have hT' := hT
 obtain ⟨lg, hv, sl, sh, rfl, hg, h1, h2⟩ := hT'
 have hlen := hok.len
 have d := slen hg
 have hgS := hg
 have r1 := h1.rd.len
 rw [zg] at r1
 have r2 := h2.rd.len
 rw [zi] at r2
 have c1 := h1.cells
 have c2 := h2.cells
 unfold z1j at r1 r2
 unfold cellsOf at c1 c2
 have hml := zm (mkH seed H.length L)
 unfold rfC at hg
 have hSl := fun Y => zqz Y seed (keyL seed) false H.length (digH L.length (z18 (lvs L))) (z23 seed)
 have hmk : sgC L.length (z18 (lvs L)) H.length (ksgS seed H.length (digH L.length (z18 (lvs L))).1) (z12 32 (hr (z1i (keyL seed) H.length))) = hdrC (mkH seed H.length L) := rfl
 refine ACallsP.of_keepW q2dok (by simp) fun hw => ?_
 by_cases h8 : 8 <= H.length
 ·have he : puE L H = 85 := by unfold puE; rw [if_pos h8]
  have h8' : (H.length : Int) >= 8 := by omega
  repeat' (first|apply zs_|apply zb_|apply zc_|apply zt_ rfl|apply zf_ rfl|(refine zd_ rfl (fun ht => ?_) (fun ht => ?_)<;>try (exfalso;omega))|((first|apply zr_|apply zk_|apply ze_|apply zq_|((first|apply zg0|apply zg1|apply zg2|apply zg3|apply zg4|apply zg5|apply zg6|apply zg7)<;>intro ht));all_goals try simp (disch:=first|omega|(simp only [lens,z7,z6,lQr,lQm,lQt,lQd,z8,zg,zj,zi,zm];first|done|omega)) only [go_sem,nQ1,nQ2,nQ3,nQ4,nQ5,nQ6,nQ7,nQ8,hg,r2,h8']))
  exact RPublishP.no hT he (by omega) ⟨_, rfl⟩
 have h8' : ¬ (H.length : Int) >= 8 := by omega
 have hSl := fun Y => hSl Y (by omega) hs
 have hRt := fun Y => zar Y (lvs L) (z12 32 (hr (lvs L))) (.of (z3d _ _)) (by rw [zj]; omega)
 have hD := fun Y => zqq Y (L.length : Int) (z18 (lvs L))
 unfold z7c at hSl
 rcases h2 with ⟨rfl, h0, rfl⟩ | ⟨q, rfl, hn, rfl, hq⟩
 ·have hH : H = [] := by have := congrArg List.length h0; rw [zi] at this; exact List.eq_nil_of_length_eq_zero this
  subst hH
  by_cases hold : L.length = 0
  ·have he : puE L [] = 83 := by unfold puE; rw [if_neg (by simp), if_pos]; rw [hold]; simp [pubN]
   have hold' : (L.length : Int) = 0 := by omega
   repeat' (first|apply zs_|apply zb_|apply zc_|apply zt_ rfl|apply zf_ rfl|(refine zd_ rfl (fun ht => ?_) (fun ht => ?_)<;>try (exfalso;omega))|((first|apply zr_|apply zk_|apply ze_|apply zq_|((first|apply zg0|apply zg1|apply zg2|apply zg3|apply zg4|apply zg5|apply zg6|apply zg7)<;>intro ht));all_goals try simp (disch:=first|omega|(simp only [lens,z7,z6,lQr,lQm,lQt,lQd,z8,zg,zj,zi,zm];first|done|omega)) only [go_sem,nQ1,nQ2,nQ3,nQ4,nQ5,nQ6,nQ7,nQ8,hg,r1,hold']))
   exact RPublishP.no hT he (by omega) ⟨_, rfl⟩
  ·have he : puE L [] = 0 := by unfold puE; rw [if_neg (by simp), if_neg]; simp [pubN]; exact fun e => hold (by rw [e]; rfl)
   have hold' : ¬ (L.length : Int) = 0 := by omega
   have h1' := h1
   rcases h1 with ⟨_, h0, _⟩ | ⟨q1, rfl, _, rfl, hq1⟩
   ·exact absurd (by have := congrArg List.length h0; rw [zg] at this; exact this) hold
   rw [zg] at h1'
   have d1 := slen hq1
   have l1 := zg L
   rw [l1] at hg
   have hLv := fun y => zdg (Y ++ y) L q1 L.length none (by rw [gapp d1]; exact hq1) (Nat.le_refl _) hLs (by omega)
   rw [List.take_length] at hLv
   repeat' (first|apply zs_|apply zb_|apply zc_|apply zt_ rfl|apply zf_ rfl|(refine zd_ rfl (fun ht => ?_) (fun ht => ?_)<;>try (exfalso;omega))|((first|apply zr_|apply zk_|apply ze_|apply zq_|(apply callW.mk_pu; (first | exact (fun _ => hRt _) | exact (fun _ => hD _) | exact (fun _ => hSl _))) | (apply callW.za; (first | exact (hRt _) | exact (hD _) | exact (hSl _))) | ((first|apply zg0|apply zg1|apply zg2|apply zg3|apply zg4|apply zg5|apply zg6|apply zg7)<;>intro ht));all_goals try simp (disch:=first|omega|(simp only [lens,z7,z6,lQr,lQm,lQt,lQd,z8,zg,zj,zi,zm];first|done|omega)) only [go_sem,nQ1,nQ2,nQ3,nQ4,nQ5,nQ6,nQ7,nQ8,hg,r1,hold',l1]))
   refine callW.mk_pu2 (caps := []) (hLv _) (fun h hh => hh.elim) ?_
   simp (disch:=first|omega|(simp only [lens,z7,z6,lQr,lQm,lQt,lQd,z8,zg,zj,zi,zm];first|done|omega)) only [go_sem,nQ1,nQ2,nQ3,nQ4,nQ5,nQ6,nQ7,nQ8,hg,r1,hold',l1,hLv]
   repeat' (first|apply zs_|apply zb_|apply zc_|apply zt_ rfl|apply zf_ rfl|(refine zd_ rfl (fun ht => ?_) (fun ht => ?_)<;>try (exfalso;omega))|((first|apply zr_|apply zk_|apply ze_|apply zq_|(apply callW.mk_pu; (first | exact (fun _ => hRt _) | exact (fun _ => hD _) | exact (fun _ => hSl _))) | (apply callW.za; (first | exact (hRt _) | exact (hD _) | exact (hSl _))) | ((first|apply zg0|apply zg1|apply zg2|apply zg3|apply zg4|apply zg5|apply zg6|apply zg7)<;>intro ht));all_goals try simp (disch:=first|omega|(simp only [lens,z7,z6,lQr,lQm,lQt,lQd,z8,zg,zj,zi,zm];first|done|omega)) only [go_sem,nQ1,nQ2,nQ3,nQ4,nQ5,nQ6,nQ7,nQ8,hg,r1,hold',l1,hLv,zb0,z8z]))
   have hst : ∀ (x : Option AObj) (y : Store) (j : Nat), j < Y.length -> j ≠ r -> (List.set Y r x ++ y)[j]? = Y[j]? := fun x y j hj hjr => by
    rw [gapp (by simpa using hj), z1d (fun e => hjr e.symm)]
   refine RPublishP.ok (q := Y.length + 4) (lg := .sl q1 0 L.length none 1) (sl := some q1) he ?_ (h1'.keep fun j e => hst _ _ j (h1'.lt e) (h1'.ne z7g hgS (b := rfC seed _ _) rfl (by rw [z5t]; omega) j e)) ?_ (by omega) (by simp) (hst _ _)
   ·rw [gapp (by simpa using d), z22 d]; rfl
   ·rw [z1a (by simp)]
    simp only [List.length_set, Nat.add_sub_cancel_left]; rfl
 ·have hH0 : H ≠ [] := fun e => hn (by rw [e]; rfl)
  have dq := slen hq
  have hl0 : H.length ≠ 0 := fun e => hH0 (List.eq_nil_of_length_eq_zero e)
  have hdl := zi H
  have hgi := z8h (H := H) (i := H.length - 1) (by omega)
  have hk' : pubN H = (H[H.length - 1]'(by omega)).n := by
   unfold pubN
   rw [List.getElem?_eq_getElem (by omega)]; rfl
  have hLpos : 0 < L.length := by
   obtain ⟨n, _, k0, k1⟩ := hok.at' (H.length - 1) _ (List.getElem?_eq_getElem (by omega))
   omega
  generalize H[H.length - 1]'(by omega) = h at *
  have hc0 : (hdrC h)[0]? = some (.int .i64 h.n) := rfl
  have hcl := zm h
  have e1 : ((H.length : Int) - 1).toNat = H.length - 1 := by omega
  have e0 : (H.length : Int) > 0 := by omega
  have e9 : ¬ (H.length : Int) = 0 := by omega
  rw [hdl] at hg
  by_cases hold : h.n = (L.length : Int)
  ·have he : puE L H = 83 := by unfold puE; rw [if_neg h8, if_pos (by rw [hk', hold])]
   repeat' (first|apply zs_|apply zb_|apply zc_|apply zt_ rfl|apply zf_ rfl|(refine zd_ rfl (fun ht => ?_) (fun ht => ?_)<;>try (exfalso;omega))|((first|apply zr_|apply zk_|apply ze_|apply zq_|((first|apply zg0|apply zg1|apply zg2|apply zg3|apply zg4|apply zg5|apply zg6|apply zg7)<;>intro ht));all_goals try simp (disch:=first|omega|(simp only [lens,z7,z6,lQr,lQm,lQt,lQd,z8,zg,zj,zi,zm];first|done|omega)) only [go_sem,nQ1,nQ2,nQ3,nQ4,nQ5,nQ6,nQ7,nQ8,hg,hq,hdl,hgi,hc0,hcl,e1,e0,e9,h8',r1,hold]))
   exact RPublishP.no hT he (by omega) ⟨_, rfl⟩
  ·have he : puE L H = 0 := by unfold puE; rw [if_neg h8, if_neg (by rw [hk']; exact fun e => hold e.symm)]
   have h1' := h1
   rcases h1 with ⟨_, h0, _⟩ | ⟨q1, rfl, _, rfl, hq1⟩
   ·have := congrArg List.length h0
    rw [zg] at this
    simp at this
    rw [this] at hLpos; simp at hLpos
   rw [zg] at h1'
   have d1 := slen hq1
   have l1 := zg L
   rw [l1] at hg
   have hLv := fun y => zdg (Y ++ y) L q1 L.length none (by rw [gapp d1]; exact hq1) (Nat.le_refl _) hLs (by omega)
   rw [List.take_length] at hLv
   have hqr : q ≠ r := RowAt.ne (sz := 36) (sid := some q) (.inr ⟨q, rfl, hn, rfl, hq⟩) z3e hgS (b := rfC seed _ _) rfl (by rw [z5t]; omega) q rfl
   have hqr' := hqr.symm
   repeat' (first|apply zs_|apply zb_|apply zc_|apply zt_ rfl|apply zf_ rfl|(refine zd_ rfl (fun ht => ?_) (fun ht => ?_)<;>try (exfalso;omega))|((first|apply zr_|apply zk_|apply ze_|apply zq_|(apply callW.mk_pu; (first | exact (fun _ => hRt _) | exact (fun _ => hD _) | exact (fun _ => hSl _))) | (apply callW.za; (first | exact (hRt _) | exact (hD _) | exact (hSl _))) | ((first|apply zg0|apply zg1|apply zg2|apply zg3|apply zg4|apply zg5|apply zg6|apply zg7)<;>intro ht));all_goals try simp (disch:=first|omega|(simp only [lens,z7,z6,lQr,lQm,lQt,lQd,z8,zg,zj,zi,zm];first|done|omega)) only [go_sem,nQ1,nQ2,nQ3,nQ4,nQ5,nQ6,nQ7,nQ8,hg,hq,hdl,hgi,hc0,hcl,e1,e0,e9,h8',r1,hold,l1]))
   refine callW.mk_pu2 (caps := []) (hLv _) (fun h hh => hh.elim) ?_
   simp (disch:=first|omega|(simp only [lens,z7,z6,lQr,lQm,lQt,lQd,z8,zg,zj,zi,zm];first|done|omega)) only [go_sem,nQ1,nQ2,nQ3,nQ4,nQ5,nQ6,nQ7,nQ8,hg,r1,l1,hLv]
   repeat' (first|apply zs_|apply zb_|apply zc_|apply zt_ rfl|apply zf_ rfl|(refine zd_ rfl (fun ht => ?_) (fun ht => ?_)<;>try (exfalso;omega))|((first|apply zr_|apply zk_|apply ze_|apply zq_|(apply callW.mk_pu; (first | exact (fun _ => hRt _) | exact (fun _ => hD _) | exact (fun _ => hSl _))) | (apply callW.za; (first | exact (hRt _) | exact (hD _) | exact (hSl _))) | ((first|apply zg0|apply zg1|apply zg2|apply zg3|apply zg4|apply zg5|apply zg6|apply zg7)<;>intro ht));all_goals try simp (disch:=first|omega|(simp only [lens,z7,z6,lQr,lQm,lQt,lQd,z8,zg,zj,zi,zm];first|done|omega)) only [go_sem,nQ1,nQ2,nQ3,nQ4,nQ5,nQ6,nQ7,nQ8,hg,hq,hdl,hqr,hqr',hl0,r1,l1,hLv,zb0,z8z]))
   have hst : ∀ (x : Option AObj) (y : Store) (j : Nat), j < Y.length -> j ≠ r -> (List.set Y r x ++ y)[j]? = Y[j]? := fun x y j hj hjr => by
    rw [gapp (by simpa using hj), z1d (fun e => hjr e.symm)]
   refine RPublishP.ok (q := Y.length + 5) (lg := .sl q1 0 L.length none 1) (sl := some q1) he ?_ (h1'.keep fun j e => hst _ _ j (h1'.lt e) (h1'.ne z7g hgS (b := rfC seed _ _) rfl (by rw [z5t]; omega) j e)) ?_ (by omega) (by simp) (hst _ _)
   ·rw [gapp (by simpa using d), z22 d]; rfl
   ·rw [z1a (by simp), zgb]
    simp only [List.length_set, Nat.add_sub_cancel_left]; rfl
theorem RfIs.source {Y : Store} {r : Nat} {seed : List UInt8} {L : List (List UInt8)} {H : List Hdr} {own : List Nat} (h : RfIs Y r seed L H own) (hok : PubOk seed L H) (hL : L.length < 1000000) (hLs : ∀ s ∈ L, s.length < 1000000) (x : Hdr) (n : Nat) (hx : H[H.length - 1]? = some x) (hn : x.n = n) (hn0 : 0 < n) (hn1 : n <= L.length) :
  ∃ ev, RdSl Y 1 (strs (L.take n)) ev /\ cellsOf ev = some [ev] /\ ACallsTo TC 37 [.ptr r 0 0] Y (.agg [ev, z12 32 (hr (lvs (L.take n))), .vsl 36 [hdrC x] true, .nilsl]) Y := by
 obtain ⟨lg, hv, sl, sh, rfl, hg, h1, h2⟩ := h
 have d := slen hg
 have hl8 := hok.len
 have hHl : ¬ H.length = 0 := fun e => by rw [List.eq_nil_of_length_eq_zero e] at hx; simp at hx
 have hLne : L ≠ [] := fun e => by rw [e] at hn1; simp at hn1; omega
 rcases h1 with ⟨_, e, _⟩ | ⟨q1, _, _, rfl, hq1⟩
 ·exact absurd e (z92 hLne)
 rcases h2 with ⟨_, e, _⟩ | ⟨q2, _, _, rfl, hq2⟩
 ·exact absurd e (z8i fun e => hHl (by rw [e]; rfl))
 have d1 := slen hq1
 have d2 := slen hq2
 have hdl := zi H
 have l1 := zg L
 have hgi : (hdrs H)[H.length - 1]? = some (hdrC x) := by unfold hdrs; rw [List.getElem?_map, hx]; rfl
 have e1 : ((H.length : Int) - 1).toNat = H.length - 1 := by omega
 have e8 : ¬ (H.length : Int) = 0 := by omega
 have hc0 : (hdrC x)[0]? = some (.int .i64 n) := by rw [<- hn]; rfl
 have hcl := zm x
 have hca := zaa x
 rw [hdl, l1] at hg
 unfold rfC at hg
 have hLv := fun y lim => zdg (Y ++ y) L q1 n lim (by rw [gapp d1]; exact hq1) hn1 hLs hL
 refine ⟨.sl q1 0 n none 1, ?_, rfl, ?_⟩
 ·exact .inr ⟨q1, 0, none, _, by rw [zg, List.length_take, Nat.min_eq_left hn1], hq1, by simp [zg]; omega, by rw [zg, List.length_take, Nat.min_eq_left hn1, List.drop_zero, zir]⟩
 refine ACallsTo.of_body q2hok (by simp) fun hw _ => ?_
 have fz := z8b (zsc (sz := 32) (es := hr (lvs (L.take n))))
 repeat' (first|apply zs_|apply zb_|apply zc_|apply zt_ rfl|apply zf_ rfl|(refine zd_ rfl (fun ht => ?_) (fun ht => ?_)<;>try (exfalso;omega))|((first|apply zr_|apply zk_|apply ze_|apply zq_|(apply callW.mk_pu; (first | exact (fun _ => hLv _ _))) | (apply callW.za; (first | exact (hLv _ _))) | ((first|apply zg0|apply zg1|apply zg2|apply zg3|apply zg4|apply zg5|apply zg6|apply zg7)<;>intro ht));all_goals try simp (disch:=first|omega|(simp only [lens,z7,z6,lQr,lQm,lQt,lQd,z8,zg,zj,zi,zm];first|done|omega)) only [go_sem,nQ1,nQ2,nQ3,nQ4,nQ5,nQ6,nQ7,nQ8,hg,hq1,hq2,hdl,hgi,hc0,hcl,hca,e1,e8,l1,fz,Int.toNat_natCast,Nat.sub_zero]))
 refine Ext.pure hw ⟨_, rfl⟩ ?_
 simp only [RL, RLs, RLss]
 exact ⟨d1, zhy (z1w _), ⟨zdi x, trivial⟩, trivial, trivial⟩
end
section
theorem z39 {Y : Store} {sz : Nat} : RdSl Y sz ([] : List (List AV)) .nilsl := .of (.inl ⟨rfl, rfl⟩)
attribute [local irreducible] ACallsTo ACallsP
set_option maxHeartbeats 8000000 in
theorem zen (Y : Store) (L : List (List UInt8)) (P : List Hash) (H : List Hdr) (e1 e2 l1 l2 h1 h2 : AV) (he1 : RdSl Y 1 (strs L) e1) (he2 : RdSl Y 1 (strs L) e2) (hl1 : RdSl Y 32 (hr P) l1) (hl2 : RdSl Y 32 (hr P) l2) (hh1 : RdSl Y 36 (hdrs H) h1) (hh2 : RdSl Y 36 (hdrs H) h2)
  (hL : L.length < 1000000) (hP : P.length < 1000000) (hH : H.length < 1000000) (hHp : ∀ h ∈ H, h.p.length < 1000000) : ACallsTo TC 35 [.agg [e1, l1, h1, .nilsl], .agg [e2, l2, h2, .nilsl]] Y (.bool true) Y := by
 have f1 := z8b hl1.cells
 have f2 := z8b hl2.cells
 have x1 := he1.cells
 have x2 := he2.cells
 have x3 := hl1.cells
 have x4 := hl2.cells
 have x5 := hh1.cells
 have x6 := hh2.cells
 unfold cellsOf at x1 x2 x3 x4 x5 x6
 have hT := fun y => zeo (Y ++ y) L e1 e2 he1.app he2.app hL
 have hHd := fun y => zbi (Y ++ y) H h1 h2 hh1.app hh2.app hH hHp
 have hH0 := fun Y => zbi Y [] .nilsl .nilsl z39 z39 (by simp) (by simp)
 have hS := fun y => zel (Y ++ y) 0 0 0 [] [] P .nilsl .nilsl .nilsl .nilsl l1 l2 z39 z39 z39 z39 hl1.app hl2.app (by simp) (by simp) hP (by simp)
 unfold repC at hS
 refine ACallsTo.of_body q2gok (by simp) fun hw _ => ?_
 repeat' (first|apply zs_|apply zb_|apply zc_|apply zt_ rfl|apply zf_ rfl|(refine zd_ rfl (fun ht => ?_) (fun ht => ?_)<;>try (exfalso;omega))|((first|apply zr_|apply zk_|apply ze_|apply zq_|(apply callW.mk_pu; (first | exact (fun _ => hT _) | exact (fun _ => hHd _) | exact (fun _ => hH0 _) | exact (fun _ => hS _))) | (apply callW.za; (first | exact (hT _) | exact (hHd _) | exact (hH0 _) | exact (hS _))) | ((first|apply zg0|apply zg1|apply zg2|apply zg3|apply zg4|apply zg5|apply zg6|apply zg7)<;>intro ht));all_goals try simp (disch:=first|omega|(simp only [lens,z7,z6,lQr,lQm,lQt,lQd,z8,zg,zj,zi,zm];first|done|omega)) only [go_sem,nQ1,nQ2,nQ3,nQ4,nQ5,nQ6,nQ7,nQ8,x1,x2,x3,x4,x5,x6,f1,f2]))
 exact DownV.pure hw (z14 _ rfl)
theorem PubIs.source0 {Y : Store} {r : Nat} {seed : List UInt8} {L : List (List UInt8)} {own : List Nat} (h : PubIs Y r seed L [] own) : ACallsTo TC 36 [.ptr r 0 0] Y (.agg [.nilsl, .nilsl, .nilsl, .nilsl]) Y := by
 have hH := fun y => (h.ext (Y' := Y ++ y) ⟨y, rfl⟩).heads (.none1 seed L)
 rw [show z12 36 (hdrs []) = .nilsl from rfl] at hH
 refine ACallsTo.of_body q20ok (by simp) fun hw _ => ?_
 repeat' (first|apply zs_|apply zb_|apply zc_|apply zt_ rfl|apply zf_ rfl|(refine zd_ rfl (fun ht => ?_) (fun ht => ?_)<;>try (exfalso;omega))|((first|apply zr_|apply zk_|apply ze_|apply zq_|(apply callW.mk_pu; (first | exact (fun _ => hH _))) | (apply callW.za; (first | exact (hH _))) | ((first|apply zg0|apply zg1|apply zg2|apply zg3|apply zg4|apply zg5|apply zg6|apply zg7)<;>intro ht));all_goals try simp (disch:=first|omega|(simp only [lens,z7,z6,lQr,lQm,lQt,lQd,z8,zg,zj,zi,zm];first|done|omega)) only [go_sem,nQ1,nQ2,nQ3,nQ4,nQ5,nQ6,nQ7,nQ8]))
 exact Ext.pure hw (Ext.refl Y).app (z14 _ rfl)
theorem RfIs.source0 {Y : Store} {r : Nat} {seed : List UInt8} {L : List (List UInt8)} {own : List Nat} (h : RfIs Y r seed L [] own) : ACallsTo TC 37 [.ptr r 0 0] Y (.agg [.nilsl, .nilsl, .nilsl, .nilsl]) Y := by
 obtain ⟨lg, hv, sl, sh, rfl, hg, h1, h2⟩ := h
 have d := slen hg
 rcases h2 with ⟨_, _, rfl⟩ | ⟨q2, _, hn, _⟩
 ·unfold rfC at hg
  refine ACallsTo.of_body q2hok (by simp) fun hw _ => ?_
  repeat' (first|apply zs_|apply zb_|apply zc_|apply zt_ rfl|apply zf_ rfl|(refine zd_ rfl (fun ht => ?_) (fun ht => ?_)<;>try (exfalso;omega))|((first|apply zr_|apply zk_|apply ze_|apply zq_|((first|apply zg0|apply zg1|apply zg2|apply zg3|apply zg4|apply zg5|apply zg6|apply zg7)<;>intro ht));all_goals try simp (disch:=first|omega|(simp only [lens,z7,z6,lQr,lQm,lQt,lQd,z8,zg,zj,zi,zm];first|done|omega)) only [go_sem,nQ1,nQ2,nQ3,nQ4,nQ5,nQ6,nQ7,nQ8,hg]))
  exact Ext.pure hw (Ext.refl Y).app (z14 _ rfl)
 ·exact absurd rfl hn
set_option maxHeartbeats 16000000 in
theorem zji (hw : Wf ([] : Store).length []) (seed : List UInt8) (L : List (List UInt8)) (H : List Hdr) (o1 o2 : List Nat) (Y : Store) (hP : PubIs Y 1 seed L H o1) (hR : RfIs Y 2 seed L H o2) (hok : PubOk seed L H) (hL : L.length <= 60) (hLs : ∀ s ∈ L, s.length <= 300) (O : Env) (q5 : O 5 = .ptr 1 0 0) (q6 : O 6 = .ptr 2 0 0) :
  zW TC 102 0 zda (endQ 0 [.t 4] (.bool true) []) O Y := by
 have hLg := hP.log (by omega)
 have hHd := hP.heads hok
 have hsrc : ∃ a1 a2, ACallsTo TC 36 [.ptr 1 0 0] Y a1 Y /\ ACallsTo TC 37 [.ptr 2 0 0] Y a2 Y /\ ACallsTo TC 35 [a1, a2] Y (.bool true) Y := by
  by_cases h0 : H = []
  ·subst h0
   exact ⟨_, _, hP.source0, hR.source0, zen Y [] [] [] _ _ _ _ _ _ z39 z39 z39 z39 z39 z39 (by simp) (by simp) (by simp) (by simp)⟩
  ·have hl0 : 0 < H.length := by cases H with | nil => exact absurd rfl h0 | cons a l => simp
   obtain ⟨x, hx⟩ : ∃ x, H[H.length - 1]? = some x := ⟨_, List.getElem?_eq_getElem (by omega)⟩
   obtain ⟨n, hxm, hn0, hnL⟩ := hok.at' _ x hx
   have hxn : x.n = (n : Nat) := by rw [hxm]; show ((L.take n).length : Int) = n; rw [List.length_take]; omega
   obtain ⟨ev, hev, _, hS2⟩ := hR.source hok (by omega) (fun s hs => by have := hLs s hs; omega) x n hx hxn hn0 hnL
   refine ⟨_, _, hP.source hok (by omega) x n hx hxn hn0 hnL, hS2, zen Y (L.take n) (lvs (L.take n)) [x] _ _ _ _ _ _ (.of (.inr ⟨_, rfl⟩)) hev (.of (.inr ⟨_, rfl⟩)) (.of (z3d _ _)) (.of (.inr ⟨_, rfl⟩)) (.of (.inr ⟨_, rfl⟩)) (by rw [List.length_take]; omega) (by rw [zj, List.length_take]; omega) (by simp) fun h hh => ?_⟩
   simp only [List.mem_singleton] at hh
   subst hh
   exact hok.path _ (List.mem_of_getElem? hx)
 obtain ⟨a1, a2, s1, s2, s3⟩ := hsrc
 obtain ⟨lg, hv, sl, sh, rfl, hg, h1, h2⟩ := hR
 have d := slen hg
 have hT := zeo Y L (z12 1 (strs L)) lg (.of (z3d _ _)) h1.rd (by omega)
 have hHH := zbi Y H (z12 36 (hdrs H)) hv (.of (z3d _ _)) h2.rd (by have := hok.len; omega) hok.path
 have c1 := h1.cells
 have c2 := h2.cells
 unfold cellsOf at c1 c2
 unfold rfC at hg
 repeat' (first|apply zs_|apply zb_|apply zc_|apply zt_ rfl|apply zf_ rfl|(refine zd_ rfl (fun ht => ?_) (fun ht => ?_)<;>try (exfalso;omega))|((first|apply zr_|apply zk_|apply ze_|apply zq_|(apply callW.mk_pu; (first | exact (fun _ => hLg) | exact (fun _ => hHd) | exact (fun _ => hT) | exact (fun _ => hHH) | exact (fun _ => s1) | exact (fun _ => s2) | exact (fun _ => s3) | exact (fun _ => z7e _))) | (apply callW.za; (first | exact (hLg) | exact (hHd) | exact (hT) | exact (hHH) | exact (s1) | exact (s2) | exact (s3) | exact (z7e _))) | ((first|apply zg0|apply zg1|apply zg2|apply zg3|apply zg4|apply zg5|apply zg6|apply zg7)<;>intro ht));all_goals try simp (disch:=first|omega|(simp only [lens,z7,z6,lQr,lQm,lQt,lQd,z8,zg,zj,zi,zm];first|done|omega)) only [go_sem,nQ1,nQ2,nQ3,nQ4,nQ5,nQ6,nQ7,nQ8,q5,q6,hg,c1,c2]))
 exact DownV.pure (G := []) hw (z14 _ rfl)
theorem Fr.disj {Y Y' : Store} {o1 o1' o2 : List Nat} (h : Fr Y Y' o1 o1') (hl : ∀ j, j ∈ o2 -> j < Y.length) (hd : ∀ j, j ∈ o1 -> j ∉ o2) : ∀ j, j ∈ o1' -> j ∉ o2 := fun j hj h2 => by
 rcases h.new j hj with h3 | h3
 ·exact hd j h3 h2
 ·have := hl j h2; omega
theorem zq8 (seed : List UInt8) (L : List (List UInt8)) (H : List Hdr) (hok : H.length <= 8) : ∃ x e, puV seed L H = .tup [.agg (hdrC x), .int .i64 e] /\ x.p.length < 1000000 := by
 unfold puV
 by_cases h : puE L H = 0
 ·rw [if_pos h]; exact ⟨_, _, rfl, by show (z1i (keyL seed) H.length).length < 1000000; rw [zak]; omega⟩
 ·rw [if_neg h]; exact ⟨⟨0, zeroH, 0, [], []⟩, _, rfl, by simp⟩
attribute [local irreducible] zda
set_option maxHeartbeats 16000000 in
theorem zjj (seed : List UInt8) (l : List Act22) (y : AV) (hy : SlV 2 (l.map ac22) y) (hok : ∀ a ∈ l, a.Ok) (hzl : l.length <= maxLen) (hsl0 : seed.length <= maxLen) : ACallsTo TC 4 [.str seed, y] [] (.bool true) [] := by
 have r1 := hy.len
 rw [List.length_map] at r1
 unfold z1j at r1
 have hG := fun Y => zje Y l 60 y hy (by unfold maxLen at hzl; omega)
 refine ACallsTo.of_body q29ok (by simp) fun hw _ => ?_
 cases hgreat : z68 l 60 with
 | true =>
  rw [hgreat] at hG
  repeat' (first|apply zs_|apply zb_|apply zc_|apply zt_ rfl|apply zf_ rfl|(refine zd_ rfl (fun ht => ?_) (fun ht => ?_)<;>try (exfalso;omega))|((first|apply zr_|apply zk_|apply ze_|apply zq_|(apply callW.mk_pu; (first | exact (fun _ => hG _) | exact (fun _ => z7e _))) | (apply callW.za; (first | exact (hG _) | exact (z7e _))) | ((first|apply zg0|apply zg1|apply zg2|apply zg3|apply zg4|apply zg5|apply zg6|apply zg7)<;>intro ht));all_goals try simp (disch:=first|omega|(simp only [lens,z7,z6,lQr,lQm,lQt,lQd,z8,zg,zj,zi,zm];first|done|omega)) only [go_sem,nQ1,nQ2,nQ3,nQ4,nQ5,nQ6,nQ7,nQ8]))
  exact DownV.pure (G := []) hw (z14 _ rfl)
 | false =>
  rw [hgreat] at hG
  by_cases hs100 : 100 < seed.length
  ·have hs' : (seed.length : Int) > 100 := by omega
   repeat' (first|apply zs_|apply zb_|apply zc_|apply zt_ rfl|apply zf_ rfl|(refine zd_ rfl (fun ht => ?_) (fun ht => ?_)<;>try (exfalso;omega))|((first|apply zr_|apply zk_|apply ze_|apply zq_|(apply callW.mk_pu; (first | exact (fun _ => hG _) | exact (fun _ => z7e _))) | (apply callW.za; (first | exact (hG _) | exact (z7e _))) | ((first|apply zg0|apply zg1|apply zg2|apply zg3|apply zg4|apply zg5|apply zg6|apply zg7)<;>intro ht));all_goals try simp (disch:=first|omega|(simp only [lens,z7,z6,lQr,lQm,lQt,lQd,z8,zg,zj,zi,zm];first|done|omega)) only [go_sem,nQ1,nQ2,nQ3,nQ4,nQ5,nQ6,nQ7,nQ8,hs']))
   exact DownV.pure (G := []) hw (z14 _ rfl)
  have hs' : ¬ (seed.length : Int) > 100 := by omega
  have hsl : seed.length < 1000000 := by omega
  obtain ⟨hl60, hl300⟩ := zm5 hgreat
  have hNew := fun Y => zhi Y seed hsl
  have hNew2 := fun Y => zqx Y seed hsl
  have P0 := (zhh [] seed).ext (Y' := [some [z1e true seed (keyL seed)], some [pbC (.ptr 0 0 0) .nilsl .nilsl 0 .nilsl .nilsl], some [rfC seed .nilsl .nilsl]]) ⟨[some [rfC seed .nilsl .nilsl]], rfl⟩
  have R0 := zqw [some [z1e true seed (keyL seed)], some [pbC (.ptr 0 0 0) .nilsl .nilsl 0 .nilsl .nilsl]] seed
  repeat' (first|apply zs_|apply zb_|apply zc_|apply zt_ rfl|apply zf_ rfl|(refine zd_ rfl (fun ht => ?_) (fun ht => ?_)<;>try (exfalso;omega))|((first|apply zr_|apply zk_|apply ze_|apply zq_|(apply callW.mk_pu; (first | exact (fun _ => hG _) | exact (fun _ => hNew _) | exact (fun _ => hNew2 _))) | (apply callW.za; (first | exact (hG _) | exact (hNew _) | exact (hNew2 _))) | ((first|apply zg0|apply zg1|apply zg2|apply zg3|apply zg4|apply zg5|apply zg6|apply zg7)<;>intro ht));all_goals try simp (disch:=first|omega|(simp only [lens,z7,z6,lQr,lQm,lQt,lQd,z8,zg,zj,zi,zm];first|done|omega)) only [go_sem,nQ1,nQ2,nQ3,nQ4,nQ5,nQ6,nQ7,nQ8,r1,hs']))
  simp only [List.cons_append, List.nil_append, List.length_nil, List.length_cons, Nat.zero_add, Nat.reduceAdd] at P0 R0 ⊢
  generalize [some [z1e true seed (keyL seed)], some [pbC (.ptr 0 0 0) .nilsl .nilsl 0 .nilsl .nilsl], some [rfC seed .nilsl .nilsl]] = Y1 at *
  have hK1 := P0.key
  have hK2 := R0.key
  repeat' (first|apply zs_|apply zb_|apply zc_|apply zt_ rfl|apply zf_ rfl|(refine zd_ rfl (fun ht => ?_) (fun ht => ?_)<;>try (exfalso;omega))|((first|apply zr_|apply zk_|apply ze_|apply zq_|(apply callW.mk_pu; (first | exact (fun _ => hK1) | exact (fun _ => hK2))) | (apply callW.za; (first | exact (hK1) | exact (hK2))) | ((first|apply zg0|apply zg1|apply zg2|apply zg3|apply zg4|apply zg5|apply zg6|apply zg7)<;>intro ht));all_goals try simp (disch:=first|omega|(simp only [lens,z7,z6,lQr,lQm,lQt,lQd,z8,zg,zj,zi,zm];first|done|omega)) only [go_sem,nQ1,nQ2,nQ3,nQ4,nQ5,nQ6,nQ7,nQ8,r1]))
  refine zW.loop (fun m O Y' => ∃ (i : Nat) (L : List (List UInt8)) (H : List Hdr) (o1 o2 : List Nat), m + i = l.length /\ PubIs Y' 1 seed L H o1 /\ RfIs Y' 2 seed L H o2 /\ (∀ j, j ∈ o1 -> j ∉ o2) /\ PubOk seed L H /\ L.length <= i /\ (∀ s ∈ L, s.length <= 300) /\ O 1 = y /\ O 5 = .ptr 1 0 0 /\ O 6 = .ptr 2 0 0 /\ O 7 = .int .i64 i) l.length ?_ ?_
  ·exact ⟨0, [], [], [1, 0], [2], by omega, P0, R0, by simp, .nil _, by simp, by simp, by simp (disch:=first|omega|(simp only [lens,z7,z6,lQr,lQm,lQt,lQd,z8,zg,zj,zi,zm];first|done|omega)) only [go_sem,nQ1,nQ2,nQ3,nQ4,nQ5,nQ6,nQ7,nQ8],by simp (disch:=first|omega|(simp only [lens,z7,z6,lQr,lQm,lQt,lQd,z8,zg,zj,zi,zm];first|done|omega)) only [go_sem,nQ1,nQ2,nQ3,nQ4,nQ5,nQ6,nQ7,nQ8],by simp (disch:=first|omega|(simp only [lens,z7,z6,lQr,lQm,lQt,lQd,z8,zg,zj,zi,zm];first|done|omega)) only [go_sem,nQ1,nQ2,nQ3,nQ4,nQ5,nQ6,nQ7,nQ8],by simp (disch:=first|omega|(simp only [lens,z7,z6,lQr,lQm,lQt,lQd,z8,zg,zj,zi,zm];first|done|omega)) only [go_sem,nQ1,nQ2,nQ3,nQ4,nQ5,nQ6,nQ7,nQ8]; rfl⟩
  ·rintro m O Y' ⟨i, L, H, o1, o2, hm, hP, hR, hd, hk, hLi, hLs, q1, q5, q6, q7⟩
   by_cases hi : i < l.length
   ·obtain ⟨ex, rfl⟩ := hy.vsl (by rw [List.length_map]; omega)
    obtain ⟨a, hal⟩ : ∃ a, l[i]? = some a := ⟨_, List.getElem?_eq_getElem hi⟩
    have ham : a ∈ l := List.mem_of_getElem? hal
    have hg := zeu hal
    obtain ⟨k0, k1⟩ := hok a ham
    have hs3 := hl300 a ham
    by_cases hk4 : a.k % 5 < 4
    ·repeat' (first|apply zs_|apply zb_|apply zc_|apply zt_ rfl|apply zf_ rfl|(refine zd_ rfl (fun ht => ?_) (fun ht => ?_)<;>try (exfalso;omega))|((first|apply zr_|apply zk_|apply ze_|apply zq_|((first|apply zg0|apply zg1|apply zg2|apply zg3|apply zg4|apply zg5|apply zg6|apply zg7)<;>intro ht));all_goals try simp (disch:=first|omega|(simp only [lens,z7,z6,lQr,lQm,lQt,lQd,z8,zg,zj,zi,zm];first|done|omega)) only [go_sem,nQ1,nQ2,nQ3,nQ4,nQ5,nQ6,nQ7,nQ8,q1,q5,q6,q7,r1,hg,hk4]))
     refine callW.mkP_ef (caps := []) (zd6 Y' 1 seed L H o1 a.s hP (by omega) (by omega)) (AppendP.is hP) ?_
     rintro v Y2 ⟨rfl, o1', fr, P2⟩
     have R1 := hR.keep fun j hj => fr.st j (hR.lt hj) fun h => hd j h hj
     have d1 := fr.disj (fun j hj => hR.lt hj) hd
     refine ⟨by simp (disch:=first|omega|(simp only [lens,z7,z6,lQr,lQm,lQt,lQd,z8,zg,zj,zi,zm];first|done|omega)) only [go_sem,nQ1,nQ2,nQ3,nQ4,nQ5,nQ6,nQ7,nQ8,q1,q5,q6,q7,r1,hg],?_⟩
     simp (disch:=first|omega|(simp only [lens,z7,z6,lQr,lQm,lQt,lQd,z8,zg,zj,zi,zm];first|done|omega)) only [go_sem,nQ1,nQ2,nQ3,nQ4,nQ5,nQ6,nQ7,nQ8,q1,q5,q6,q7,r1,hg]
     refine callW.mkP (caps := []) (zqv Y2 2 seed L H o2 a.s R1 (by omega) (by omega)) (RAppendP.is R1) ?_
     rintro v Y3 ⟨rfl, o2', fr2, R3⟩
     have P3 := P2.keep fun j hj => fr2.st j (P2.lt hj) (d1 j hj)
     have d2 := fr2.disj (o2 := o1') (fun j hj => P2.lt hj) (fun j hj h => d1 j h hj)
     have hL2 := zjz L a.s
     have hok2 := apL_ok hk a.s
     have hLs2 : ∀ s ∈ apL L a.s, s.length <= 300 := fun s hs => by
      rcases zk0 hs with h | ⟨rfl, _⟩
      ·exact hLs s h
      ·exact hs3
     generalize apL L a.s = L2 at *
     generalize apE a.s = e at *
     simp (disch:=first|omega|(simp only [lens,z7,z6,lQr,lQm,lQt,lQd,z8,zg,zj,zi,zm];first|done|omega)) only [go_sem,nQ1,nQ2,nQ3,nQ4,nQ5,nQ6,nQ7,nQ8,q1,q5,q6,q7,r1]
     repeat' (first|apply zs_|apply zb_|apply zc_|apply zt_ rfl|apply zf_ rfl|(refine zd_ rfl (fun ht => ?_) (fun ht => ?_)<;>try (exfalso;omega))|((first|apply zr_|apply zk_|apply ze_|apply zq_|((first|apply zg0|apply zg1|apply zg2|apply zg3|apply zg4|apply zg5|apply zg6|apply zg7)<;>intro ht));all_goals try simp (disch:=first|omega|(simp only [lens,z7,z6,lQr,lQm,lQt,lQd,z8,zg,zj,zi,zm];first|done|omega)) only [go_sem,nQ1,nQ2,nQ3,nQ4,nQ5,nQ6,nQ7,nQ8,q1,q5,q6,q7,r1]))
     exact ⟨m - 1, by omega, i + 1, L2, H, o1', o2', by omega, P3, R3, fun j h h2 => d2 j h2 h, hok2, by omega, hLs2, by simp⟩
    ·repeat' (first|apply zs_|apply zb_|apply zc_|apply zt_ rfl|apply zf_ rfl|(refine zd_ rfl (fun ht => ?_) (fun ht => ?_)<;>try (exfalso;omega))|((first|apply zr_|apply zk_|apply ze_|apply zq_|((first|apply zg0|apply zg1|apply zg2|apply zg3|apply zg4|apply zg5|apply zg6|apply zg7)<;>intro ht));all_goals try simp (disch:=first|omega|(simp only [lens,z7,z6,lQr,lQm,lQt,lQd,z8,zg,zj,zi,zm];first|done|omega)) only [go_sem,nQ1,nQ2,nQ3,nQ4,nQ5,nQ6,nQ7,nQ8,q1,q5,q6,q7,r1,hg,hk4]))
     refine callW.mkP (caps := []) (zao Y' 1 seed L H o1 hP hk (by omega) hsl) (PublishP.is hP) ?_
     rintro v Y2 ⟨rfl, o1', fr, P2⟩
     have R1 := hR.keep fun j hj => fr.st j (hR.lt hj) fun h => hd j h hj
     have d1 := fr.disj (fun j hj => hR.lt hj) hd
     obtain ⟨x, e, hpv, hxp⟩ := zq8 seed L H hk.len
     have hxl := zm x
     have hxa := zaa x
     rw [hpv]
     simp (disch:=first|omega|(simp only [lens,z7,z6,lQr,lQm,lQt,lQd,z8,zg,zj,zi,zm];first|done|omega)) only [go_sem,nQ1,nQ2,nQ3,nQ4,nQ5,nQ6,nQ7,nQ8,q1,q5,q6,q7,r1,hxl]
     repeat' (first|apply zs_|apply zb_|apply zc_|apply zt_ rfl|apply zf_ rfl|(refine zd_ rfl (fun ht => ?_) (fun ht => ?_)<;>try (exfalso;omega))|((first|apply zr_|apply zk_|apply ze_|apply zq_|((first|apply zg0|apply zg1|apply zg2|apply zg3|apply zg4|apply zg5|apply zg6|apply zg7)<;>intro ht));all_goals try simp (disch:=first|omega|(simp only [lens,z7,z6,lQr,lQm,lQt,lQd,z8,zg,zj,zi,zm];first|done|omega)) only [go_sem,nQ1,nQ2,nQ3,nQ4,nQ5,nQ6,nQ7,nQ8,q1,q5,q6,q7,r1,hxl]))
     have R1' := R1.ext (Y' := Y2 ++ [some [hdrC x]]) ⟨_, rfl⟩
     refine callW.mkP (caps := []) (zqy _ 2 seed L H o2 R1' hk (by omega) (fun s hs => by have := hLs s hs; omega) hsl) (RPublishP.is R1') ?_
     rintro v Y3 ⟨rfl, o2', fr2, R3⟩
     have P2' := P2.ext (Y' := Y2 ++ [some [hdrC x]]) ⟨_, rfl⟩
     have P3 := P2'.keep fun j hj => fr2.st j (P2'.lt hj) (d1 j hj)
     have d2 := fr2.disj (o2 := o1') (fun j hj => P2'.lt hj) (fun j hj h => d1 j h hj)
     have g8 : Y3[Y2.length]? = some (some [hdrC x]) := fr2.get (by rw [z1a (by omega), Nat.sub_self]; rfl) fun h => by have := R1.lt h; omega
     have d8 := slen g8
     have hS := fun Y => zhr Y x hxp
     have hok2 := hk.pub
     rw [hpv]
     generalize puH seed L H = H2 at *
     simp (disch:=first|omega|(simp only [lens,z7,z6,lQr,lQm,lQt,lQd,z8,zg,zj,zi,zm];first|done|omega)) only [go_sem,nQ1,nQ2,nQ3,nQ4,nQ5,nQ6,nQ7,nQ8,q1,q5,q6,q7,r1,hxl,g8]
     repeat' (first|apply zs_|apply zb_|apply zc_|apply zt_ rfl|apply zf_ rfl|(refine zd_ rfl (fun ht => ?_) (fun ht => ?_)<;>try (exfalso;omega))|((first|apply zr_|apply zk_|apply ze_|apply zq_|(apply callW.mk_pu; (first | exact (fun _ => hS _))) | (apply callW.za; (first | exact (hS _))) | ((first|apply zg0|apply zg1|apply zg2|apply zg3|apply zg4|apply zg5|apply zg6|apply zg7)<;>intro ht));all_goals try simp (disch:=first|omega|(simp only [lens,z7,z6,lQr,lQm,lQt,lQd,z8,zg,zj,zi,zm];first|done|omega)) only [go_sem,nQ1,nQ2,nQ3,nQ4,nQ5,nQ6,nQ7,nQ8,q1,q5,q6,q7,r1,hxl,hxa,g8]))
     exact ⟨m - 1, by omega, i + 1, L, H2, o1', o2', by omega, P3.ext ⟨_, rfl⟩, R3.ext ⟨_, rfl⟩, fun j h h2 => d2 j h2 h, hok2, by omega, hLs, by simp⟩
   ·obtain rfl : i = l.length := by omega
    repeat' (first|apply zs_|apply zb_|apply zc_|apply zt_ rfl|apply zf_ rfl|(refine zd_ rfl (fun ht => ?_) (fun ht => ?_)<;>try (exfalso;omega))|((first|apply zr_|apply zk_|apply ze_|apply zq_|((first|apply zg0|apply zg1|apply zg2|apply zg3|apply zg4|apply zg5|apply zg6|apply zg7)<;>intro ht));all_goals try simp (disch:=first|omega|(simp only [lens,z7,z6,lQr,lQm,lQt,lQd,z8,zg,zj,zi,zm];first|done|omega)) only [go_sem,nQ1,nQ2,nQ3,nQ4,nQ5,nQ6,nQ7,nQ8,q1,q5,q6,q7,r1]))
    refine zji hw seed L H o1 o2 Y' hP hR hk (by omega) hLs _ ?_ ?_
    ·simp (disch:=first|omega|(simp only [lens,z7,z6,lQr,lQm,lQt,lQd,z8,zg,zj,zi,zm];first|done|omega)) only [go_sem,nQ1,nQ2,nQ3,nQ4,nQ5,nQ6,nQ7,nQ8,q5]
    ·simp (disch:=first|omega|(simp only [lens,z7,z6,lQr,lQm,lQt,lQd,z8,zg,zj,zi,zm];first|done|omega)) only [go_sem,nQ1,nQ2,nQ3,nQ4,nQ5,nQ6,nQ7,nQ8,q6]
theorem PublishPlay_law (avs : List AV) (h : z7o [.str, .sl 2 z7v] avs) : ACallsTo TC 4 avs [] (.bool true) [] := by
 simp only [z7o] at h
 obtain ⟨_, _, rfl, h0, _, _, rfl, h1, rfl⟩ := h
 simp only [Sh, ShC] at h0
 obtain ⟨s, e, hs⟩ := h0
 cases e
 obtain ⟨l, hy, hl, hok⟩ := zjx (by simpa only [Sh] using h1)
 exact zjj s l _ hy hok hl hs
end
end Am
end Go.Proofs.YtjgljhbmljgaeaaGreatDoor
section
/- What a law with the laid tables of sha begins with. -/
namespace Go.Proofs.YtjgljhbmljgaeaaGreatDoor.LawDoor
open Go.ChangeShapes Go.WideShapes Go.ChangeAt Go.RowKit
theorem own : ownKnob Tryz.prog.godebug = none := by kernel_rfl
theorem znc : laidOutB Tryz.prog = true := by kernel_rfl
def z8l : List (String × DataW Unit) := [("speculum/sha.first", Rows.laid_speculum_sha_first), ("speculum/sha.rounds", Rows.laid_speculum_sha_rounds)]
set_option maxRecDepth 100000
theorem zl7 (os : Os) (args : Array Value) : laidMetH Tryz.prog z8l ((World.doorLaid Tryz.prog 400 os).forCall (fun _ _ => 0) ⟨#[], args, []⟩).memory :=
 laidMetH_of_parts3 (fuel := 8) (laidMet_of_run' 8 (by kernel_rfl) (by kernel_rfl)) (by kernel_rfl) (by kernel_rfl)
theorem rel_of {W : World} (h : laidMetH Tryz.prog z8l W) : Am.Rel Am.TC [] [] W := by
 rw [MakeChecks.laidMetH_plain _ _ _ (by kernel_rfl)] at h
 obtain ⟨ps, ⟨g0, t0, cs0, f0, p0, q0, hg0, ht0, hv0, hd0, ⟨g1, t1, cs1, f1, p1, q1, hg1, ht1, hv1, hd1, _, _⟩, _⟩, _, _⟩ := h
 have v0 := Am.vp_of_var (P := Tryz.prog) (n := "speculum/sha.first") (g := 0) (t := 156) (e := 155) (m := 8) (k := .u32) Am.shaFirst (by kernel_rfl) (by kernel_rfl) (by kernel_rfl) (by kernel_rfl) (by kernel_rfl) (by kernel_rfl) hg0 ht0 hv0 hd0
 have v1 := Am.vp_of_var (P := Tryz.prog) (n := "speculum/sha.rounds") (g := 1) (t := 159) (e := 155) (m := 64) (k := .u32) Am.shaRounds (by kernel_rfl) (by kernel_rfl) (by kernel_rfl) (by kernel_rfl) (by kernel_rfl) (by kernel_rfl) hg1 ht1 hv1 hd1
 refine ⟨rfl, fun r o h => by simp at h, fun r h => by simp at h, fun r r' pl pl' h => by simp at h, fun g cs h => ?_⟩
 simp only [Am.TC] at h
 split at h
 ·rename_i hg; subst hg; cases h; exact v0
 ·split at h
  ·rename_i hg; subst hg; cases h; exact v1
  ·cases h
end Go.Proofs.YtjgljhbmljgaeaaGreatDoor.LawDoor
end
