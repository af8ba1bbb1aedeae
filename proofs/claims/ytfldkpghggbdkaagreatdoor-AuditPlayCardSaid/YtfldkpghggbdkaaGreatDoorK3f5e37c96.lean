import Derived.Test.YtfldkpghggbdkaaGreatDoorK298eb74a9
import Derived.Shelf.Strings.Builder1
import Derived.Shelf.Strings.Builder2
import Derived.Shelf.Strings.BuilderF
import Derived.Shelf.Strings.Prefix
import Derived.Shelf.Bits.Mul64
import Derived.Shelf.Strings.Repeat
import Derived.Test.YtfldkpghggbdkaaGreatDoorProg
set_option linter.unusedSimpArgs false
set_option linter.unusedVariables false
open Nat (reduceEqDiff reduceAdd reduceMul reduceSub reduceLeDiff)
open Int (reduceToNat reducePow)
open Nat renaming reduceEqDiff -> nQ1, reduceBEq -> nQ2, reduceAdd -> nQ3, reduceMul -> nQ4, reduceSub -> nQ5, reduceLeDiff -> nQ6
open Int renaming reduceToNat -> nQ7, reducePow -> nQ8
open List renaming length_reverse -> lQr, length_map -> lQm, length_take -> lQt, length_drop -> lQd, length_set -> lQs
set_option maxHeartbeats 16000000
attribute [local go_sem_proc] Nat.reduceEqDiff Nat.reduceBEq Nat.reduceAdd Nat.reduceMul Nat.reduceSub Nat.reduceLeDiff Int.reduceToNat Int.reducePow
namespace Go.Proofs.YtfldkpghggbdkaaGreatDoor
namespace Am
section
set_option maxRecDepth 10000
@[go_sem] def q7r0:List AIns:=[
 yI 2 (.alloc zZ0)]
@[go_sem] def q7r1:List AIns:=[
 yI 26 (.build [(.int .u32 0),(.int .u32 0),(.int .u32 0),(.int .u32 0),(.int .u32 0),(.int .u32 0),(.int .u32 0),(.int .u32 0),(.int .u32 0),(.int .u32 0),(.int .u32 0),(.int .u32 0),(.int .u32 0),(.int .u32 0),(.int .u32 0),(.int .u32 0),(.int .u32 0),(.int .u32 0),(.int .u32 0),(.int .u32 0),(.int .u32 0),(.int .u32 0),(.int .u32 0),(.int .u32 0),(.int .u32 0),(.int .u32 0),(.int .u32 0),(.int .u32 0),(.int .u32 0),(.int .u32 0),(.int .u32 0),(.int .u32 0),(.int .u32 0),(.int .u32 0),(.int .u32 0),(.int .u32 0),(.int .u32 0),(.int .u32 0),(.int .u32 0),(.int .u32 0),(.int .u32 0),(.int .u32 0),(.int .u32 0),(.int .u32 0),(.int .u32 0),(.int .u32 0),(.int .u32 0),(.int .u32 0),(.int .u32 0),(.int .u32 0),(.int .u32 0),(.int .u32 0),(.int .u32 0),(.int .u32 0),(.int .u32 0),(.int .u32 0),(.int .u32 0),(.int .u32 0),(.int .u32 0),(.int .u32 0),(.int .u32 0),(.int .u32 0),(.int .u32 0),(.int .u32 0)] [(0,1,(.v (.int .u32 1116352408))),(1,1,(.v (.int .u32 1899447441))),(2,1,(.v (.int .u32 3049323471))),(3,1,(.v (.int .u32 3921009573))),(4,1,(.v (.int .u32 961987163))),(5,1,(.v (.int .u32 1508970993))),(6,1,(.v (.int .u32 2453635748))),(7,1,(.v (.int .u32 2870763221))),(8,1,(.v (.int .u32 3624381080))),(9,1,(.v (.int .u32 310598401))),(10,1,(.v (.int .u32 607225278))),(11,1,(.v (.int .u32 1426881987))),(12,1,(.v (.int .u32 1925078388))),(13,1,(.v (.int .u32 2162078206))),(14,1,(.v (.int .u32 2614888103))),(15,1,(.v (.int .u32 3248222580))),(16,1,(.v (.int .u32 3835390401))),(17,1,(.v (.int .u32 4022224774))),(18,1,(.v (.int .u32 264347078))),(19,1,(.v (.int .u32 604807628))),(20,1,(.v (.int .u32 770255983))),(21,1,(.v (.int .u32 1249150122))),(22,1,(.v (.int .u32 1555081692))),(23,1,(.v (.int .u32 1996064986))),(24,1,(.v (.int .u32 2554220882))),(25,1,(.v (.int .u32 2821834349))),(26,1,(.v (.int .u32 2952996808))),(27,1,(.v (.int .u32 3210313671))),(28,1,(.v (.int .u32 3336571891))),(29,1,(.v (.int .u32 3584528711))),(30,1,(.v (.int .u32 113926993))),(31,1,(.v (.int .u32 338241895))),(32,1,(.v (.int .u32 666307205))),(33,1,(.v (.int .u32 773529912))),(34,1,(.v (.int .u32 1294757372))),(35,1,(.v (.int .u32 1396182291))),(36,1,(.v (.int .u32 1695183700))),(37,1,(.v (.int .u32 1986661051))),(38,1,(.v (.int .u32 2177026350))),(39,1,(.v (.int .u32 2456956037))),(40,1,(.v (.int .u32 2730485921))),(41,1,(.v (.int .u32 2820302411))),(42,1,(.v (.int .u32 3259730800))),(43,1,(.v (.int .u32 3345764771))),(44,1,(.v (.int .u32 3516065817))),(45,1,(.v (.int .u32 3600352804))),(46,1,(.v (.int .u32 4094571909))),(47,1,(.v (.int .u32 275423344))),(48,1,(.v (.int .u32 430227734))),(49,1,(.v (.int .u32 506948616))),(50,1,(.v (.int .u32 659060556))),(51,1,(.v (.int .u32 883997877))),(52,1,(.v (.int .u32 958139571))),(53,1,(.v (.int .u32 1322822218))),(54,1,(.v (.int .u32 1537002063))),(55,1,(.v (.int .u32 1747873779))),(56,1,(.v (.int .u32 1955562222))),(57,1,(.v (.int .u32 2024104815))),(58,1,(.v (.int .u32 2227730452))),(59,1,(.v (.int .u32 2361852424))),(60,1,(.v (.int .u32 2428436474))),(61,1,(.v (.int .u32 2756734187))),(62,1,(.v (.int .u32 3204031479))),(63,1,(.v (.int .u32 3329325298)))]),
 yI 3 (.alloc [(.int .u32 0),(.int .u32 0),(.int .u32 0),(.int .u32 0),(.int .u32 0),(.int .u32 0),(.int .u32 0),(.int .u32 0),(.int .u32 0),(.int .u32 0),(.int .u32 0),(.int .u32 0),(.int .u32 0),(.int .u32 0),(.int .u32 0),(.int .u32 0),(.int .u32 0),(.int .u32 0),(.int .u32 0),(.int .u32 0),(.int .u32 0),(.int .u32 0),(.int .u32 0),(.int .u32 0),(.int .u32 0),(.int .u32 0),(.int .u32 0),(.int .u32 0),(.int .u32 0),(.int .u32 0),(.int .u32 0),(.int .u32 0),(.int .u32 0),(.int .u32 0),(.int .u32 0),(.int .u32 0),(.int .u32 0),(.int .u32 0),(.int .u32 0),(.int .u32 0),(.int .u32 0),(.int .u32 0),(.int .u32 0),(.int .u32 0),(.int .u32 0),(.int .u32 0),(.int .u32 0),(.int .u32 0),(.int .u32 0),(.int .u32 0),(.int .u32 0),(.int .u32 0),(.int .u32 0),(.int .u32 0),(.int .u32 0),(.int .u32 0),(.int .u32 0),(.int .u32 0),(.int .u32 0),(.int .u32 0),(.int .u32 0),(.int .u32 0),(.int .u32 0),(.int .u32 0)]),
 ⟨none,none,.no,.store 64 (.t 3) (.t 26)⟩]
@[go_sem] def q7r2:List AIns:=[
 yI 27 (.build [(.int .u32 0),(.int .u32 0),(.int .u32 0),(.int .u32 0),(.int .u32 0),(.int .u32 0),(.int .u32 0),(.int .u32 0)] [(0,1,(.v (.int .u32 1779033703))),(1,1,(.v (.int .u32 3144134277))),(2,1,(.v (.int .u32 1013904242))),(3,1,(.v (.int .u32 2773480762))),(4,1,(.v (.int .u32 1359893119))),(5,1,(.v (.int .u32 2600822924))),(6,1,(.v (.int .u32 528734635))),(7,1,(.v (.int .u32 1541459225)))]),
 yI 4 (.alloc [(.int .u32 0),(.int .u32 0),(.int .u32 0),(.int .u32 0),(.int .u32 0),(.int .u32 0),(.int .u32 0),(.int .u32 0)]),
 ⟨none,none,.no,.store 8 (.t 4) (.t 27)⟩]
@[go_sem] def q7r3:List AIns:=[
 yM 28 0,
 yI 29 (.call (.v (.fn 117 [])) [(.t 28)]),
 yM 5 29]
@[go_sem] def q7r4:List AIns:=[
 yI 6 (.alloc [(.int .u32 0),(.int .u32 0),(.int .u32 0),(.int .u32 0),(.int .u32 0),(.int .u32 0),(.int .u32 0),(.int .u32 0),(.int .u32 0),(.int .u32 0),(.int .u32 0),(.int .u32 0),(.int .u32 0),(.int .u32 0),(.int .u32 0),(.int .u32 0),(.int .u32 0),(.int .u32 0),(.int .u32 0),(.int .u32 0),(.int .u32 0),(.int .u32 0),(.int .u32 0),(.int .u32 0),(.int .u32 0),(.int .u32 0),(.int .u32 0),(.int .u32 0),(.int .u32 0),(.int .u32 0),(.int .u32 0),(.int .u32 0),(.int .u32 0),(.int .u32 0),(.int .u32 0),(.int .u32 0),(.int .u32 0),(.int .u32 0),(.int .u32 0),(.int .u32 0),(.int .u32 0),(.int .u32 0),(.int .u32 0),(.int .u32 0),(.int .u32 0),(.int .u32 0),(.int .u32 0),(.int .u32 0),(.int .u32 0),(.int .u32 0),(.int .u32 0),(.int .u32 0),(.int .u32 0),(.int .u32 0),(.int .u32 0),(.int .u32 0),(.int .u32 0),(.int .u32 0),(.int .u32 0),(.int .u32 0),(.int .u32 0),(.int .u32 0),(.int .u32 0),(.int .u32 0)])]
@[go_sem] def q7r5:List AIns:=[
 yI 7 (.mv (.v (.int .i64 0)))]
@[go_sem] def q7r6:List AIns:=[
 yM 30 7,
 yM 31 5,
 yI 32 (.lenSl (.t 31)),
 yI 33 (.bin .lss .none (.t 30) (.t 32))]
def q7c7:ACode:= .cond (.t 33) .skip (.exit 0)
def q7c8:ACode:= .seq (.reg q7r6) q7c7
@[go_sem] def q7r9:List AIns:=[
 yI 8 (.mv (.v (.int .i64 0)))]
@[go_sem] def q7r10:List AIns:=[
 yM 36 8,
 yI 37 (.bin .lss .none (.t 36) (.v (.int .i64 16)))]
def q7c11:ACode:= .cond (.t 37) .skip (.exit 2)
def q7c12:ACode:= .seq (.reg q7r10) q7c11
@[go_sem] def q7r13:List AIns:=[
 yM 40 7,
 yM 41 8,
 yI 42 (.bin .mul .none (.v (.int .i64 4)) (.t 41)),
 yI 43 (.bin .add .none (.t 40) (.t 42)),
 yM 9 43]
@[go_sem] def q7r14:List AIns:=[
 yM 44 8,
 yM 45 5,
 yM 46 9,
 yI 47 (.iaSl 1 (.t 45) (.t 46)),
 ⟨some 48,none,.rd,.load false 1 (.t 47)⟩,
 yI 49 (.conv (.int .u32) (.t 48)),
 yI 50 (.bin .shl .none (.t 49) (.v (.int .u64 24))),
 yM 51 5,
 yM 52 9,
 yI 53 (.bin .add .none (.t 52) (.v (.int .i64 1))),
 yI 54 (.iaSl 1 (.t 51) (.t 53)),
 ⟨some 55,none,.rd,.load false 1 (.t 54)⟩,
 yI 56 (.conv (.int .u32) (.t 55)),
 yI 57 (.bin .shl .none (.t 56) (.v (.int .u64 16))),
 yI 58 (.bin .add .none (.t 50) (.t 57)),
 yM 59 5,
 yM 60 9,
 yI 61 (.bin .add .none (.t 60) (.v (.int .i64 2))),
 yI 62 (.iaSl 1 (.t 59) (.t 61)),
 ⟨some 63,none,.rd,.load false 1 (.t 62)⟩,
 yI 64 (.conv (.int .u32) (.t 63)),
 yI 65 (.bin .shl .none (.t 64) (.v (.int .u64 8))),
 yI 66 (.bin .add .none (.t 58) (.t 65)),
 yM 67 5,
 yM 68 9,
 yI 69 (.bin .add .none (.t 68) (.v (.int .i64 3))),
 yI 70 (.iaSl 1 (.t 67) (.t 69)),
 ⟨some 71,none,.rd,.load false 1 (.t 70)⟩,
 yI 72 (.conv (.int .u32) (.t 71)),
 yI 73 (.bin .add .none (.t 66) (.t 72)),
 yI 74 (.iaArr 64 1 (.t 6) (.t 44)),
 ⟨none,none,.no,.store 1 (.t 74) (.t 73)⟩]
def q7c15:ACode:= .seq (.reg q7r13) (.reg q7r14)
@[go_sem] def q7r16:List AIns:=[
 yM 38 8,
 yI 39 (.bin .add .none (.t 38) (.v (.int .i64 1))),
 yM 8 39]
def q7c17:ACode:= .seq (.block 3 q7c15) (.reg q7r16)
def q7c18:ACode:= .seq q7c12 q7c17
def q7c19:ACode:= .loop q7c18
def q7c20:ACode:= .block 2 q7c19
def q7c21:ACode:= .seq (.reg q7r9) q7c20
@[go_sem] def q7r22:List AIns:=[
 yI 10 (.mv (.v (.int .i64 16)))]
@[go_sem] def q7r23:List AIns:=[
 yM 75 10,
 yI 76 (.bin .lss .none (.t 75) (.v (.int .i64 64)))]
def q7c24:ACode:= .cond (.t 76) .skip (.exit 4)
def q7c25:ACode:= .seq (.reg q7r23) q7c24
@[go_sem] def q7r26:List AIns:=[
 yM 79 10,
 yI 80 (.bin .sub .none (.t 79) (.v (.int .i64 15))),
 yI 81 (.iaArr 64 1 (.t 6) (.t 80)),
 ⟨some 82,none,.rd,.load false 1 (.t 81)⟩,
 yM 83 10,
 yI 84 (.bin .sub .none (.t 83) (.v (.int .i64 2))),
 yI 85 (.iaArr 64 1 (.t 6) (.t 84)),
 ⟨some 86,none,.rd,.load false 1 (.t 85)⟩,
 yM 11 82,
 yM 12 86]
@[go_sem] def q7r27:List AIns:=[
 yM 87 10,
 yM 88 10,
 yI 89 (.bin .sub .none (.t 88) (.v (.int .i64 16))),
 yI 90 (.iaArr 64 1 (.t 6) (.t 89)),
 ⟨some 91,none,.rd,.load false 1 (.t 90)⟩,
 yM 92 11,
 ⟨some 93,none,.ef,.call (.v (.fn 118 [])) [(.t 92),(.v (.int .u32 7))]⟩,
 yM 94 11,
 ⟨some 95,none,.ef,.call (.v (.fn 118 [])) [(.t 94),(.v (.int .u32 18))]⟩,
 yI 96 (.bin .xor .none (.t 93) (.t 95)),
 yM 97 11,
 yI 98 (.bin .shr .none (.t 97) (.v (.int .u64 3))),
 yI 99 (.bin .xor .none (.t 96) (.t 98)),
 yI 100 (.bin .add .none (.t 91) (.t 99)),
 yM 101 10,
 yI 102 (.bin .sub .none (.t 101) (.v (.int .i64 7))),
 yI 103 (.iaArr 64 1 (.t 6) (.t 102)),
 ⟨some 104,none,.rd,.load false 1 (.t 103)⟩,
 yI 105 (.bin .add .none (.t 100) (.t 104)),
 yM 106 12,
 ⟨some 107,none,.ef,.call (.v (.fn 118 [])) [(.t 106),(.v (.int .u32 17))]⟩,
 yM 108 12,
 ⟨some 109,none,.ef,.call (.v (.fn 118 [])) [(.t 108),(.v (.int .u32 19))]⟩,
 yI 110 (.bin .xor .none (.t 107) (.t 109)),
 yM 111 12,
 yI 112 (.bin .shr .none (.t 111) (.v (.int .u64 10))),
 yI 113 (.bin .xor .none (.t 110) (.t 112)),
 yI 114 (.bin .add .none (.t 105) (.t 113)),
 yI 115 (.iaArr 64 1 (.t 6) (.t 87)),
 ⟨none,none,.no,.store 1 (.t 115) (.t 114)⟩]
def q7c28:ACode:= .seq (.reg q7r26) (.reg q7r27)
@[go_sem] def q7r29:List AIns:=[
 yM 77 10,
 yI 78 (.bin .add .none (.t 77) (.v (.int .i64 1))),
 yM 10 78]
def q7c30:ACode:= .seq (.block 5 q7c28) (.reg q7r29)
def q7c31:ACode:= .seq q7c25 q7c30
def q7c32:ACode:= .loop q7c31
def q7c33:ACode:= .block 4 q7c32
def q7c34:ACode:= .seq (.reg q7r22) q7c33
@[go_sem] def q7r35:List AIns:=[
 yI 116 (.iaArr 8 1 (.t 4) (.v (.int .i64 0))),
 ⟨some 117,none,.rd,.load false 1 (.t 116)⟩,
 yI 118 (.iaArr 8 1 (.t 4) (.v (.int .i64 1))),
 ⟨some 119,none,.rd,.load false 1 (.t 118)⟩,
 yI 120 (.iaArr 8 1 (.t 4) (.v (.int .i64 2))),
 ⟨some 121,none,.rd,.load false 1 (.t 120)⟩,
 yI 122 (.iaArr 8 1 (.t 4) (.v (.int .i64 3))),
 ⟨some 123,none,.rd,.load false 1 (.t 122)⟩,
 yI 124 (.iaArr 8 1 (.t 4) (.v (.int .i64 4))),
 ⟨some 125,none,.rd,.load false 1 (.t 124)⟩,
 yI 126 (.iaArr 8 1 (.t 4) (.v (.int .i64 5))),
 ⟨some 127,none,.rd,.load false 1 (.t 126)⟩,
 yI 128 (.iaArr 8 1 (.t 4) (.v (.int .i64 6))),
 ⟨some 129,none,.rd,.load false 1 (.t 128)⟩,
 yI 130 (.iaArr 8 1 (.t 4) (.v (.int .i64 7))),
 ⟨some 131,none,.rd,.load false 1 (.t 130)⟩,
 yM 13 117,
 yM 14 119,
 yM 15 121,
 yM 16 123,
 yM 17 125,
 yM 18 127,
 yM 19 129,
 yM 20 131]
@[go_sem] def q7r36:List AIns:=[
 yI 21 (.mv (.v (.int .i64 0)))]
@[go_sem] def q7r37:List AIns:=[
 yM 132 21,
 yI 133 (.bin .lss .none (.t 132) (.v (.int .i64 64)))]
def q7c38:ACode:= .cond (.t 133) .skip (.exit 6)
def q7c39:ACode:= .seq (.reg q7r37) q7c38
@[go_sem] def q7r40:List AIns:=[
 yM 136 20,
 yM 137 17,
 ⟨some 138,none,.ef,.call (.v (.fn 118 [])) [(.t 137),(.v (.int .u32 6))]⟩,
 yM 139 17,
 ⟨some 140,none,.ef,.call (.v (.fn 118 [])) [(.t 139),(.v (.int .u32 11))]⟩,
 yI 141 (.bin .xor .none (.t 138) (.t 140)),
 yM 142 17,
 ⟨some 143,none,.ef,.call (.v (.fn 118 [])) [(.t 142),(.v (.int .u32 25))]⟩,
 yI 144 (.bin .xor .none (.t 141) (.t 143)),
 yI 145 (.bin .add .none (.t 136) (.t 144)),
 yM 146 17,
 yM 147 18,
 yI 148 (.bin .and .none (.t 146) (.t 147)),
 yM 149 17,
 yI 150 (.un .xor (.t 149)),
 yM 151 19,
 yI 152 (.bin .and .none (.t 150) (.t 151)),
 yI 153 (.bin .xor .none (.t 148) (.t 152)),
 yI 154 (.bin .add .none (.t 145) (.t 153)),
 yM 155 21,
 yI 156 (.iaArr 64 1 (.t 3) (.t 155)),
 ⟨some 157,none,.rd,.load false 1 (.t 156)⟩,
 yI 158 (.bin .add .none (.t 154) (.t 157)),
 yM 159 21,
 yI 160 (.iaArr 64 1 (.t 6) (.t 159)),
 ⟨some 161,none,.rd,.load false 1 (.t 160)⟩,
 yI 162 (.bin .add .none (.t 158) (.t 161)),
 yM 22 162]
@[go_sem] def q7r41:List AIns:=[
 yM 163 13,
 yI 164 (.call (.v (.fn 118 [])) [(.t 163),(.v (.int .u32 2))]),
 yM 165 13,
 yI 166 (.call (.v (.fn 118 [])) [(.t 165),(.v (.int .u32 13))]),
 yI 167 (.bin .xor .none (.t 164) (.t 166)),
 yM 168 13,
 yI 169 (.call (.v (.fn 118 [])) [(.t 168),(.v (.int .u32 22))]),
 yI 170 (.bin .xor .none (.t 167) (.t 169)),
 yM 171 13,
 yM 172 14,
 yI 173 (.bin .and .none (.t 171) (.t 172)),
 yM 174 13,
 yM 175 15,
 yI 176 (.bin .and .none (.t 174) (.t 175)),
 yI 177 (.bin .xor .none (.t 173) (.t 176)),
 yM 178 14,
 yM 179 15,
 yI 180 (.bin .and .none (.t 178) (.t 179)),
 yI 181 (.bin .xor .none (.t 177) (.t 180)),
 yI 182 (.bin .add .none (.t 170) (.t 181)),
 yM 23 182]
@[go_sem] def q7r42:List AIns:=[
 yM 183 19,
 yM 184 18,
 yM 185 17,
 yM 186 16,
 yM 187 22,
 yI 188 (.bin .add .none (.t 186) (.t 187)),
 yM 189 15,
 yM 190 14,
 yM 191 13,
 yM 192 22,
 yM 193 23,
 yI 194 (.bin .add .none (.t 192) (.t 193)),
 yM 20 183,
 yM 19 184,
 yM 18 185,
 yM 17 188,
 yM 16 189,
 yM 15 190,
 yM 14 191,
 yM 13 194]
def q7c43:ACode:= .seq (.reg q7r41) (.reg q7r42)
def q7c44:ACode:= .seq (.reg q7r40) q7c43
@[go_sem] def q7r45:List AIns:=[
 yM 134 21,
 yI 135 (.bin .add .none (.t 134) (.v (.int .i64 1))),
 yM 21 135]
def q7c46:ACode:= .seq (.block 7 q7c44) (.reg q7r45)
def q7c47:ACode:= .seq q7c39 q7c46
def q7c48:ACode:= .loop q7c47
def q7c49:ACode:= .block 6 q7c48
def q7c50:ACode:= .seq (.reg q7r36) q7c49
@[go_sem] def q7r51:List AIns:=[
 yI 195 (.iaArr 8 1 (.t 4) (.v (.int .i64 0))),
 yI 196 (.load false 1 (.t 195)),
 yM 197 13,
 yI 198 (.bin .add .none (.t 196) (.t 197)),
 yI 199 (.iaArr 8 1 (.t 4) (.v (.int .i64 1))),
 yI 200 (.load false 1 (.t 199)),
 yM 201 14,
 yI 202 (.bin .add .none (.t 200) (.t 201)),
 yI 203 (.iaArr 8 1 (.t 4) (.v (.int .i64 2))),
 yI 204 (.load false 1 (.t 203)),
 yM 205 15,
 yI 206 (.bin .add .none (.t 204) (.t 205)),
 yI 207 (.iaArr 8 1 (.t 4) (.v (.int .i64 3))),
 yI 208 (.load false 1 (.t 207)),
 yM 209 16,
 yI 210 (.bin .add .none (.t 208) (.t 209)),
 yI 211 (.iaArr 8 1 (.t 4) (.v (.int .i64 4))),
 yI 212 (.load false 1 (.t 211)),
 yM 213 17,
 yI 214 (.bin .add .none (.t 212) (.t 213)),
 yI 215 (.iaArr 8 1 (.t 4) (.v (.int .i64 5))),
 yI 216 (.load false 1 (.t 215)),
 yM 217 18,
 yI 218 (.bin .add .none (.t 216) (.t 217)),
 yI 219 (.iaArr 8 1 (.t 4) (.v (.int .i64 6))),
 yI 220 (.load false 1 (.t 219)),
 yM 221 19,
 yI 222 (.bin .add .none (.t 220) (.t 221)),
 yI 223 (.iaArr 8 1 (.t 4) (.v (.int .i64 7))),
 yI 224 (.load false 1 (.t 223)),
 yM 225 20,
 yI 226 (.bin .add .none (.t 224) (.t 225)),
 yI 227 (.iaArr 8 1 (.t 4) (.v (.int .i64 0))),
 ⟨none,none,.no,.store 1 (.t 227) (.t 198)⟩,
 yI 228 (.iaArr 8 1 (.t 4) (.v (.int .i64 1))),
 ⟨none,none,.no,.store 1 (.t 228) (.t 202)⟩,
 yI 229 (.iaArr 8 1 (.t 4) (.v (.int .i64 2))),
 ⟨none,none,.no,.store 1 (.t 229) (.t 206)⟩,
 yI 230 (.iaArr 8 1 (.t 4) (.v (.int .i64 3))),
 ⟨none,none,.no,.store 1 (.t 230) (.t 210)⟩,
 yI 231 (.iaArr 8 1 (.t 4) (.v (.int .i64 4))),
 ⟨none,none,.no,.store 1 (.t 231) (.t 214)⟩,
 yI 232 (.iaArr 8 1 (.t 4) (.v (.int .i64 5))),
 ⟨none,none,.no,.store 1 (.t 232) (.t 218)⟩,
 yI 233 (.iaArr 8 1 (.t 4) (.v (.int .i64 6))),
 ⟨none,none,.no,.store 1 (.t 233) (.t 222)⟩,
 yI 234 (.iaArr 8 1 (.t 4) (.v (.int .i64 7))),
 ⟨none,none,.no,.store 1 (.t 234) (.t 226)⟩]
def q7c52:ACode:= .seq q7c50 (.reg q7r51)
def q7c53:ACode:= .seq (.reg q7r35) q7c52
def q7c54:ACode:= .seq q7c34 q7c53
def q7c55:ACode:= .seq q7c21 q7c54
@[go_sem] def q7r56:List AIns:=[
 yM 34 7,
 yI 35 (.bin .add .none (.t 34) (.v (.int .i64 64))),
 yM 7 35]
def q7c57:ACode:= .seq (.block 1 q7c55) (.reg q7r56)
def q7c58:ACode:= .seq q7c8 q7c57
def q7c59:ACode:= .loop q7c58
def q7c60:ACode:= .block 0 q7c59
def q7c61:ACode:= .seq (.reg q7r5) q7c60
@[go_sem] def q7r62:List AIns:=[
 yI 24 (.alloc zZ0)]
@[go_sem] def q7r63:List AIns:=[
 yI 25 (.mv (.v (.int .i64 0)))]
@[go_sem] def q7r64:List AIns:=[
 yM 235 25,
 yI 236 (.bin .lss .none (.t 235) (.v (.int .i64 32)))]
def q7c65:ACode:= .cond (.t 236) .skip (.exit 8)
def q7c66:ACode:= .seq (.reg q7r64) q7c65
@[go_sem] def q7r67:List AIns:=[
 yM 239 25,
 yM 240 25,
 yI 241 (.bin .quo .none (.t 240) (.v (.int .i64 4))),
 yI 242 (.iaArr 8 1 (.t 4) (.t 241)),
 yI 243 (.load false 1 (.t 242)),
 yM 244 25,
 yI 245 (.bin .rem .none (.t 244) (.v (.int .i64 4))),
 yI 246 (.bin .mul .none (.v (.int .i64 8)) (.t 245)),
 yI 247 (.bin .sub .none (.v (.int .i64 24)) (.t 246)),
 yI 248 (.bin .shr .none (.t 243) (.t 247)),
 yI 249 (.conv (.int .u8) (.t 248)),
 yI 250 (.iaArr 32 1 (.t 24) (.t 239)),
 ⟨none,none,.no,.store 1 (.t 250) (.t 249)⟩]
@[go_sem] def q7r68:List AIns:=[
 yM 237 25,
 yI 238 (.bin .add .none (.t 237) (.v (.int .i64 1))),
 yM 25 238]
def q7c69:ACode:= .seq (.block 9 (.reg q7r67)) (.reg q7r68)
def q7c70:ACode:= .seq q7c66 q7c69
def q7c71:ACode:= .loop q7c70
def q7c72:ACode:= .block 8 q7c71
def q7c73:ACode:= .seq (.reg q7r63) q7c72
@[go_sem] def q7r74:List AIns:=[
 yI 251 (.load true 32 (.t 24)),
 ⟨none,none,.no,.store 32 (.t 2) (.t 251)⟩]
def q7c75:ACode:= .seq (.reg q7r74) .ret
def q7c76:ACode:= .seq q7c73 q7c75
def q7c77:ACode:= .seq (.reg q7r62) q7c76
def q7c78:ACode:= .seq q7c61 q7c77
def q7c79:ACode:= .seq (.reg q7r4) q7c78
def q7c80:ACode:= .seq (.reg q7r3) q7c79
def q7c81:ACode:= .seq (.reg q7r2) q7c80
def q7c82:ACode:= .seq (.reg q7r1) q7c81
def q7c83:ACode:= .seq (.reg q7r0) q7c82
theorem q7ok:cFn TC 86=some (252,[.c 2 true 32],q7c83):=by kernel_rfl
@[go_sem] def q8r0:List AIns:=[
 yI 2 (.alloc zZ0)]
@[go_sem] def q8r1:List AIns:=[
 yI 8 (.load true 8 (.v (.vp zcn))),
 yI 3 (.alloc [(.int .u32 0),(.int .u32 0),(.int .u32 0),(.int .u32 0),(.int .u32 0),(.int .u32 0),(.int .u32 0),(.int .u32 0)]),
 ⟨none,none,.no,.store 8 (.t 3) (.t 8)⟩]
@[go_sem] def q8r2:List AIns:=[
 yM 9 0,
 yI 10 (.call (.v (.fn 112 [])) [(.t 9)]),
 yM 4 10]
@[go_sem] def q8r3:List AIns:=[
 yM 11 4,
 yI 12 (.bin .neq .none (.t 11) (.v (.str [])))]
def q8c4:ACode:= .cond (.t 12) .skip (.exit 0)
def q8c5:ACode:= .seq (.reg q8r3) q8c4
@[go_sem] def q8r6:List AIns:=[
 yI 15 (.load true 8 (.t 3)),
 yM 16 4,
 yI 17 (.slice .str (.t 16) none (some (.v (.int .i64 64))) none),
 yI 18 (.call (.v (.fn 113 [])) [(.t 15),(.t 17)]),
 ⟨none,none,.no,.store 8 (.t 3) (.t 18)⟩]
@[go_sem] def q8r7:List AIns:=[
 yM 13 4,
 yI 14 (.slice .str (.t 13) (some (.v (.int .i64 64))) none none),
 yM 4 14]
def q8c8:ACode:= .seq (.block 1 (.reg q8r6)) (.reg q8r7)
def q8c9:ACode:= .seq q8c5 q8c8
def q8c10:ACode:= .loop q8c9
def q8c11:ACode:= .block 0 q8c10
def q8c12:ACode:= .seq (.reg q8r2) q8c11
@[go_sem] def q8r13:List AIns:=[
 yI 5 (.alloc zZ0)]
@[go_sem] def q8r14:List AIns:=[
 yI 19 (.load true 8 (.t 3)),
 yI 20 (.mv (.v (.int .i64 0)))]
@[go_sem] def q8r15:List AIns:=[
 yI 21 (.bin .lss .none (.t 20) (.v (.int .i64 8)))]
@[go_sem] def q8r16:List AIns:=[
 yM 22 20,
 yI 23 (.ixArr 8 false 1 (.t 19) (.t 20)),
 yM 6 22,
 yM 7 23]
@[go_sem] def q8r17:List AIns:=[
 yM 24 6,
 yI 25 (.bin .mul .none (.v (.int .i64 4)) (.t 24)),
 yI 26 (.slice (.arr 32 1) (.t 5) (some (.t 25)) none none),
 yM 27 7,
 yI 28 (.conv (.int .u64) (.t 27)),
 yI 29 (.call (.v (.fn 114 [])) [(.t 28),(.v (.int .i64 4))]),
 yI 30 (.copy 1 (.t 26) (.t 29))]
def q8c18:ACode:= .seq (.reg q8r16) (.reg q8r17)
@[go_sem] def q8r19:List AIns:=[
 yI 31 (.bin .add .none (.t 20) (.v (.int .i64 1))),
 yM 20 31]
def q8c20:ACode:= .seq (.block 3 q8c18) (.reg q8r19)
def q8c21:ACode:= .seq (.cond (.t 21) .skip (.exit 2)) q8c20
def q8c22:ACode:= .seq (.reg q8r15) q8c21
def q8c23:ACode:= .loop q8c22
def q8c24:ACode:= .block 2 q8c23
def q8c25:ACode:= .seq (.reg q8r14) q8c24
@[go_sem] def q8r26:List AIns:=[
 yI 32 (.load true 32 (.t 5)),
 ⟨none,none,.no,.store 32 (.t 2) (.t 32)⟩]
def q8c27:ACode:= .seq (.reg q8r26) .ret
def q8c28:ACode:= .seq q8c25 q8c27
def q8c29:ACode:= .seq (.reg q8r13) q8c28
def q8c30:ACode:= .seq q8c12 q8c29
def q8c31:ACode:= .seq (.reg q8r1) q8c30
def q8c32:ACode:= .seq (.reg q8r0) q8c31
theorem q8ok:cFn TC 80=some (33,[.c 2 true 32],q8c32):=by kernel_rfl
@[go_sem] def q9r0:List AIns:=[
 yI 2 (.mv (.v .nilsl))]
@[go_sem] def q9r1:List AIns:=[
 yM 6 0,
 yI 7 (.conv .bytes (.t 6)),
 yI 8 (.lit 1 [(.v (.int .u8 128))]),
 yI 9 (.appB (.t 7) (.t 8)),
 yM 3 9]
@[go_sem] def q9r2:List AIns:=[
 yM 10 3,
 yI 11 (.lenSl (.t 10)),
 yI 12 (.bin .rem .none (.t 11) (.v (.int .i64 64))),
 yI 13 (.bin .neq .none (.t 12) (.v (.int .i64 56)))]
def q9c3:ACode:= .cond (.t 13) .skip (.exit 0)
def q9c4:ACode:= .seq (.reg q9r2) q9c3
@[go_sem] def q9r5:List AIns:=[
 yM 14 3,
 yI 15 (.lit 1 [(.v (.int .u8 0))]),
 yI 16 (.appB (.t 14) (.t 15)),
 yM 3 16]
def q9c6:ACode:= .block 1 (.reg q9r5)
def q9c7:ACode:= .seq q9c4 q9c6
def q9c8:ACode:= .loop q9c7
@[go_sem] def q9r9:List AIns:=[
 yM 17 0,
 yI 18 (.lenStr (.t 17)),
 yI 19 (.conv (.int .u64) (.t 18)),
 yI 20 (.bin .mul .none (.t 19) (.v (.int .u64 8))),
 yM 4 20]
@[go_sem] def q9r10:List AIns:=[
 yI 5 (.mv (.v (.int .i64 7)))]
@[go_sem] def q9r11:List AIns:=[
 yM 21 5,
 yI 22 (.bin .geq .none (.t 21) (.v (.int .i64 0)))]
def q9c12:ACode:= .cond (.t 22) .skip (.exit 2)
def q9c13:ACode:= .seq (.reg q9r11) q9c12
@[go_sem] def q9r14:List AIns:=[
 yM 25 3,
 yM 26 4,
 yM 27 5,
 yI 28 (.bin .mul .none (.v (.int .i64 8)) (.t 27)),
 yI 29 (.bin .shr .none (.t 26) (.t 28)),
 yI 30 (.conv (.int .u8) (.t 29)),
 yI 31 (.lit 1 [(.t 30)]),
 yI 32 (.appB (.t 25) (.t 31)),
 yM 3 32]
@[go_sem] def q9r15:List AIns:=[
 yM 23 5,
 yI 24 (.bin .sub .none (.t 23) (.v (.int .i64 1))),
 yM 5 24]
def q9c16:ACode:= .seq (.block 3 (.reg q9r14)) (.reg q9r15)
def q9c17:ACode:= .seq q9c13 q9c16
def q9c18:ACode:= .loop q9c17
def q9c19:ACode:= .block 2 q9c18
def q9c20:ACode:= .seq (.reg q9r10) q9c19
@[go_sem] def q9r21:List AIns:=[
 yM 33 3,
 yM 2 33]
def q9c22:ACode:= .seq (.reg q9r21) .ret
def q9c23:ACode:= .seq q9c20 q9c22
def q9c24:ACode:= .seq (.reg q9r9) q9c23
def q9c25:ACode:= .seq (.block 0 q9c8) q9c24
def q9c26:ACode:= .seq (.reg q9r1) q9c25
def q9c27:ACode:= .seq (.reg q9r0) q9c26
theorem q9ok:cFn TC 117=some (34,[.t 2],q9c27):=by kernel_rfl
@[go_sem] def qar0:List AIns:=[
 yI 4 (.mv (.v (.int .u32 0)))]
@[go_sem] def qar1:List AIns:=[
 yM 5 0,
 yM 6 1,
 yI 7 (.bin .shr .none (.t 5) (.t 6)),
 yM 8 0,
 yM 9 1,
 yI 10 (.bin .sub .none (.v (.int .u32 32)) (.t 9)),
 yI 11 (.bin .shl .none (.t 8) (.t 10)),
 yI 12 (.bin .or .none (.t 7) (.t 11)),
 yM 4 12]
def qac2:ACode:= .seq (.reg qar1) .ret
def qac3:ACode:= .seq (.reg qar0) qac2
theorem qaok:cFn TC 118=some (13,[.t 4],qac3):=by kernel_rfl
@[go_sem] def qbr0:List AIns:=[
 yI 2 (.mv (.v (.str [])))]
@[go_sem] def qbr1:List AIns:=[
 yM 4 0,
 yI 5 (.lenStr (.t 4)),
 yI 6 (.bin .rem .none (.t 5) (.v (.int .i64 64))),
 yI 7 (.bin .sub .none (.v (.int .i64 119)) (.t 6)),
 yI 8 (.bin .rem .none (.t 7) (.v (.int .i64 64))),
 yM 3 8]
@[go_sem] def qbr2:List AIns:=[
 yM 9 0,
 yI 10 (.bin .add .none (.t 9) (.v (.str [128]))),
 yM 11 3,
 yI 12 (.call (.v (.fn 127 [])) [(.v (.str [0])),(.t 11)]),
 yI 13 (.bin .add .none (.t 10) (.t 12)),
 yM 14 0,
 yI 15 (.lenStr (.t 14)),
 yI 16 (.conv (.int .u64) (.t 15)),
 yI 17 (.bin .mul .none (.t 16) (.v (.int .u64 8))),
 yI 18 (.call (.v (.fn 114 [])) [(.t 17),(.v (.int .i64 8))]),
 yI 19 (.bin .add .none (.t 13) (.t 18)),
 yM 2 19]
def qbc3:ACode:= .seq (.reg qbr2) .ret
def qbc4:ACode:= .seq (.reg qbr1) qbc3
def qbc5:ACode:= .seq (.reg qbr0) qbc4
theorem qbok:cFn TC 112=some (20,[.t 2],qbc5):=by kernel_rfl
@[go_sem] def qcr0:List AIns:=[
 yI 2 (.box (.t 0)),
 yI 4 (.alloc [(.int .u32 0),(.int .u32 0),(.int .u32 0),(.int .u32 0),(.int .u32 0),(.int .u32 0),(.int .u32 0),(.int .u32 0)])]
@[go_sem] def qcr1:List AIns:=[
 yI 13 (.load true 8 (.t 2)),
 yI 5 (.alloc [(.int .u32 0),(.int .u32 0),(.int .u32 0),(.int .u32 0),(.int .u32 0),(.int .u32 0),(.int .u32 0),(.int .u32 0)]),
 ⟨none,none,.no,.store 8 (.t 5) (.t 13)⟩]
@[go_sem] def qcr2:List AIns:=[
 yM 14 1,
 yI 15 (.call (.v (.fn 128 [])) [(.t 14)]),
 yI 16 (.mv (.v (.int .i64 0)))]
@[go_sem] def qcr3:List AIns:=[
 yI 17 (.bin .lss .none (.t 16) (.v (.int .i64 64)))]
@[go_sem] def qcr4:List AIns:=[
 yM 18 16,
 yI 19 (.ixArr 64 false 1 (.t 15) (.t 16)),
 yM 6 18,
 yM 7 19]
@[go_sem] def qcr5:List AIns:=[
 yI 20 (.iaArr 8 1 (.t 5) (.v (.int .i64 0))),
 ⟨some 21,none,.rd,.load false 1 (.t 20)⟩,
 yI 22 (.iaArr 8 1 (.t 5) (.v (.int .i64 4))),
 ⟨some 23,none,.rd,.load false 1 (.t 22)⟩,
 yM 8 21,
 yM 9 23]
@[go_sem] def qcr6:List AIns:=[
 yI 24 (.iaArr 8 1 (.t 5) (.v (.int .i64 7))),
 ⟨some 25,none,.rd,.load false 1 (.t 24)⟩,
 yM 26 9,
 ⟨some 27,none,.ef,.call (.v (.fn 129 [])) [(.t 26),(.v (.int .i64 6))]⟩,
 yM 28 9,
 ⟨some 29,none,.ef,.call (.v (.fn 129 [])) [(.t 28),(.v (.int .i64 11))]⟩,
 yI 30 (.bin .xor .none (.t 27) (.t 29)),
 yM 31 9,
 ⟨some 32,none,.ef,.call (.v (.fn 129 [])) [(.t 31),(.v (.int .i64 25))]⟩,
 yI 33 (.bin .xor .none (.t 30) (.t 32)),
 yI 34 (.bin .add .none (.t 25) (.t 33)),
 yM 35 9,
 yI 36 (.iaArr 8 1 (.t 5) (.v (.int .i64 5))),
 ⟨some 37,none,.rd,.load false 1 (.t 36)⟩,
 yI 38 (.bin .and .none (.t 35) (.t 37)),
 yM 39 9,
 yI 40 (.un .xor (.t 39)),
 yI 41 (.iaArr 8 1 (.t 5) (.v (.int .i64 6))),
 ⟨some 42,none,.rd,.load false 1 (.t 41)⟩,
 yI 43 (.bin .and .none (.t 40) (.t 42)),
 yI 44 (.bin .xor .none (.t 38) (.t 43)),
 yI 45 (.bin .add .none (.t 34) (.t 44)),
 yM 46 6,
 yI 47 (.iaArr 64 1 (.v (.vp gl_sha_rounds)) (.t 46)),
 ⟨some 48,none,.rd,.load false 1 (.t 47)⟩,
 yI 49 (.bin .add .none (.t 45) (.t 48)),
 yM 50 7,
 yI 51 (.bin .add .none (.t 49) (.t 50)),
 yM 10 51]
@[go_sem] def qcr7:List AIns:=[
 yM 52 8,
 ⟨some 53,none,.ef,.call (.v (.fn 129 [])) [(.t 52),(.v (.int .i64 2))]⟩,
 yM 54 8,
 ⟨some 55,none,.ef,.call (.v (.fn 129 [])) [(.t 54),(.v (.int .i64 13))]⟩,
 yI 56 (.bin .xor .none (.t 53) (.t 55)),
 yM 57 8,
 ⟨some 58,none,.ef,.call (.v (.fn 129 [])) [(.t 57),(.v (.int .i64 22))]⟩,
 yI 59 (.bin .xor .none (.t 56) (.t 58)),
 yM 60 8,
 yI 61 (.iaArr 8 1 (.t 5) (.v (.int .i64 1))),
 ⟨some 62,none,.rd,.load false 1 (.t 61)⟩,
 yI 63 (.bin .and .none (.t 60) (.t 62)),
 yM 64 8,
 yI 65 (.iaArr 8 1 (.t 5) (.v (.int .i64 2))),
 ⟨some 66,none,.rd,.load false 1 (.t 65)⟩,
 yI 67 (.bin .and .none (.t 64) (.t 66)),
 yI 68 (.bin .xor .none (.t 63) (.t 67)),
 yI 69 (.iaArr 8 1 (.t 5) (.v (.int .i64 1))),
 ⟨some 70,none,.rd,.load false 1 (.t 69)⟩,
 yI 71 (.iaArr 8 1 (.t 5) (.v (.int .i64 2))),
 ⟨some 72,none,.rd,.load false 1 (.t 71)⟩,
 yI 73 (.bin .and .none (.t 70) (.t 72)),
 yI 74 (.bin .xor .none (.t 68) (.t 73)),
 yI 75 (.bin .add .none (.t 59) (.t 74)),
 yM 11 75]
@[go_sem] def qcr8:List AIns:=[
 yM 76 10,
 yM 77 11,
 yI 78 (.bin .add .none (.t 76) (.t 77)),
 yM 79 8,
 yI 80 (.iaArr 8 1 (.t 5) (.v (.int .i64 1))),
 yI 81 (.load false 1 (.t 80)),
 yI 82 (.iaArr 8 1 (.t 5) (.v (.int .i64 2))),
 yI 83 (.load false 1 (.t 82)),
 yI 84 (.iaArr 8 1 (.t 5) (.v (.int .i64 3))),
 yI 85 (.load false 1 (.t 84)),
 yM 86 10,
 yI 87 (.bin .add .none (.t 85) (.t 86)),
 yM 88 9,
 yI 89 (.iaArr 8 1 (.t 5) (.v (.int .i64 5))),
 yI 90 (.load false 1 (.t 89)),
 yI 91 (.iaArr 8 1 (.t 5) (.v (.int .i64 6))),
 yI 92 (.load false 1 (.t 91)),
 yI 93 (.build [(.int .u32 0),(.int .u32 0),(.int .u32 0),(.int .u32 0),(.int .u32 0),(.int .u32 0),(.int .u32 0),(.int .u32 0)] [(0,1,(.t 78)),(1,1,(.t 79)),(2,1,(.t 81)),(3,1,(.t 83)),(4,1,(.t 87)),(5,1,(.t 88)),(6,1,(.t 90)),(7,1,(.t 92))]),
 ⟨none,none,.no,.store 8 (.t 5) (.t 93)⟩]
def qcc9:ACode:= .seq (.reg qcr7) (.reg qcr8)
def qcc10:ACode:= .seq (.reg qcr6) qcc9
def qcc11:ACode:= .seq (.reg qcr5) qcc10
def qcc12:ACode:= .seq (.reg qcr4) qcc11
@[go_sem] def qcr13:List AIns:=[
 yI 94 (.bin .add .none (.t 16) (.v (.int .i64 1))),
 yM 16 94]
def qcc14:ACode:= .seq (.block 1 qcc12) (.reg qcr13)
def qcc15:ACode:= .seq (.cond (.t 17) .skip (.exit 0)) qcc14
def qcc16:ACode:= .seq (.reg qcr3) qcc15
def qcc17:ACode:= .loop qcc16
def qcc18:ACode:= .block 0 qcc17
def qcc19:ACode:= .seq (.reg qcr2) qcc18
@[go_sem] def qcr20:List AIns:=[
 yI 95 (.mv (.v (.int .i64 0)))]
@[go_sem] def qcr21:List AIns:=[
 yI 96 (.bin .lss .none (.t 95) (.v (.int .i64 8)))]
@[go_sem] def qcr22:List AIns:=[
 yM 97 95,
 yM 12 97]
@[go_sem] def qcr23:List AIns:=[
 yM 98 12,
 yI 99 (.iaArr 8 1 (.t 5) (.t 98)),
 ⟨some 100,none,.rd,.load false 1 (.t 99)⟩,
 yM 101 12,
 yI 102 (.iaArr 8 1 (.t 2) (.t 101)),
 ⟨some 103,none,.rd,.load false 1 (.t 102)⟩,
 yI 104 (.bin .add .none (.t 100) (.t 103)),
 yI 105 (.iaArr 8 1 (.t 5) (.t 98)),
 ⟨none,none,.no,.store 1 (.t 105) (.t 104)⟩]
def qcc24:ACode:= .seq (.reg qcr22) (.reg qcr23)
@[go_sem] def qcr25:List AIns:=[
 yI 106 (.bin .add .none (.t 95) (.v (.int .i64 1))),
 yM 95 106]
def qcc26:ACode:= .seq (.block 3 qcc24) (.reg qcr25)
def qcc27:ACode:= .seq (.cond (.t 96) .skip (.exit 2)) qcc26
def qcc28:ACode:= .seq (.reg qcr21) qcc27
def qcc29:ACode:= .loop qcc28
def qcc30:ACode:= .block 2 qcc29
def qcc31:ACode:= .seq (.reg qcr20) qcc30
@[go_sem] def qcr32:List AIns:=[
 yI 107 (.load true 8 (.t 5)),
 ⟨none,none,.no,.store 8 (.t 4) (.t 107)⟩]
def qcc33:ACode:= .seq (.reg qcr32) .ret
def qcc34:ACode:= .seq qcc31 qcc33
def qcc35:ACode:= .seq qcc19 qcc34
def qcc36:ACode:= .seq (.reg qcr1) qcc35
def qcc37:ACode:= .seq (.reg qcr0) qcc36
theorem qcok:cFn TC 113=some (108,[.c 4 true 8],qcc37):=by kernel_rfl
@[go_sem] def qdr0:List AIns:=[
 yI 2 (.alloc [(.int .u32 0),(.int .u32 0),(.int .u32 0),(.int .u32 0),(.int .u32 0),(.int .u32 0),(.int .u32 0),(.int .u32 0),(.int .u32 0),(.int .u32 0),(.int .u32 0),(.int .u32 0),(.int .u32 0),(.int .u32 0),(.int .u32 0),(.int .u32 0),(.int .u32 0),(.int .u32 0),(.int .u32 0),(.int .u32 0),(.int .u32 0),(.int .u32 0),(.int .u32 0),(.int .u32 0),(.int .u32 0),(.int .u32 0),(.int .u32 0),(.int .u32 0),(.int .u32 0),(.int .u32 0),(.int .u32 0),(.int .u32 0),(.int .u32 0),(.int .u32 0),(.int .u32 0),(.int .u32 0),(.int .u32 0),(.int .u32 0),(.int .u32 0),(.int .u32 0),(.int .u32 0),(.int .u32 0),(.int .u32 0),(.int .u32 0),(.int .u32 0),(.int .u32 0),(.int .u32 0),(.int .u32 0),(.int .u32 0),(.int .u32 0),(.int .u32 0),(.int .u32 0),(.int .u32 0),(.int .u32 0),(.int .u32 0),(.int .u32 0),(.int .u32 0),(.int .u32 0),(.int .u32 0),(.int .u32 0),(.int .u32 0),(.int .u32 0),(.int .u32 0),(.int .u32 0)])]
@[go_sem] def qdr1:List AIns:=[
 yI 6 (.mv (.v (.int .i64 0)))]
@[go_sem] def qdr2:List AIns:=[
 yI 7 (.bin .lss .none (.t 6) (.v (.int .i64 64)))]
@[go_sem] def qdr3:List AIns:=[
 yM 8 6,
 yM 3 8]
@[go_sem] def qdr4:List AIns:=[
 yM 9 3,
 yI 10 (.bin .lss .none (.t 9) (.v (.int .i64 16)))]
@[go_sem] def qdr5:List AIns:=[
 yM 11 3,
 yM 12 0,
 yM 13 3,
 yI 14 (.bin .mul .none (.v (.int .i64 4)) (.t 13)),
 yM 15 3,
 yI 16 (.bin .mul .none (.v (.int .i64 4)) (.t 15)),
 yI 17 (.bin .add .none (.t 16) (.v (.int .i64 4))),
 yI 18 (.slice .str (.t 12) (some (.t 14)) (some (.t 17)) none),
 yI 19 (.call (.v (.fn 138 [])) [(.t 18)]),
 yI 20 (.conv (.int .u32) (.t 19)),
 yI 21 (.iaArr 64 1 (.t 2) (.t 11)),
 ⟨none,none,.no,.store 1 (.t 21) (.t 20)⟩]
def qdc6:ACode:= .seq (.reg qdr5) (.exit 1)
def qdc7:ACode:= .cond (.t 10) qdc6 .skip
def qdc8:ACode:= .seq (.reg qdr4) qdc7
@[go_sem] def qdr9:List AIns:=[
 yM 22 3,
 yI 23 (.bin .sub .none (.t 22) (.v (.int .i64 15))),
 yI 24 (.iaArr 64 1 (.t 2) (.t 23)),
 ⟨some 25,none,.rd,.load false 1 (.t 24)⟩,
 yM 26 3,
 yI 27 (.bin .sub .none (.t 26) (.v (.int .i64 2))),
 yI 28 (.iaArr 64 1 (.t 2) (.t 27)),
 ⟨some 29,none,.rd,.load false 1 (.t 28)⟩,
 yM 4 25,
 yM 5 29]
@[go_sem] def qdr10:List AIns:=[
 yM 30 3,
 yM 31 3,
 yI 32 (.bin .sub .none (.t 31) (.v (.int .i64 16))),
 yI 33 (.iaArr 64 1 (.t 2) (.t 32)),
 ⟨some 34,none,.rd,.load false 1 (.t 33)⟩,
 yM 35 3,
 yI 36 (.bin .sub .none (.t 35) (.v (.int .i64 7))),
 yI 37 (.iaArr 64 1 (.t 2) (.t 36)),
 ⟨some 38,none,.rd,.load false 1 (.t 37)⟩,
 yI 39 (.bin .add .none (.t 34) (.t 38)),
 yM 40 4,
 ⟨some 41,none,.ef,.call (.v (.fn 129 [])) [(.t 40),(.v (.int .i64 7))]⟩,
 yM 42 4,
 ⟨some 43,none,.ef,.call (.v (.fn 129 [])) [(.t 42),(.v (.int .i64 18))]⟩,
 yI 44 (.bin .xor .none (.t 41) (.t 43)),
 yM 45 4,
 yI 46 (.bin .shr .none (.t 45) (.v (.int .u64 3))),
 yI 47 (.bin .xor .none (.t 44) (.t 46)),
 yI 48 (.bin .add .none (.t 39) (.t 47)),
 yM 49 5,
 ⟨some 50,none,.ef,.call (.v (.fn 129 [])) [(.t 49),(.v (.int .i64 17))]⟩,
 yM 51 5,
 ⟨some 52,none,.ef,.call (.v (.fn 129 [])) [(.t 51),(.v (.int .i64 19))]⟩,
 yI 53 (.bin .xor .none (.t 50) (.t 52)),
 yM 54 5,
 yI 55 (.bin .shr .none (.t 54) (.v (.int .u64 10))),
 yI 56 (.bin .xor .none (.t 53) (.t 55)),
 yI 57 (.bin .add .none (.t 48) (.t 56)),
 yI 58 (.iaArr 64 1 (.t 2) (.t 30)),
 ⟨none,none,.no,.store 1 (.t 58) (.t 57)⟩]
def qdc11:ACode:= .seq (.reg qdr9) (.reg qdr10)
def qdc12:ACode:= .seq qdc8 qdc11
def qdc13:ACode:= .seq (.reg qdr3) qdc12
@[go_sem] def qdr14:List AIns:=[
 yI 59 (.bin .add .none (.t 6) (.v (.int .i64 1))),
 yM 6 59]
def qdc15:ACode:= .seq (.block 1 qdc13) (.reg qdr14)
def qdc16:ACode:= .seq (.cond (.t 7) .skip (.exit 0)) qdc15
def qdc17:ACode:= .seq (.reg qdr2) qdc16
def qdc18:ACode:= .loop qdc17
def qdc19:ACode:= .block 0 qdc18
def qdc20:ACode:= .seq (.reg qdr1) qdc19
@[go_sem] def qdr21:List AIns:=[
 yI 60 (.load true 64 (.t 2)),
 ⟨none,none,.no,.store 64 (.t 2) (.t 60)⟩]
def qdc22:ACode:= .seq (.reg qdr21) .ret
def qdc23:ACode:= .seq qdc20 qdc22
def qdc24:ACode:= .seq (.reg qdr0) qdc23
theorem qdok:cFn TC 128=some (61,[.c 2 true 64],qdc24):=by kernel_rfl
end
section
abbrev W:=BitVec 32
def wc(x:W):AV:= .int .u32 x.toNat
def ws(l:List W):List AV:=l.map wc
def ss0(x:W):W:=(x.rotateLeft 25^^^x.rotateLeft 14)^^^x>>>3
def ss1(y:W):W:=(y.rotateLeft 15^^^y.rotateLeft 13)^^^y>>>10
def bs1(e:W):W:=(e.rotateLeft 26^^^e.rotateLeft 21)^^^e.rotateLeft 7
def bs0(a:W):W:=(a.rotateLeft 30^^^a.rotateLeft 19)^^^a.rotateLeft 10
def chW(e f g:W):W:=(e &&& f)^^^(~~~e &&& g)
def majW(a b c:W):W:=((a &&& b)^^^(a &&& c))^^^(b &&& c)
def z7d(s:List UInt8)(i:Nat):W:=BitVec.ofNat 32 (getS ((s.drop (4*i)).take 4))
def wat(w:List W)(i:Nat):W:=w.getD i 0
def z3g(s:List UInt8)(w:List W):W:=
 if w.length<16 then z7d s w.length else wat w (w.length-16)+wat w (w.length-7)+ss0 (wat w (w.length-15))+ss1 (wat w (w.length-2))
def z17(s:List UInt8):Nat->List W
 | 0=>[]
 |n+1=>z17 s n++ [z3g s (z17 s n)]
structure V8 where
 a:W
 b:W
 c:W
 d:W
 e:W
 f:W
 g:W
 h:W
def V8.l(v:V8):List W:=[v.a,v.b,v.c,v.d,v.e,v.f,v.g,v.h]
def rnd(v:V8)(k w:W):V8:=
 ⟨(v.h+bs1 v.e+chW v.e v.f v.g+k+w)+(bs0 v.a+majW v.a v.b v.c),v.a,v.b,v.c,v.d+(v.h+bs1 v.e+chW v.e v.f v.g+k+w),v.e,v.f,v.g⟩
def kAt(n:Nat):W:=BitVec.ofInt 32 (shaRounds.getD n 0)
def rnds(s:List UInt8)(v:V8):Nat->V8
 | 0=>v
 |n+1=>rnd (rnds s v n) (kAt n) (wat (z17 s 64) n)
def V8.add(v u:V8):V8:=⟨v.a+u.a,v.b+u.b,v.c+u.c,v.d+u.d,v.e+u.e,v.f+u.f,v.g+u.g,v.h+u.h⟩
def mixS(v:V8)(s:List UInt8):V8:=(rnds s v 64).add v
def blocks:Nat->V8->List UInt8->V8
 | 0,v,_=>v
 |n+1,v,s=>blocks n (mixS v (s.take 64)) (s.drop 64)
def v0:V8:=⟨1779033703#32,3144134277#32,1013904242#32,2773480762#32,1359893119#32,2600822924#32,528734635#32,1541459225#32⟩
def padS(s:List UInt8):List UInt8:=s++128::(List.replicate ((119-s.length%64)%64) 0++be 8 (s.length*8))
def outV(v:V8):List UInt8:=v.l.flatMap fun x=>be 4 x.toNat
def shaS(s:List UInt8):List UInt8:=outV (blocks ((padS s).length/64) v0 (padS s))
theorem z4h(s:List UInt8):∀n,(z17 s n).length=n
 | 0=>rfl
 |n+1=>by simp [z17,z4h s n]
theorem z84{w:List W}{i:Nat}(h:i<w.length):(ws w)[i]? =some (.int .u32 (wat w i).toNat):=by
 simp [ws,wc,wat,List.getElem?_map,List.getD_eq_getElem?_getD,List.getElem?_eq_getElem h]
theorem z43(w:List W):(ws w).length=w.length:=by simp [ws]
section
theorem wr32(x:BitVec 32):IntKind.u32.wrap (x.toNat:Int)=x.toNat:=z9v ⟨by omega,by have:=x.isLt;omega⟩
theorem bw_add(a b:BitVec 32):z16 .add .u32 (a.toNat:Int) (b.toNat:Int)=some (.int .u32 ((a+b).toNat:Int)):=by
 rw [zh9,z9w,BitVec.toNat_add];rfl
theorem bw_xor(a b:BitVec 32):z16 .xor .u32 (a.toNat:Int) (b.toNat:Int)=some (.int .u32 ((a^^^b).toNat:Int)):=by
 rw [zhc ⟨by omega,by have:=a.isLt;omega⟩ ⟨by omega,by have:=b.isLt;omega⟩,BitVec.toNat_xor];rfl
theorem bw_and(a b:BitVec 32):z16 .and .u32 (a.toNat:Int) (b.toNat:Int)=some (.int .u32 ((a &&& b).toNat:Int)):=by
 rw [zha ⟨by omega,by have:=a.isLt;omega⟩ ⟨by omega,by have:=b.isLt;omega⟩,BitVec.toNat_and];rfl
theorem bw_or(a b:BitVec 32):z16 .or .u32 (a.toNat:Int) (b.toNat:Int)=some (.int .u32 ((a |||b).toNat:Int)):=by
 rw [zhb ⟨by omega,by have:=a.isLt;omega⟩ ⟨by omega,by have:=b.isLt;omega⟩,BitVec.toNat_or];rfl
theorem bw_shr{a:BitVec 32}{n:Int}(h:0<=n/\ n<32):z1m .shr .u32 (a.toNat:Int) n=some (.int .u32 ((a>>>n.toNat).toNat:Int)):=by
 rw [zj0 h,BitVec.toNat_ushiftRight,Nat.shiftRight_eq_div_pow,Int.natCast_ediv,Int.natCast_pow];rfl
theorem bw_shl{a:BitVec 32}{n:Int}(h:0<=n/\ n<32):z1m .shl .u32 (a.toNat:Int) n=some (.int .u32 ((a<<<n.toNat).toNat:Int)):=by
 rw [ziy h,BitVec.toNat_shiftLeft,Nat.shiftLeft_eq,z9w]
 rw [Int.natCast_emod,Int.natCast_mul,Int.natCast_pow];rfl
theorem bw_not(a:BitVec 32):aUn .xor (.int .u32 (a.toNat:Int))=some (.int .u32 ((~~~a).toNat:Int)):=by
 have e1:BitVec.ofInt IntKind.u32.bits (a.toNat:Int)=a:=by
  apply BitVec.eq_of_toNat_eq
  have:=a.isLt
  rw [BitVec.toNat_ofInt]
  simp only [IntKind.bits]
  omega
 have e2:BitVec.ofInt IntKind.u32.bits (if IntKind.u32.signed=true then-1 else IntKind.u32.max)=BitVec.allOnes 32:=by rfl
 have e3:aUn .xor (.int .u32 (a.toNat:Int))=some (.int .u32 (IntKind.u32.wrap (((BitVec.ofInt IntKind.u32.bits (if IntKind.u32.signed=true then-1 else IntKind.u32.max)^^^BitVec.ofInt IntKind.u32.bits (a.toNat:Int)).toNat:Nat):Int))):=rfl
 rw [e3,e1,e2]
 have e4:BitVec.allOnes 32^^^a= ~~~a:=BitVec.allOnes_xor
 show some (AV.int .u32 (IntKind.u32.wrap ((BitVec.allOnes 32^^^a).toNat:Int)))=_
 rw [e4,wr32]
end
attribute [go_sem high] bw_add bw_xor bw_and bw_or bw_shr bw_shl bw_not
end
end Am
end Go.Proofs.YtfldkpghggbdkaaGreatDoor
section
/- Packed words: lanes of 64 bits in one number. -/
namespace Go.Proofs.YtfldkpghggbdkaaGreatDoor
namespace Pk
def pkN:List Nat->Nat
 | []=>0
 |x::l=>2^64*pkN l+x
section
variable {ι:Type} (L:List ι)
def P(f:ι->Nat):Nat:=pkN (L.map f)
abbrev W:=BitVec 32
def Q(f:ι->W):Nat:=P L (fun i=>(f i).toNat)
def M:Nat:=P L (fun _=>4294967295)
def one:Nat:=P L (fun _=>1)
def cD:Nat:=2^32+1
def dbl(x:Nat):Nat:=x*cD
end
end Pk
end Go.Proofs.YtfldkpghggbdkaaGreatDoor
end
namespace Go.Proofs.YtfldkpghggbdkaaGreatDoor
namespace Am
section
set_option maxRecDepth 4000
open Pk (P Q M one pkN dbl cD)
structure S8 where
 a:Nat
 b:Nat
 c:Nat
 d:Nat
 e:Nat
 f:Nat
 g:Nat
 h:Nat
section
variable {ι:Type} (L:List ι)
end
def wx(s:List UInt8)(t:Nat):W:=z3g s (z17 s t)
section
variable {ι:Type} (L:List ι)
end
end
section
set_option maxRecDepth 4000
open Pk (P Q M one pkN)
def k64:List Nat:=[1116352408,1899447441,3049323471,3921009573,961987163,1508970993,2453635748,2870763221,3624381080,310598401,607225278,1426881987,1925078388,2162078206,2614888103,3248222580,3835390401,4022224774,264347078,604807628,770255983,1249150122,1555081692,1996064986,2554220882,2821834349,2952996808,3210313671,3336571891,3584528711,113926993,338241895,666307205,773529912,1294757372,1396182291,1695183700,1986661051,2177026350,2456956037,2730485921,2820302411,3259730800,3345764771,3516065817,3600352804,4094571909,275423344,430227734,506948616,659060556,883997877,958139571,1322822218,1537002063,1747873779,1955562222,2024104815,2227730452,2361852424,2428436474,2756734187,3204031479,3329325298]
def r64(v:V8)(s:List UInt8):V8:=rnds s v 64
section
variable {ι:Type} (L:List ι)
attribute [local irreducible] r64 k64
end
end
section
set_option maxRecDepth 4000
open Pk (P Q M one pkN)
def ones(n:Nat):Nat:=Nat.div (Nat.sub (Nat.pow 2 (Nat.mul 64 n)) 1) 18446744073709551615
section
variable {ι:Type} (L:List ι)
end
end
section
set_option maxRecDepth 4000
open Pk (P Q M one pkN)
/-! Words of bytes: a byte ahead of whole words. -/
def enc(ws:List W):List UInt8:=ws.flatMap fun x=>be 4 x.toNat
def lb(x:W):UInt8:=UInt8.ofNat x.toNat
end
section
set_option maxRecDepth 4000
open Pk (P Q M one pkN)
end
section
set_option maxRecDepth 4000
open Pk (P Q M one pkN)
section
variable (v2:Nat->V8)
end
section
variable (v1:Nat->V8)
end
end
section
theorem rl_c{k:Nat}:∀(l:List W),RLs k (ws l)
 | []=>by simp [ws,RLs]
 | _::l=>by have:=rl_c (k:=k) l;simp only [ws]at this;simp [ws,wc,RLs,RL,this]
theorem z2k{k:Nat}{l:List AV}(h:RLs k l):RL k (.agg l):=by simpa only [RL]using h
theorem zbm(J:Store)(x:W)(k:Int)(h:0<k/\ k<32):ACallsTo TC 118 [.int .u32 x.toNat,.int .u32 k] J (.int .u32 (x.rotateLeft (32-k.toNat)).toNat) J:=by
 refine ACallsTo.of_body qaok (by simp) fun hw _=> ?_
 repeat' (first|apply zs_|apply zb_|apply zc_|apply zt_ rfl|apply zf_ rfl|(refine zd_ rfl ?_ ?_<;>intro ht<;>try omega)|((first|apply zr_|apply zk_|apply ze_|apply zq_|(apply zG<;>intro ht));all_goals try simp (disch:=first|omega|(simp only [lens];first|done|omega)) only [go_sem]))
 have e:(x>>>k.toNat |||x<<<(32-k).toNat)=x.rotateLeft (32-k.toNat):=by
  obtain⟨n,rfl⟩:∃n:Nat,k=n:=⟨k.toNat,by omega⟩
  have e1:((32:Int)-n).toNat=32-n:=by omega
  rw [e1,Int.toNat_natCast,BitVec.rotateLeft_def,BitVec.or_comm]
  have:(32-n)%32=32-n:=Nat.mod_eq_of_lt (by omega)
  rw [this]
  congr 2
  omega
 rw [e]
 exact DownV.same hw (zz _ rfl)
theorem zsx(s:List UInt8)(i:Nat):IntKind.u32.wrap ((getS ((s.drop (4*i)).take 4):Nat):Int)=((z7d s i).toNat:Int):=by
 rw [z9w,z7d,BitVec.toNat_ofNat];rfl
theorem zlu{w:List W}{x:W}{n:Nat}(h:w.length=n)(hn:n<64):(ws w++List.replicate (64-n) (AV.int .u32 0)).take n++AV.int .u32 x.toNat::(ws w++List.replicate (64-n) (AV.int .u32 0)).drop (n+1)=ws (w++ [x])++List.replicate (64-(n+1)) (AV.int .u32 0):=by
 have hl:(ws w).length=n:=by rw [z43,h]
 have e:64-n=(64-(n+1))+1:=by omega
 rw [List.take_append_of_le_length (by omega),List.take_of_length_le (by omega),List.drop_append,List.drop_of_length_le (by omega),hl]
 rw [show n+1-n=1 by omega,e,List.replicate_succ,List.drop_succ_cons,List.drop_zero,List.nil_append]
 simp [ws,wc]
theorem zrz(J:Store)(s:List UInt8)(h:64<=s.length)(hs:s.length<9223372036854775808):ACallsTo TC 128 [.str s] J (.agg (ws (z17 s 64))) J:=by
 obtain⟨R,hR⟩:∃R,R=z17 s 64:=⟨_,rfl⟩
 rw [<-hR]
 refine ACallsTo.of_body qdok (by simp) fun hw _=> ?_
 repeat' (first|apply zs_|apply zb_|apply zc_|apply zt_ rfl|apply zf_ rfl|(refine zd_ rfl ?_ ?_<;>intro ht<;>try omega)|((first|apply zr_|apply zk_|apply ze_|apply zq_|(apply zG<;>intro ht));all_goals try simp (disch:=first|omega|(simp only [lens];first|done|omega)) only [go_sem]))
 refine zW.loop (fun m ρ J'=>∃i:Nat,m+i=64/\ ρ 0= .str s/\ ρ 2= .ptr J.length 0 0/\ ρ 6= .int .i64 i/\ J'=J++ [some [ws (z17 s i)++List.replicate (64-i) (AV.int .u32 0)]]) 64 ?_ ?_
 ·exact⟨0,by omega,by simp (disch:=first|omega|(simp only [lens];first|done|omega)) only [go_sem],by simp (disch:=first|omega|(simp only [lens];first|done|omega)) only [go_sem],by simp (disch:=first|omega|(simp only [lens];first|done|omega)) only [go_sem];rfl,rfl⟩
 ·rintro m ρ J' ⟨i,hm,q0,q2,q6,rfl⟩
  have hsl:=z4h s i
  have hset:=fun x=>zlu (x:=x) hsl
  have hwi:∀j,j<i->(ws (z17 s i)++List.replicate (64-i) (AV.int .u32 0))[j]? =some (.int .u32 (wat (z17 s i) j).toNat):=by
   intro j hj
   rw [List.getElem?_append_left (by rw [z43];omega),z84 (by omega)]
  have hlen:(ws (z17 s i)++List.replicate (64-i) (AV.int .u32 0)).length=64 \/64<i:=by
   simp [z43,hsl];omega
  by_cases hi:i<64
  ·have hlen:(ws (z17 s i)++List.replicate (64-i) (AV.int .u32 0)).length=64:=by omega
   generalize hcc:ws (z17 s i)++List.replicate (64-i) (AV.int .u32 0)=cc at*
   by_cases h16:i<16
   ·have hd1:(s.take (4*i+4)).length=4*i+4:=by rw [List.length_take];omega
    repeat' (first|apply zs_|apply zb_|apply zc_|apply zt_ rfl|apply zf_ rfl|(refine zd_ rfl ?_ ?_<;>intro ht<;>try omega)|((first|apply zr_|apply zk_|apply ze_|apply zq_|(apply callW.mk_pu;(first|exact(fun _=>zfq _ _ (by simp;omega))))|(apply callW.za;(first|exact(zfq _ _ (by simp;omega))))|(apply zG<;>intro ht));all_goals try simp (disch:=first|omega|(simp only [lens];first|done|omega)) only [go_sem,q0,q2,q6,hlen]))
    have ev:((getS ((s.take (4*(i:Int)+4).toNat).drop (4*(i:Int)).toNat):Nat):Int)%4294967296=((z3g s (z17 s i)).toNat:Int):=by
     rw [show (4*(i:Int)+4).toNat=4*i+4 by omega,show (4*(i:Int)).toNat=4*i by omega,List.drop_take,show 4*i+4-4*i=4 by omega]
     have:=zsx s i
     rw [z9w]at this
     rw [this,z3g,if_pos (by omega),hsl]
    refine⟨64-(i+1),by omega,i+1,by omega,by simp,?_⟩
    rw [ev,hset _ hi,z17]
   ·have en:z3g s (z17 s i)=wat (z17 s i) (i-16)+wat (z17 s i) (i-7)+ss0 (wat (z17 s i) (i-15))+ss1 (wat (z17 s i) (i-2)):=by rw [z3g,if_neg (by omega),hsl]
    have g16:=hwi (i-16) (by omega)
    have g7:=hwi (i-7) (by omega)
    have g15:=hwi (i-15) (by omega)
    have g2:=hwi (i-2) (by omega)
    have t16:((i:Int)-16).toNat=i-16:=by omega
    have t7:((i:Int)-7).toNat=i-7:=by omega
    have t15:((i:Int)-15).toNat=i-15:=by omega
    have t2:((i:Int)-2).toNat=i-2:=by omega
    generalize wat (z17 s i) (i-16)=w16 at*
    generalize wat (z17 s i) (i-7)=w7 at*
    generalize wat (z17 s i) (i-15)=w15 at*
    generalize wat (z17 s i) (i-2)=w2 at*
    have r7:((-7:Int)%32).toNat=25:=rfl
    have r18:((-18:Int)%32).toNat=14:=rfl
    have r17:((-17:Int)%32).toNat=15:=rfl
    have r19:((-19:Int)%32).toNat=13:=rfl
    have en2:=hset (z3g s (z17 s i)) hi
    rw [en]at en2
    simp only [ss0,ss1]at en2
    repeat' (first|apply zs_|apply zb_|apply zc_|apply zt_ rfl|apply zf_ rfl|(refine zd_ rfl ?_ ?_<;>intro ht<;>try omega)|((first|apply zr_|apply zk_|apply ze_|apply zq_|(apply callW.mk_pu;(first|exact(fun _=>zad _ _ _)))|(apply callW.za;(first|exact(zad _ _ _)))|(apply zG<;>intro ht));all_goals try simp (disch:=first|omega|(simp only [lens];first|done|omega)) only [go_sem,q0,q2,q6,hlen,g16,g7,g15,g2,t16,t7,t15,t2,r7,r18,r17,r19]))
    refine⟨64-(i+1),by omega,i+1,by omega,by simp,?_⟩
    rw [en2,z17,en]
    simp only [ss0,ss1]
  ·have e:i=64:=by omega
   have eR:z17 s i=R:=by rw [hR,e]
   have hsR:R.length=64:=by rw [<-eR,hsl,e]
   have hl64:(ws R).length=64:=by rw [z43,hsR]
   have e0:List.replicate (64-i) (AV.int .u32 0)=[]:=by rw [e];rfl
   rw [eR,e0,List.append_nil]at*
   clear hwi hset hlen hR
   have hd:(ws R).drop 64=[]:=List.drop_of_length_le (by omega)
   repeat' (first|apply zs_|apply zb_|apply zc_|apply zt_ rfl|apply zf_ rfl|(refine zd_ rfl ?_ ?_<;>intro ht<;>try omega)|((first|apply zr_|apply zk_|apply ze_|apply zq_|(apply zG<;>intro ht));all_goals try simp (disch:=first|omega|(simp only [lens];first|done|omega)) only [go_sem,q0,q2,q6,hl64,hd]))
   exact DownV.pure hw (z2k (rl_c _))
end
section
def V8.c8(v:V8):List AV:=[.int .u32 v.a.toNat,.int .u32 v.b.toNat,.int .u32 v.c.toNat,.int .u32 v.d.toNat,.int .u32 v.e.toNat,.int .u32 v.f.toNat,.int .u32 v.g.toNat,.int .u32 v.h.toNat]
theorem ws_l(v:V8):ws v.l=v.c8:=rfl
theorem zhe{i:Nat}(h:i<64):(gl_sha_rounds.drop i)[0]? =some (.int .u32 (kAt i).toNat):=by
 have hall:∀j:Fin 64,(gl_sha_rounds.drop j.val)[0]? =some (.int .u32 (kAt j.val).toNat):=by
  intro j
  have h2:(gl_sha_rounds.drop j.val)[0]? =some (AV.int .u32 (shaRounds.getD j.val 0)):=by
   have hl:shaRounds.length=64:=rfl
   simp only [gl_sha_rounds,List.getElem?_drop,Nat.add_zero,List.getElem?_map,List.getD_eq_getElem?_getD]
   rw [List.getElem?_eq_getElem (by rw [hl];exact j.isLt)];rfl
  rw [h2]
  have h3:∀j:Fin 64,shaRounds.getD j.val 0=((kAt j.val).toNat:Int):=by decide
  rw [h3 j]
 exact hall ⟨i,h⟩
theorem z8v:gl_sha_rounds.length=64:=rfl
theorem mix_to(J:Store)(v:V8)(s:List UInt8)(h:64<=s.length)(hs:s.length<9223372036854775808):ACallsTo TC 113 [.agg (ws v.l),.str s] J (.agg (ws (mixS v s).l)) J:=by
 obtain⟨R,hR⟩:∃R,R=z17 s 64:=⟨_,rfl⟩
 have hsp:=fun J=>zrz J s h hs
 rw [<-hR]at hsp
 have hRl:R.length=64:=by rw [hR,z4h]
 have hwR:(ws R).length=64:=by rw [z43,hRl]
 have hst:∀n,rnds s v (n+1)=rnd (rnds s v n) (kAt n) (wat R n):=fun n=>by rw [rnds,hR]
 obtain⟨F,hF⟩:∃F,F=(rnds s v 64).add v:=⟨_,rfl⟩
 have hmix:mixS v s=F:=hF.symm
 rw [hmix,ws_l,ws_l]
 clear hmix
 refine ACallsTo.of_body qcok (by simp) fun hw _=> ?_
 unfold V8.c8
 repeat' (first|apply zs_|apply zb_|apply zc_|apply zt_ rfl|apply zf_ rfl|(refine zd_ rfl ?_ ?_<;>intro ht<;>try omega)|((first|apply zr_|apply zk_|apply ze_|apply zq_|(apply callW.mk_pu;(first|exact(fun _=>hsp _)))|(apply callW.za;(first|exact(hsp _)))|(apply zG<;>intro ht));all_goals try simp (disch:=first|omega|(simp only [lens];first|done|omega)) only [go_sem]))
 refine zW.loop (fun m ρ J'=>∃i:Nat,m+i=64/\ ρ 2= .ptr J.length 0 0/\ ρ 4= .ptr (J.length+1) 0 0/\ ρ 5= .ptr (J.length+2) 0 0/\ ρ 15= .agg (ws R)/\ ρ 16= .int .i64 i ∧
  J'=J++ [some [v.c8],some [[AV.int .u32 0,AV.int .u32 0,AV.int .u32 0,AV.int .u32 0,AV.int .u32 0,AV.int .u32 0,AV.int .u32 0,AV.int .u32 0]],some [(rnds s v i).c8]]) 64 ?_ ?_
 ·exact⟨0,by omega,by simp (disch:=first|omega|(simp only [lens];first|done|omega)) only [go_sem],by simp (disch:=first|omega|(simp only [lens];first|done|omega)) only [go_sem],by simp (disch:=first|omega|(simp only [lens];first|done|omega)) only [go_sem],by simp (disch:=first|omega|(simp only [lens];first|done|omega)) only [go_sem],by simp (disch:=first|omega|(simp only [lens];first|done|omega)) only [go_sem];rfl,rfl⟩
 ·rintro m ρ J' ⟨i,hm,q2,q4,q5,q15,q16,rfl⟩
  by_cases hi:i<64
  ·have hk:=zhe hi
   have hw:=z84 (w:=R) (i:=i) (by omega)
   have hst:=hst i
   generalize rnds s v i=u at*
   obtain⟨a,b,c,d,e,f,g,h⟩:=u
   generalize kAt i=kk at*
   generalize wat R i=ww at*
   have r6:((-6:Int)%32).toNat=26:=rfl
   have r11:((-11:Int)%32).toNat=21:=rfl
   have r25:((-25:Int)%32).toNat=7:=rfl
   have r2:((-2:Int)%32).toNat=30:=rfl
   have r13:((-13:Int)%32).toNat=19:=rfl
   have r22:((-22:Int)%32).toNat=10:=rfl
   refine zs_ ?_
   refine zr_ ?_
   simp (disch:=first|omega|(simp only [lens];first|done|omega)) only [go_sem,q16]
   refine zs_ ?_
   refine zt_ rfl ?_
   refine zk_ ?_
   simp (disch:=first|omega|(simp only [lens];first|done|omega)) only [go_sem]
   refine zs_ ?_
   refine zb_ ?_
   refine zs_ ?_
   refine zW.regS ?_
   simp (disch:=first|omega|(simp only [lens];first|done|omega)) only [go_sem,q15,q16,hwR,hw]
   (refine zW.slots [2,4,5,6,7,15,16] ?_;intro ρ1 hs;simp (disch:=first|omega|(simp only [lens];first|done|omega)) only [go_sem,q2,q4,q5,q15,q16]at hs;obtain⟨s2,s4,s5,s6,s7,s15,s16⟩:=hs)
   refine zs_ ?_
   refine zW.regS ?_
   simp (disch:=first|omega|(simp only [lens];first|done|omega)) only [go_sem,s5,V8.c8]
   (refine zW.slots [2,4,5,6,7,8,9,15,16] ?_;intro ρ2 hs;simp (disch:=first|omega|(simp only [lens];first|done|omega)) only [go_sem,s2,s4,s5,s6,s7,s15,s16]at hs;obtain⟨s2,s4,s5,s6,s7,s8,s9,s15,s16⟩:=hs)
   refine zs_ ?_
   (refine zW.regS ?_;(simp (disch:=first|omega|(simp only [lens];first|done|omega)) only [go_sem,s2,s4,s5,s6,s7,s8,s9,V8.c8,hk,z8v,r6,r11,r25]);repeat' (apply callW.za;(first|exact(zad _ _ _));all_goals try (simp (disch:=first|omega|(simp only [lens];first|done|omega)) only [go_sem,s2,s4,s5,s6,s7,s8,s9,V8.c8,hk,z8v,r6,r11,r25])))
   (refine zW.slots [2,4,5,8,9,10,15,16] ?_;intro ρ3 hs;simp (disch:=first|omega|(simp only [lens];first|done|omega)) only [go_sem,s2,s4,s5,s8,s9,s15,s16]at hs;obtain⟨s2,s4,s5,s8,s9,s10,s15,s16⟩:=hs)
   refine zs_ ?_
   (refine zW.regS ?_;(simp (disch:=first|omega|(simp only [lens];first|done|omega)) only [go_sem,s5,s8,s9,V8.c8,r2,r13,r22]);repeat' (apply callW.za;(first|exact(zad _ _ _));all_goals try (simp (disch:=first|omega|(simp only [lens];first|done|omega)) only [go_sem,s5,s8,s9,V8.c8,r2,r13,r22])))
   (refine zW.slots [2,4,5,8,9,10,11,15,16] ?_;intro ρ4 hs;simp (disch:=first|omega|(simp only [lens];first|done|omega)) only [go_sem,s2,s4,s5,s8,s9,s10,s15,s16]at hs;obtain⟨s2,s4,s5,s8,s9,s10,s11,s15,s16⟩:=hs)
   (refine zW.regS ?_;(simp (disch:=first|omega|(simp only [lens];first|done|omega)) only [go_sem,s5,s8,s9,s10,s11,V8.c8]))
   (refine zW.slots [2,4,5,15,16] ?_;intro ρ5 hs;simp (disch:=first|omega|(simp only [lens];first|done|omega)) only [go_sem,s2,s4,s5,s15,s16]at hs;obtain⟨s2,s4,s5,s15,s16⟩:=hs)
   (refine zW.regS ?_;(simp (disch:=first|omega|(simp only [lens];first|done|omega)) only [go_sem,s16]))
   refine⟨64-(i+1),by omega,i+1,by omega,s2,s4,s5,s15,by simp,?_⟩
   rw [hst]
   simp only [rnd,V8.c8,bs1,chW,bs0,majW]
  ·obtain rfl:i=64:=by omega
   clear hst
   generalize rnds s v 64=U at*
   rw [hF,V8.add]
   clear hF hR
   obtain⟨a,b,c,d,e,f,g,h⟩:=U
   obtain⟨a',b',c',d',e',f',g',h'⟩:=v
   simp only [V8.c8]at*
   repeat' (first|apply zs_|apply zb_|apply zc_|apply zt_ rfl|apply zf_ rfl|(refine zd_ rfl ?_ ?_<;>intro ht<;>try omega)|((first|apply zr_|apply zk_|apply ze_|apply zq_|(apply zG<;>intro ht));all_goals try simp (disch:=first|omega|(simp only [lens];first|done|omega)) only [go_sem,q16]))
   refine zW.loop (fun m ρ J'=>∃j:Nat,m+j=8/\ ρ 2= .ptr J.length 0 0/\ ρ 4= .ptr (J.length+1) 0 0/\ ρ 5= .ptr (J.length+2) 0 0/\ ρ 95= .int .i64 j ∧
    J'=J++ [some [V8.c8 ⟨a',b',c',d',e',f',g',h'⟩],some [[AV.int .u32 0,AV.int .u32 0,AV.int .u32 0,AV.int .u32 0,AV.int .u32 0,AV.int .u32 0,AV.int .u32 0,AV.int .u32 0]],some [(V8.c8 ⟨a+a',b+b',c+c',d+d',e+e',f+f',g+g',h+h'⟩).take j++(V8.c8 ⟨a,b,c,d,e,f,g,h⟩).drop j]]) 8 ?_ ?_
   ·exact⟨0,by omega,by simp (disch:=first|omega|(simp only [lens];first|done|omega)) only [go_sem,q2],by simp (disch:=first|omega|(simp only [lens];first|done|omega)) only [go_sem,q4],by simp (disch:=first|omega|(simp only [lens];first|done|omega)) only [go_sem,q5],by simp (disch:=first|omega|(simp only [lens];first|done|omega)) only [go_sem];rfl,rfl⟩
   ·clear q2 q4 q5 q15 q16
    rintro m ρ J' ⟨j,hm,q2,q4,q5,q95,rfl⟩
    have hj:j=0 \/j=1 \/j=2 \/j=3 \/j=4 \/j=5 \/j=6 \/j=7 \/j=8:=by omega
    rcases hj with rfl|rfl|rfl|rfl|rfl|rfl|rfl|rfl|rfl
    ·repeat' (first|refine zs_ ?_|refine zb_ ?_|refine zc_ ?_|refine zt_ rfl ?_|refine zf_ rfl ?_|(refine zd_ rfl (fun ht=> ?_) (fun ht=> ?_)<;>try (exfalso;omega))|((first|refine zW.regS ?_|refine zk_ ?_|refine ze_ ?_|refine zq_ ?_|(apply zG<;>intro ht));all_goals try simp (disch:=first|omega|(simp only [lens];first|done|omega)) only [go_sem,q2,q4,q5,q95,V8.c8]))
     exact⟨7,by omega,1,by omega,rfl,rfl⟩
    ·repeat' (first|refine zs_ ?_|refine zb_ ?_|refine zc_ ?_|refine zt_ rfl ?_|refine zf_ rfl ?_|(refine zd_ rfl (fun ht=> ?_) (fun ht=> ?_)<;>try (exfalso;omega))|((first|refine zW.regS ?_|refine zk_ ?_|refine ze_ ?_|refine zq_ ?_|(apply zG<;>intro ht));all_goals try simp (disch:=first|omega|(simp only [lens];first|done|omega)) only [go_sem,q2,q4,q5,q95,V8.c8]))
     exact⟨6,by omega,2,by omega,rfl,rfl⟩
    ·repeat' (first|refine zs_ ?_|refine zb_ ?_|refine zc_ ?_|refine zt_ rfl ?_|refine zf_ rfl ?_|(refine zd_ rfl (fun ht=> ?_) (fun ht=> ?_)<;>try (exfalso;omega))|((first|refine zW.regS ?_|refine zk_ ?_|refine ze_ ?_|refine zq_ ?_|(apply zG<;>intro ht));all_goals try simp (disch:=first|omega|(simp only [lens];first|done|omega)) only [go_sem,q2,q4,q5,q95,V8.c8]))
     exact⟨5,by omega,3,by omega,rfl,rfl⟩
    ·repeat' (first|refine zs_ ?_|refine zb_ ?_|refine zc_ ?_|refine zt_ rfl ?_|refine zf_ rfl ?_|(refine zd_ rfl (fun ht=> ?_) (fun ht=> ?_)<;>try (exfalso;omega))|((first|refine zW.regS ?_|refine zk_ ?_|refine ze_ ?_|refine zq_ ?_|(apply zG<;>intro ht));all_goals try simp (disch:=first|omega|(simp only [lens];first|done|omega)) only [go_sem,q2,q4,q5,q95,V8.c8]))
     exact⟨4,by omega,4,by omega,rfl,rfl⟩
    ·repeat' (first|refine zs_ ?_|refine zb_ ?_|refine zc_ ?_|refine zt_ rfl ?_|refine zf_ rfl ?_|(refine zd_ rfl (fun ht=> ?_) (fun ht=> ?_)<;>try (exfalso;omega))|((first|refine zW.regS ?_|refine zk_ ?_|refine ze_ ?_|refine zq_ ?_|(apply zG<;>intro ht));all_goals try simp (disch:=first|omega|(simp only [lens];first|done|omega)) only [go_sem,q2,q4,q5,q95,V8.c8]))
     exact⟨3,by omega,5,by omega,rfl,rfl⟩
    ·repeat' (first|refine zs_ ?_|refine zb_ ?_|refine zc_ ?_|refine zt_ rfl ?_|refine zf_ rfl ?_|(refine zd_ rfl (fun ht=> ?_) (fun ht=> ?_)<;>try (exfalso;omega))|((first|refine zW.regS ?_|refine zk_ ?_|refine ze_ ?_|refine zq_ ?_|(apply zG<;>intro ht));all_goals try simp (disch:=first|omega|(simp only [lens];first|done|omega)) only [go_sem,q2,q4,q5,q95,V8.c8]))
     exact⟨2,by omega,6,by omega,rfl,rfl⟩
    ·repeat' (first|refine zs_ ?_|refine zb_ ?_|refine zc_ ?_|refine zt_ rfl ?_|refine zf_ rfl ?_|(refine zd_ rfl (fun ht=> ?_) (fun ht=> ?_)<;>try (exfalso;omega))|((first|refine zW.regS ?_|refine zk_ ?_|refine ze_ ?_|refine zq_ ?_|(apply zG<;>intro ht));all_goals try simp (disch:=first|omega|(simp only [lens];first|done|omega)) only [go_sem,q2,q4,q5,q95,V8.c8]))
     exact⟨1,by omega,7,by omega,rfl,rfl⟩
    ·repeat' (first|refine zs_ ?_|refine zb_ ?_|refine zc_ ?_|refine zt_ rfl ?_|refine zf_ rfl ?_|(refine zd_ rfl (fun ht=> ?_) (fun ht=> ?_)<;>try (exfalso;omega))|((first|refine zW.regS ?_|refine zk_ ?_|refine ze_ ?_|refine zq_ ?_|(apply zG<;>intro ht));all_goals try simp (disch:=first|omega|(simp only [lens];first|done|omega)) only [go_sem,q2,q4,q5,q95,V8.c8]))
     exact⟨0,by omega,8,by omega,rfl,rfl⟩
    ·repeat' (first|apply zs_|apply zb_|apply zc_|apply zt_ rfl|apply zf_ rfl|(refine zd_ rfl ?_ ?_<;>intro ht<;>try omega)|((first|apply zr_|apply zk_|apply ze_|apply zq_|(apply zG<;>intro ht));all_goals try simp (disch:=first|omega|(simp only [lens];first|done|omega)) only [go_sem,q2,q4,q5,q95,V8.c8]))
     exact DownV.pure hw (zz _ rfl)
end
end Am
end Go.Proofs.YtfldkpghggbdkaaGreatDoor
section
/- Contracts of library functions, laid off the kit's shelf for this program. -/
namespace Go.Proofs
open Go.Shelf
def Tryz.lays169_ren : Go.Shelf.Ren := ⟨fun | 169 => 105 | n => n, fun | 70 => 154 | 9 => 9 | 0 => 0 | 72 => 156 | 37 => 83 | 127 => 176 | 3 => 3 | 5 => 5 | n => n, fun | n => n⟩
theorem Tryz.lays169 : Go.Proofs.Lays.n169 Tryz.prog Tryz.lays169_ren := {
 mixed := by kernel_rfl
 f169 := Tryz.func105.trans (congrArg some (by kernel_rfl))
 t0 := Tryz.underlying0
 a0 := Tryz.isAgg0
 z0 := Tryz.sizeOf0
 v0 := Tryz.zeroValue0
 t3 := Tryz.underlying3
 a3 := Tryz.isAgg3
 z3 := Tryz.sizeOf3
 v3 := Tryz.zeroValue3
 t9 := Tryz.underlying9
 a9 := Tryz.isAgg9
 z9 := Tryz.sizeOf9
 v9 := Tryz.zeroValue9
 t37 := Tryz.underlying83
 a37 := Tryz.isAgg83
 z37 := Tryz.sizeOf83
 v37 := Tryz.zeroValue83
 t70 := Tryz.underlying154
 a70 := Tryz.isAgg154
 z70 := Tryz.sizeOf154
 v70 := Tryz.zeroValue154
 t72 := Tryz.underlying156
 a72 := Tryz.isAgg156
 z72 := Tryz.sizeOf156
 v72 := Tryz.zeroValue156
 t127 := Tryz.underlying176
 a127 := Tryz.isAgg176
 z127 := Tryz.sizeOf176
 v127 := Tryz.zeroValue176 }
theorem Tryz.Builder_Extra_169 : Builder.Extra Tryz.prog Tryz.lays169_ren := {
 sizeBuilder := by kernel_rfl
 liesBuilder := by kernel_rfl
 t5 := Tryz.underlying5
 a5 := Tryz.isAgg5
 z5 := Tryz.sizeOf5
 v5 := Tryz.zeroValue5
 infoByte := by kernel_rfl
 cellsByte := by kernel_rfl
 sizeByte := by kernel_rfl
 neB5 := by decide }
open Go.RowKit in
theorem Tryz.Builder_String_any (B b : Nat) (l : List UInt8) (w : World) (h : Lib.IsBuilder 156 5 B b (Lib.byteCells l) w) (hBw : B <= w.heap.size) :
  Calls Tryz.prog 105 #[.pointer (some ⟨b, 0, none⟩)] w fun e w' => e = .returned (.string ⟨l.toArray⟩) /\ Below B w w' := Any.Builder_String_any Tryz.lays169 Tryz.Builder_Extra_169 B b l w h hBw
def Tryz.lays105_ren : Go.Shelf.Ren := ⟨fun | 105 => 127 | 212 => 134 | 99 => 135 | 165 => 136 | 166 => 104 | 170 => 137 | 169 => 105 | 263 => 140 | 264 => 141 | 206 => 142 | 240 => 122 | 241 => 143 | 276 => 133 | 277 => 144 | n => n, fun | 9 => 9 | 3 => 3 | 4 => 4 | 20 => 20 | 0 => 0 | 46 => 162 | 109 => 186 | 5 => 5 | 72 => 156 | 76 => 159 | 51 => 165 | 146 => 192 | 53 => 113 | 148 => 194 | 70 => 154 | 37 => 83 | 75 => 158 | 127 => 176 | 164 => 184 | 80 => 161 | n => n, fun | n => n⟩
theorem Tryz.lays105 : Go.Proofs.Lays.n105 Tryz.prog Tryz.lays105_ren := {
 mixed := by kernel_rfl
 f99 := Tryz.func135.trans (congrArg some (by kernel_rfl))
 f105 := Tryz.func127.trans (congrArg some (by kernel_rfl))
 f165 := Tryz.func136.trans (congrArg some (by kernel_rfl))
 f166 := Tryz.func104.trans (congrArg some (by kernel_rfl))
 f169 := Tryz.func105.trans (congrArg some (by kernel_rfl))
 f170 := Tryz.func137.trans (congrArg some (by kernel_rfl))
 f206 := Tryz.func142.trans (congrArg some (by kernel_rfl))
 f212 := Tryz.func134.trans (congrArg some (by kernel_rfl))
 f240 := Tryz.func122.trans (congrArg some (by kernel_rfl))
 f241 := Tryz.func143.trans (congrArg some (by kernel_rfl))
 f263 := Tryz.func140.trans (congrArg some (by kernel_rfl))
 f264 := Tryz.func141.trans (congrArg some (by kernel_rfl))
 f276 := Tryz.func133.trans (congrArg some (by kernel_rfl))
 f277 := Tryz.func144.trans (congrArg some (by kernel_rfl))
 t0 := Tryz.underlying0
 a0 := Tryz.isAgg0
 z0 := Tryz.sizeOf0
 v0 := Tryz.zeroValue0
 t3 := Tryz.underlying3
 a3 := Tryz.isAgg3
 z3 := Tryz.sizeOf3
 v3 := Tryz.zeroValue3
 t4 := Tryz.underlying4
 a4 := Tryz.isAgg4
 z4 := Tryz.sizeOf4
 v4 := Tryz.zeroValue4
 t5 := Tryz.underlying5
 a5 := Tryz.isAgg5
 z5 := Tryz.sizeOf5
 v5 := Tryz.zeroValue5
 t9 := Tryz.underlying9
 a9 := Tryz.isAgg9
 z9 := Tryz.sizeOf9
 v9 := Tryz.zeroValue9
 t20 := Tryz.underlying20
 a20 := Tryz.isAgg20
 z20 := Tryz.sizeOf20
 v20 := Tryz.zeroValue20
 t37 := Tryz.underlying83
 a37 := Tryz.isAgg83
 z37 := Tryz.sizeOf83
 v37 := Tryz.zeroValue83
 t46 := Tryz.underlying162
 a46 := Tryz.isAgg162
 z46 := Tryz.sizeOf162
 v46 := Tryz.zeroValue162
 t51 := Tryz.underlying165
 a51 := Tryz.isAgg165
 z51 := Tryz.sizeOf165
 v51 := Tryz.zeroValue165
 t53 := Tryz.underlying113
 a53 := Tryz.isAgg113
 z53 := Tryz.sizeOf113
 v53 := Tryz.zeroValue113
 t70 := Tryz.underlying154
 a70 := Tryz.isAgg154
 z70 := Tryz.sizeOf154
 v70 := Tryz.zeroValue154
 t72 := Tryz.underlying156
 a72 := Tryz.isAgg156
 z72 := Tryz.sizeOf156
 v72 := Tryz.zeroValue156
 t75 := Tryz.underlying158
 a75 := Tryz.isAgg158
 z75 := Tryz.sizeOf158
 v75 := Tryz.zeroValue158
 t76 := Tryz.underlying159
 a76 := Tryz.isAgg159
 z76 := Tryz.sizeOf159
 v76 := Tryz.zeroValue159
 t109 := Tryz.underlying186
 a109 := Tryz.isAgg186
 z109 := Tryz.sizeOf186
 v109 := Tryz.zeroValue186
 t127 := Tryz.underlying176
 a127 := Tryz.isAgg176
 z127 := Tryz.sizeOf176
 v127 := Tryz.zeroValue176
 t146 := Tryz.underlying192
 a146 := Tryz.isAgg192
 z146 := Tryz.sizeOf192
 v146 := Tryz.zeroValue192
 t148 := Tryz.underlying194
 a148 := Tryz.isAgg194
 z148 := Tryz.sizeOf194
 v148 := Tryz.zeroValue194
 t164 := Tryz.underlying184
 a164 := Tryz.isAgg184
 z164 := Tryz.sizeOf184
 v164 := Tryz.zeroValue184 }
theorem Tryz.Builder_Extra_105 : Builder.Extra Tryz.prog Tryz.lays105_ren := {
 sizeBuilder := by kernel_rfl
 liesBuilder := by kernel_rfl
 t5 := Tryz.underlying5
 a5 := Tryz.isAgg5
 z5 := Tryz.sizeOf5
 v5 := Tryz.zeroValue5
 infoByte := by kernel_rfl
 cellsByte := by kernel_rfl
 sizeByte := by kernel_rfl
 neB5 := by decide }
open Go.RowKit Go.Lib in
theorem Tryz.strings_Repeat (s : ByteArray) (c : Nat) (w : World) (hc : c <= 9223372036854775807) (hlen : s.size * c <= 140737488355328) :
  Calls Tryz.prog 127 #[.string s, .int .i64 c] w fun e w' => e = .returned (.string ⟨(Lib.repeatL s.data.toList c).toArray⟩) /\ Below w.heap.size w w' := Any.strings_Repeat Tryz.lays105 Tryz.Builder_Extra_105 s c w hc hlen
end Go.Proofs
end
namespace Go.Proofs.YtfldkpghggbdkaaGreatDoor
namespace Am
section
open Go.RowKit
def zj(l:List UInt8):List AV:=l.map fun b=> .int .u8 b.toNat
theorem z2b{k:Nat}:∀(l:List UInt8),RLs k (zj l)
 | []=>by simp [zj,RLs]
 | _::l=>by have:=z2b (k:=k) l;simp only [zj]at this;simp [zj,RLs,RL,this]
theorem Rel.below{C:Ctx}{γ:Places}{J:Store}{w w':World}(h:Rel C γ J w)(hb:Below w.heap.size w w'):Step γ w γ w'/\ Rel C γ J w':=by
 have hs:Step γ w γ w':=⟨fun r fl pl h=>⟨fl,h⟩,hb.size,fun b hb' _=>hb.block b hb',fun r pl h=> .inl ⟨r,pl,h,rfl⟩,hb.os,hb.tape,hb.output⟩
 refine⟨hs,h.len,fun r o hr=> ?_,h.dead,h.inj,fun g cs hg=>(h.gl g cs hg).mono hs⟩
 obtain⟨pl,h1,h2⟩:=h.alive r o hr
 exact⟨pl,h1,h2.mono hs (hb.block _ h2.lt)⟩
theorem ACallsTo.of_calls{C:Ctx}{f:FuncId}{args:List AV}{J:Store}{v:AV}(hc:(cFn C f).isSome=true)
  (h:∀(γ:Places) (w:World) (cargs:List Value),VRt γ w args cargs->Calls C.P f cargs.toArray w fun e w'=>∃cv,e= .returned cv/\ VR γ w' v cv/\ Below w.heap.size w w'):ACallsTo C f args J v J:=by
 obtain⟨e,hc⟩:=Option.isSome_iff_exists.1 hc
 simp only [cFn,Option.bind_eq_some_iff]at hc
 obtain⟨fn,hf,hc⟩:=hc
 split at hc
 ·cases hc
 ·rename_i hname
  simp only [Option.bind_eq_some_iff,Option.map_eq_some_iff]at hc
  obtain⟨c,hb,_⟩:=hc
  intro γ w cargs hR ha
  left
  constructor
  ·have h1:fn.name ≠ "runtime.NumGoroutine" :=by simpa using hname
   simp [callFunc,hf,h1,hb]
  ·refine(h γ w cargs ha).mono ?_
   rintro e w' ⟨cv,rfl,hv,hbl⟩
   obtain⟨s1,s2⟩:=hR.below hbl
   exact⟨cv,γ,rfl,s1,s2,hv⟩
theorem zr0(b:UInt8):∀n,Lib.repeatL [b] n=List.replicate n b:=by
 intro n
 induction n with
 |zero=>simp [Lib.repeatL]
 |succ n ih=>simp [Lib.repeatL,List.replicate_succ]at ih ⊢ <;>simp [ih]
theorem zij(J:Store)(b:UInt8)(c:Nat)(h:c<=1000000):ACallsTo TC 127 [.str [b],.int .i64 c] J (.str (List.replicate c b)) J:=by
 refine ACallsTo.of_calls (by kernel_rfl) ?_
 intro γ w cargs ha
 simp only [VRt,VR]at ha
 obtain⟨_,_,rfl,rfl,_,_,rfl,rfl,rfl⟩:=ha
 refine(Tryz.strings_Repeat ⟨[b].toArray⟩ c w (by omega) (by simp [ByteArray.size];omega)).mono ?_
 rintro e w' ⟨rfl,hb⟩
 refine⟨_,rfl,?_,hb⟩
 simp only [VR]
 rw [zr0]
theorem zmy(J:Store)(s:List UInt8)(h:s.length<1000000000000):ACallsTo TC 112 [.str s] J (.str (padS s)) J:=by
 refine ACallsTo.of_body qbok (by simp) fun hw _=> ?_
 obtain⟨z,hz⟩:∃z:Nat,z=(119-s.length%64)%64:=⟨_,rfl⟩
 have hz64:z<64:=by rw [hz];exact Nat.mod_lt _ (by decide)
 have hz2:(119-(s.length:Int)%64)%64=z:=by omega
 have hp:putS ((s.length:Int)*8) 8=be 8 (s.length*8):=by
  unfold putS
  rw [if_pos (by omega)]
  rfl
 have hpl:(be 8 (s.length*8)).length=8:=z3j _ _
 repeat' (first|apply zs_|apply zb_|apply zc_|apply zt_ rfl|apply zf_ rfl|(refine zd_ rfl ?_ ?_<;>intro ht<;>try omega)|((first|apply zr_|apply zk_|apply ze_|apply zq_|(apply callW.mk_pu;(first|exact(fun _=>zij _ 0 z (by omega))|exact(fun _=>z6t _ ((s.length:Int)*8) 8 (by omega) (by omega))))|(apply callW.za;(first|exact(zij _ 0 z (by omega))|exact(z6t _ ((s.length:Int)*8) 8 (by omega) (by omega))))|(apply zG<;>intro ht));all_goals try simp (disch:=first|omega|(simp only [lens];first|done|omega)) only [go_sem,hz2,hp,hpl,List.length_replicate]))
 have e:s++([128]++(List.replicate z 0++be 8 (s.length*8)))=padS s:=by unfold padS;rw [<-hz];rfl
 rw [show s++128::(List.replicate z 0++be 8 (s.length*8))=padS s by unfold padS;rw [<-hz]]
 exact DownV.same hw (zz _ rfl)
theorem zhx(s:List UInt8):(padS s).length%64=0/\ (padS s).length<s.length+80:=by
 unfold padS
 simp only [List.length_append,List.length_cons,List.length_replicate,z3j]
 omega
theorem zn2:zcn=v0.c8:=rfl
theorem put4(x:W):putS (x.toNat:Int) 4=be 4 x.toNat:=by
 unfold putS
 rw [if_pos (by omega)]
 rfl
theorem mix_c8(J:Store)(v:V8)(s:List UInt8)(h:64<=s.length)(hs:s.length<9223372036854775808):ACallsTo TC 113 [.agg v.c8,.str s] J (.agg (mixS v s).c8) J:=mix_to J v s h hs
theorem zn0{l:List W}{j:Nat}(h:j<l.length):(l.flatMap fun x=>be 4 x.toNat).take (4*j)++be 4 (l[j]).toNat=(l.flatMap fun x=>be 4 x.toNat).take (4*(j+1)):=by
 induction l generalizing j with
 |nil=>simp at h
 |cons x l ih=>
  have hb:(be 4 x.toNat).length=4:=z3j _ _
  rw [List.flatMap_cons]
  cases j with
  |zero=>
   simp only [Nat.mul_zero,List.take_zero,List.nil_append,List.getElem_cons_zero,Nat.zero_add,Nat.mul_one]
   rw [List.take_append_of_le_length (by omega),List.take_of_length_le (by omega)]
  |succ j=>
   simp only [List.length_cons]at h
   have e1:(be 4 x.toNat).take (4*(j+1))=be 4 x.toNat:=List.take_of_length_le (by omega)
   have e2:(be 4 x.toNat).take (4*(j+1+1))=be 4 x.toNat:=List.take_of_length_le (by omega)
   rw [List.getElem_cons_succ,List.take_append,List.take_append,e1,e2,hb,List.append_assoc,show 4*(j+1)-4=4*j by omega,show 4*(j+1+1)-4=4*(j+1)by omega,ih (by omega)]
theorem z4y(v:V8):(outV v).length=32:=by
 simp [outV,V8.l,z3j]
def z49(v:V8)(j:Nat):List AV:=zj ((outV v).take (4*j))++List.replicate (32-4*j) (.int .u8 0)
theorem zm(l:List UInt8):(zj l).length=l.length:=by simp [zj]
theorem zne(v:V8){j:Nat}(h:j<=8):(z49 v j).length=32:=by
 simp [z49,zm,z4y];omega
theorem zfr(l:List UInt8):(zn l).flatten=zj l:=by
 induction l with
 |nil=>rfl
 |cons b l ih=>simp [zn,zj,B8]at ih ⊢;exact ih
theorem znf(v:V8){j:Nat}(h:j<8):z1d (z49 v j) (4*j) (zj (be 4 (wat v.l j).toNat))=z49 v (j+1):=by
 have hl:v.l.length=8:=rfl
 have e:=zn0 (l:=v.l) (j:=j) (by omega)
 have hw:wat v.l j=v.l[j]'(by omega):=by simp [wat,List.getD_eq_getElem?_getD,List.getElem?_eq_getElem (show j<v.l.length by omega)]
 have h1:(zj ((outV v).take (4*j))).length=4*j:=by rw [zm,List.length_take,z4y];omega
 have h2:(zj (be 4 (wat v.l j).toNat)).length=4:=by rw [zm,z3j]
 unfold z1d z49
 rw [List.take_append_of_le_length (by omega),List.take_of_length_le (by omega),List.drop_append,List.drop_of_length_le (by omega),h1,h2,List.nil_append]
 rw [show 4*j+4-4*j=4 by omega,List.drop_replicate,show 32-4*j-4=32-4*(j+1)by omega]
 congr 1
 unfold zj
 rw [<-List.map_append]
 congr 1
 rw [hw]
 exact e
theorem z80(J:Store)(s:List UInt8)(h:s.length<100000000000):ACallsTo TC 80 [.str s] J (.agg (zj (shaS s))) J:=by
 obtain⟨p,hp⟩:∃p,p=padS s:=⟨_,rfl⟩
 obtain⟨hp1,hp2⟩:=zhx s
 rw [<-hp]at hp1 hp2
 obtain⟨N,hN⟩:∃N,p.length=64*N:=⟨p.length/64,by omega⟩
 obtain⟨V,hV⟩:∃V,V=blocks N v0 p:=⟨_,rfl⟩
 have hS:shaS s=outV V:=by
  unfold shaS
  rw [<-hp,hV]
  have:p.length/64=N:=by omega
  rw [this]
 rw [hS]
 have hf:=fun J=>zmy J s (by omega)
 rw [<-hp]at hf
 refine ACallsTo.of_body q8ok (by simp) fun hw _=> ?_
 repeat' (first|apply zs_|apply zb_|apply zc_|apply zt_ rfl|apply zf_ rfl|(refine zd_ rfl ?_ ?_<;>intro ht<;>try omega)|((first|apply zr_|apply zk_|apply ze_|apply zq_|(apply callW.mk_pu;(first|exact(fun _=>hf _)))|(apply callW.za;(first|exact(hf _)))|(apply zG<;>intro ht));all_goals try simp (disch:=first|omega|(simp only [lens];first|done|omega)) only [go_sem,zn2,V8.c8]))
 refine zW.loop (fun m ρ J'=>∃u q,q.length=64*m/\ q.length<=p.length/\ blocks m u q=V/\ ρ 2= .ptr J.length 0 0/\ ρ 3= .ptr (J.length+1) 0 0/\ ρ 4= .str q/\ J'=J++ [some [zj (List.replicate 32 0)],some [u.c8]]) N ?_ ?_
 ·exact⟨v0,p,hN,Nat.le_refl _,hV.symm,by simp (disch:=first|omega|(simp only [lens];first|done|omega)) only [go_sem],by simp (disch:=first|omega|(simp only [lens];first|done|omega)) only [go_sem],by simp (disch:=first|omega|(simp only [lens];first|done|omega)) only [go_sem],rfl⟩
 ·rintro m ρ J' ⟨u,q,hq,hqp,hb,q2,q3,q4,rfl⟩
  have hz:(zj (List.replicate 32 0)).length=32:=rfl
  cases m with
  |succ m=>
   have hne:(q==[])=false:=by cases q with
    |nil=>simp at hq
    |cons a q=>rfl
   have hmix:=fun J=>mix_c8 J u (q.take 64) (by rw [List.length_take];omega) (by rw [List.length_take];omega)
   obtain⟨M,hM⟩:∃M,M=mixS u (q.take 64):=⟨_,rfl⟩
   rw [<-hM]at hmix
   have hb2:blocks m M (q.drop 64)=V:=by rw [hM];exact hb
   unfold V8.c8 at hmix
   repeat' (first|refine zs_ ?_|refine zb_ ?_|refine zc_ ?_|refine zt_ rfl ?_|refine zf_ rfl ?_|(refine zd_ rfl (fun ht=> ?_) (fun ht=> ?_)<;>try (exfalso;omega))|((first|refine zW.regS ?_|refine zk_ ?_|refine ze_ ?_|refine zq_ ?_|(apply callW.mk_pu;(first|exact(fun _=>hmix _)))|(apply callW.za;(first|exact(hmix _)))|(apply zG<;>intro ht));all_goals try simp (disch:=first|omega|(simp only [lens];first|done|omega)) only [go_sem,q2,q3,q4,hne,V8.c8]))
   refine⟨m,by omega,M,q.drop 64,by rw [List.length_drop];omega,by rw [List.length_drop];omega,hb2,rfl,rfl⟩
  |zero=>
   have hq0:q=[]:=List.eq_nil_of_length_eq_zero (by omega)
   subst hq0
   have hu:u=V:=hb
   subst hu
   repeat' (first|apply zs_|apply zb_|apply zc_|apply zt_ rfl|apply zf_ rfl|(refine zd_ rfl ?_ ?_<;>intro ht<;>try omega)|((first|apply zr_|apply zk_|apply ze_|apply zq_|(apply zG<;>intro ht));all_goals try simp (disch:=first|omega|(simp only [lens];first|done|omega)) only [go_sem,q2,q3,q4,V8.c8]))
   refine zW.loop (fun m ρ J'=>∃j:Nat,m+j=8/\ ρ 2= .ptr J.length 0 0/\ ρ 5= .ptr (J.length+2) 0 0/\ ρ 19= .agg u.c8/\ ρ 20= .int .i64 j/\ J'=J++ [some [zj (List.replicate 32 0)],some [u.c8],some [z49 u j]]) 8 ?_ ?_
   ·exact⟨0,by omega,by simp (disch:=first|omega|(simp only [lens];first|done|omega)) only [go_sem,q2],by simp (disch:=first|omega|(simp only [lens];first|done|omega)) only [go_sem],by simp (disch:=first|omega|(simp only [lens];first|done|omega)) only [go_sem];rfl,by simp (disch:=first|omega|(simp only [lens];first|done|omega)) only [go_sem];rfl,rfl⟩
   ·clear q2 q3 q4
    rintro m ρ J' ⟨j,hm,q2,q5,q19,q20,rfl⟩
    have hlen:=zne u (j:=j) (by omega)
    have h8:u.c8.length=8:=rfl
    by_cases hj:j<8
    ·have hst:=znf u hj
     have hw:=z84 (w:=u.l) (i:=j) (by simpa [V8.l]using hj)
     rw [ws_l]at hw
     generalize wat u.l j=x at*
     generalize z49 u j=cc at*
     generalize hcc:z49 u (j+1)=cc' at*
     have hx:x.toNat<4294967296:=x.isLt
     have hb4:(be 4 x.toNat).length=4:=z3j _ _
     have ht4:(zn (be 4 x.toNat)).take (32-4*j)=zn (be 4 x.toNat):=List.take_of_length_le (by rw [zx,hb4];omega)
     have hn4:(4*(j:Int)).toNat=4*j:=by omega
     repeat' (first|refine zs_ ?_|refine zb_ ?_|refine zc_ ?_|refine zt_ rfl ?_|refine zf_ rfl ?_|(refine zd_ rfl (fun ht=> ?_) (fun ht=> ?_)<;>try (exfalso;omega))|((first|refine zW.regS ?_|refine zk_ ?_|refine ze_ ?_|refine zq_ ?_|(apply callW.mk_pu;(first|exact(fun _=>z6t _ _ _ (by omega) (by omega))))|(apply callW.za;(first|exact(z6t _ _ _ (by omega) (by omega))))|(apply zG<;>intro ht));all_goals try simp (disch:=first|omega|(simp only [lens];first|done|omega)) only [go_sem,q2,q5,q19,q20,hlen,h8,hw,put4,hb4,ht4,hst,hn4,zfr]))
     unfold z1d at hst
     rw [List.append_assoc]at hst
     exact⟨8-(j+1),by omega,j+1,by omega,by simp,by rw [hst,hcc]⟩
    ·obtain rfl:j=8:=by omega
     have e8:z49 u 8=zj (outV u):=by
      unfold z49
      rw [List.take_of_length_le (by rw [z4y];decide)]
      exact List.append_nil _
     have hd:List.drop 32 (zj (List.replicate 32 0))=[]:=rfl
     have hl:(zj (outV u)).length=32:=by rw [zm,z4y]
     rw [e8]at*
     repeat' (first|apply zs_|apply zb_|apply zc_|apply zt_ rfl|apply zf_ rfl|(refine zd_ rfl ?_ ?_<;>intro ht<;>try omega)|((first|apply zr_|apply zk_|apply ze_|apply zq_|(apply zG<;>intro ht));all_goals try simp (disch:=first|omega|(simp only [lens];first|done|omega)) only [go_sem,q2,q5,q19,q20,hl,h8,hd]))
     exact DownV.pure hw (z2k (z2b _))
end
end Am
end Go.Proofs.YtfldkpghggbdkaaGreatDoor
section
/- strings.Builder: the contracts of copyCheck and String over the abstract store. -/
namespace Go.Proofs
open Go.Shelf Go.RowKit
def Tryz.lays240_ren:Go.Shelf.Ren:=⟨fun| 240=>122| 276=>133|n=>n,fun| 0=>0| 4=>4| 9=>9| 20=>20| 70=>154| 72=>156| 164=>184| 37=>83|n=>n,fun|n=>n⟩
theorem Tryz.lays240:Go.Proofs.Lays.n240 Tryz.prog Tryz.lays240_ren:={
 mixed:=by kernel_rfl
 f240:=Tryz.func122.trans (congrArg some (by kernel_rfl))
 f276:=Tryz.func133.trans (congrArg some (by kernel_rfl))
 t0:=Tryz.underlying0
 a0:=Tryz.isAgg0
 z0:=Tryz.sizeOf0
 v0:=Tryz.zeroValue0
 t4:=Tryz.underlying4
 a4:=Tryz.isAgg4
 z4:=Tryz.sizeOf4
 v4:=Tryz.zeroValue4
 t9:=Tryz.underlying9
 a9:=Tryz.isAgg9
 z9:=Tryz.sizeOf9
 v9:=Tryz.zeroValue9
 t20:=Tryz.underlying20
 a20:=Tryz.isAgg20
 z20:=Tryz.sizeOf20
 v20:=Tryz.zeroValue20
 t70:=Tryz.underlying154
 a70:=Tryz.isAgg154
 z70:=Tryz.sizeOf154
 v70:=Tryz.zeroValue154
 t72:=Tryz.underlying156
 a72:=Tryz.isAgg156
 z72:=Tryz.sizeOf156
 v72:=Tryz.zeroValue156
 t164:=Tryz.underlying184
 a164:=Tryz.isAgg184
 z164:=Tryz.sizeOf184
 v164:=Tryz.zeroValue184 }
theorem Tryz.x72_240:Builder.X72 Tryz.prog Tryz.lays240_ren:={
 sizeBuilder:=by kernel_rfl
 liesBuilder:=by kernel_rfl }
section
variable {P:Program} {ρ:Ren}
set_option maxRecDepth 100000 in
theorem Tryz.string_ex(L:Lays.n169 P ρ)(X:Builder.Extra P ρ)(b g cap:Nat)(cur:Array Value)(p:Value)(fb fg:Nat × Nat)(l:List UInt8)(w:World)(h0:l ≠ [])
  (hbk:w.heap[b]? =some (.cells #[p,.slice (some ⟨g,0,none⟩) l.length cap] (ρ.t 72) fb)) (hg:w.heap[g]? =some (.cells cur (ρ.t 5) fg)) (hnc:l.length<=cap) (hcs:l.length<=cur.size) (hln:l.length<=9223372036854775807)
  (hcl:∀j x,l[j]? =some x->w.cell? ((⟨g,0,none⟩:Addr).add j)=some (.int .u8 x.toNat)):
  Calls P (ρ.f 169) #[.pointer (some ⟨b,0,none⟩)] w fun e w'=>e= .returned (.string ⟨l.toArray⟩)/\ w'=w.drew.freeze ⟨g,0,none⟩ l.length:=by
 have hl0:l.length ≠ 0:=by simpa using h0
 have c1:w.drew.cell? ⟨b,1,none⟩=some (.slice (some ⟨g,0,none⟩) l.length cap):=by
  have:w.drew.heap[b]? =some (.cells #[p,.slice (some ⟨g,0,none⟩) l.length cap] (ρ.t 72) fb):=hbk
  rw [Lib.cell_of_heap this];rfl
 have hSD:(Builtin.unsafeSliceData_ #[(ρ.t 37)] (ρ.t 127) #[.slice (some ⟨g,0,none⟩) l.length cap]).run P w.drew= .ok (.pointer (some ⟨g,0,none⟩)) w.drew:=
  Lib.run_unsafeSliceData_row _ _ _ _ _ _ (by omega)
 have hUS:(Builtin.unsafeString_ #[(ρ.t 127),(ρ.t 3)] (ρ.t 9) #[.pointer (some ⟨g,0,none⟩),.int .i64 l.length]).run P w.drew= .ok (.string ⟨l.toArray⟩) (w.drew.freeze ⟨g,0,none⟩ l.length):=
  Lib.run_unsafeString_row w.drew (ρ.t 127) (ρ.t 3) (ρ.t 9) (ρ.t 5) L.t127 X.cellsByte g cur.size (by have hg':w.drew.heap[g]? =some (.cells cur (ρ.t 5) fg):=hg;simp [World.shape?,hg']) l h0 hcs hln hcl
 have mixed:=L.mixed
 have t72:=L.t72;have a72:=L.a72;have z72:=L.z72;have v72:=L.v72;have u72:=run_underlying L.t72
 have t70:=L.t70;have a70:=L.a70;have z70:=L.z70;have v70:=L.v70;have u70:=run_underlying L.t70
 have t37:=L.t37;have a37:=L.a37;have z37:=L.z37;have v37:=L.v37;have u37:=run_underlying L.t37
 have t127:=L.t127;have a127:=L.a127;have z127:=L.z127;have v127:=L.v127;have u127:=run_underlying L.t127
 have t3:=L.t3;have a3:=L.a3;have z3:=L.z3;have v3:=L.v3;have u3:=run_underlying L.t3
 have t9:=L.t9;have a9:=L.a9;have z9:=L.z9;have v9:=L.v9;have u9:=run_underlying L.t9
 have t5:=X.t5;have a5:=X.a5;have z5:=X.z5;have v5:=X.v5;have u5:=run_underlying X.t5
 clear hcl hcs hln hg hbk hnc
 go_enter L.f169,Body.n169_ntmps ρ
 go_wp2
 go_region_o
 all_goals (go_wp2;go_ret;exact⟨rfl,rfl⟩)
end
end Go.Proofs
namespace Go.Proofs.YtfldkpghggbdkaaGreatDoor
namespace Am
open Go.RowKit
section
variable {C:Ctx} {γ:Places} {J:Store} {w w':World}
theorem Rel.lose(h:Rel C γ J w){r:Nat}{pl:Place}(hr:γ[r]? =some (true,pl))(hsz:w'.heap.size=w.heap.size)(hother:∀b,b ≠ pl.b->w'.heap[b]? =w.heap[b]?)(ho:w'.os=w.os)(ht:w'.tape=w.tape)(hp:w'.output=w.output):
  Step γ w (γ.set r (false,pl)) w'/\ Rel C (γ.set r (false,pl)) (J.set r none) w':=by
 obtain⟨k1,k2⟩:=h.kill hr
 have hrl:r<γ.length:=(List.getElem?_eq_some_iff.1 hr).1
 have hs:Step γ w (γ.set r (false,pl)) w':=⟨k1.keep,by omega,fun b _ hn=>hother b fun e=>hn r pl hr e.symm,fun q x hx=>by
  rcases k1.new q x hx with h|h
  ·exact .inl h
  ·exact .inr h,ho,ht,hp⟩
 refine⟨hs,by simp [h.len],fun q o hq=> ?_,fun q hq=>k2.dead q hq,fun q q' x x' h1 h2 h3=>k2.inj q q' x x' h1 h2 h3,fun g cs hg=>(h.gl g cs hg).mono hs⟩
 by_cases e:r=q
 ·subst e
  rw [List.getElem?_set_self (by rw [<-h.len];exact hrl)]at hq;cases hq
 ·rw [List.getElem?_set_ne e]at hq
  obtain⟨x,h1,h2⟩:=h.alive q o hq
  exact⟨x,by rw [List.getElem?_set_ne e];exact h1,h2.mono hs (hother _ fun e'=>e (h.inj r q pl x hr h1 e'.symm))⟩
theorem Rel.bld_at(hR:Rel C γ J w){r:Nat}{x:AV}(hr:J[r]? =some (some [[.bld r,x]])):∃(pl:Place) (v0 v1:Value) (fz:Nat × Nat),γ[r]? =some (true,pl)/\ pl.base=0/\ pl.esz=2/\ w.heap[pl.b]? =some (.cells #[v0,v1] bldT fz) ∧
  (v0= .pointer none \/v0= .pointer (some ⟨pl.b,0,none⟩))/\ VR γ w x v1/\ (∀k,k<2->(decide (fz.1<=k) && decide (k<fz.2))=false):=by
 obtain⟨pl,hpl,hok⟩:=hR.alive r _ hr
 obtain⟨c,ty,fz,pre,mid,post,q1,q2,q3,q4,q5,q6⟩:=hok.ex
 simp only [List.flatten_cons,List.flatten_nil,List.append_nil,VRs]at q5
 obtain⟨v0,_,rfl,⟨k1,_⟩,v1,_,rfl,⟨k2,_⟩,rfl⟩:=q5
 simp only [VR]at k1
 obtain⟨fl,pl',hpl',⟨e1,e2,e3,e4,e5⟩,k3⟩:=k1
 rw [hpl]at hpl';cases hpl'
 have hty:ty=bldT:=by
  obtain⟨c0,fz0,h0⟩:=hok.tyk
  rw [q1]at h0;cases h0;exact e1
 have hpre:pre=[]:=List.eq_nil_of_length_eq_zero (by omega)
 subst hpre
 have hlen:c.toList.length=2:=by rw [Array.length_toList,q4,e5]
 have hpost:post=[]:=by
  rw [q2]at hlen
  simpa using hlen
 subst hpost
 have hc:c= #[v0,v1]:=by
  apply Array.ext'
  rw [q2];rfl
 subst hc hty
 exact⟨pl,v0,v1,fz,hpl,e2,e3,q1,k3,k2,fun k hk=>q6 k hk⟩
end
theorem zrg{J:Store}{r:Nat}{x:Option AObj}(h:J[r]? =some x):J.set r x=J:=by
 apply List.ext_getElem?
 intro i
 by_cases e:r=i
 ·subst e
  rw [List.getElem?_set_self (List.getElem?_eq_some_iff.1 h).1,h]
 ·rw [List.getElem?_set_ne e]
theorem zcd(J:Store)(r:Nat)(x:AV)(hr:J[r]? =some (some [[.bld r,x]])):ACallsTo TC 122 [.ptr r 0 0] J (.tup []) J:=by
 obtain⟨e,hc⟩:=Option.isSome_iff_exists.1 (show (cFn TC 122).isSome=true by kernel_rfl)
 simp only [cFn,Option.bind_eq_some_iff]at hc
 obtain⟨fn,hf,hc⟩:=hc
 split at hc
 ·cases hc
 ·rename_i hname
  simp only [Option.bind_eq_some_iff,Option.map_eq_some_iff]at hc
  obtain⟨c,hb,_⟩:=hc
  intro γ w cargs hR ha
  left
  constructor
  ·have h1:fn.name ≠ "runtime.NumGoroutine" :=by simpa using hname
   simp [callFunc,hf,h1,hb]
  ·obtain⟨pl,v0,v1,fz,hpl,hb0,hez,hw,hv0,hv1,hfz⟩:=hR.bld_at hr
   simp only [VRt,VR]at ha
   obtain⟨_,_,rfl,⟨fl,pl',hpl',rfl⟩,rfl⟩:=ha
   rw [hpl]at hpl';cases hpl'
   have ea:pl.base+0*pl.esz+0=0:=by rw [hb0];omega
   rw [ea]
   have hcell:w.cell? ⟨pl.b,0,none⟩=some v0:=by rw [Lib.cell_of_heap hw];rfl
   rcases hv0 with rfl|rfl
   ·refine(Any.Builder_copyCheck_fresh Tryz.lays240 Tryz.x72_240 pl.b w hcell (by simp [World.shape?,hw];rfl) (by simp only [World.frozen?,hw];exact hfz 0 (by omega))).mono ?_
    rintro e w' ⟨rfl,rfl⟩
    obtain⟨w2,k1,k2,k3⟩:=hR.storeElem (i:=0) (off:=0) (vs:=[.bld r]) (vals:=[.pointer (some ⟨pl.b,0,none⟩)]) hr hpl rfl (by simp) (VRs.one ⟨by
     simp only [VR]
     obtain⟨pl2,hpl2,hok⟩:=hR.alive r _ hr
     rw [hpl]at hpl2;cases hpl2
     obtain⟨c,ty,fz2,pre,mid,post,q1,q2,q3,q4,q5,q6⟩:=hok.ex
     simp only [List.flatten_cons,List.flatten_nil,List.append_nil,VRs,VR]at q5
     obtain⟨u0,_,_,⟨⟨fl3,pl3,hpl3,k,_⟩,_⟩,_⟩:=q5
     rw [hpl]at hpl3;cases hpl3
     exact⟨true,pl,hpl,k,.inr rfl⟩,rfl⟩)
    rw [ea]at k1
    have e2:w2=w.setCell ⟨pl.b,0,none⟩ (.pointer (some ⟨pl.b,0,none⟩)):=by
     have hfr:w.frozen? ⟨pl.b,0,none⟩=false:=by simp only [World.frozen?,hw];exact hfz 0 (by omega)
     have hst:(store ⟨pl.b,0,none⟩ (.pointer (some ⟨pl.b,0,none⟩))).run TC.P w= .ok () (w.setCell ⟨pl.b,0,none⟩ (.pointer (some ⟨pl.b,0,none⟩))):=by
      rw [run_store TC.P w _ _ _ rfl,hcell];simp [hfr]
     have:=k1
     simp only [storeCells,z2y,Nat.add_zero,Sem.run_bind,hst,Result.andThen_ok,Sem.run_pure,Result.ok.injEq,true_and]at this
     exact this.symm
    rw [<-e2]
    have e3:J.set r (some ([[.bld r,x]].set 0 (z1d [.bld r,x] 0 [.bld r])))=J:=by
     have:([[AV.bld r,x]]:List (List AV)).set 0 (z1d [.bld r,x] 0 [.bld r])=[[.bld r,x]]:=by simp [z1d]
     rw [this]
     exact zrg hr
    rw [e3]at k3
    exact⟨_,γ,rfl,k2,k3,by simp only [VR];exact⟨[],rfl,VRt.nil⟩⟩
   ·refine(Any.Builder_copyCheck_used Tryz.lays240 Tryz.x72_240 pl.b w hcell).mono ?_
    rintro e w' ⟨rfl,rfl⟩
    exact⟨_,γ,rfl,Step.refl _ _,hR,by simp only [VR];exact⟨[],rfl,VRt.nil⟩⟩
theorem zc4(J:Store)(r rb:Nat)(s:List UInt8)(h0:s ≠ [])(hs:s.length<=1073741824)(h1:J[r]? =some (some [[.bld r,.bsl rb s.length]]))(h2:J[rb]? =some (some (zn s))):
  ACallsTo TC 105 [.ptr r 0 0] J (.str s) (J.set rb none):=by
 obtain⟨e,hc⟩:=Option.isSome_iff_exists.1 (show (cFn TC 105).isSome=true by kernel_rfl)
 simp only [cFn,Option.bind_eq_some_iff]at hc
 obtain⟨fn,hf,hc⟩:=hc
 split at hc
 ·cases hc
 ·rename_i hname
  simp only [Option.bind_eq_some_iff,Option.map_eq_some_iff]at hc
  obtain⟨c,hb,_⟩:=hc
  intro γ w cargs hR ha
  left
  constructor
  ·have h1:fn.name ≠ "runtime.NumGoroutine" :=by simpa using hname
   simp [callFunc,hf,h1,hb]
  ·obtain⟨pl,v0,v1,fz,hpl,hb0,hez,hw,hv0,hv1,hfz⟩:=hR.bld_at h1
   simp only [VRt,VR]at ha
   obtain⟨_,_,rfl,⟨fl,pl',hpl',rfl⟩,rfl⟩:=ha
   rw [hpl]at hpl';cases hpl'
   have ea:pl.base+0*pl.esz+0=0:=by rw [hb0];omega
   rw [ea]
   simp only [VR]at hv1
   obtain⟨fl2,pb,cap,hpb,⟨t1,t2,t3⟩,rfl,hso⟩:=hv1
   obtain⟨pb',hpb',hok⟩:=hR.alive rb _ h2
   rw [hpb]at hpb';cases hpb'
   obtain⟨cur,ty,fg,pre,mid,post,q1,q2,q3,q4,q5,q6⟩:=hok.ex
   have hty:ty=u8T:=by
    obtain⟨c0,fz0,h0⟩:=hok.tyk
    rw [q1]at h0;cases h0;exact t1
   subst hty
   have hpre:pre=[]:=List.eq_nil_of_length_eq_zero (by omega)
   subst hpre
   rw [zc5]at q5
   have hml:=q5.length
   rw [List.length_map]at hml
   have hcs:s.length<=cur.size:=by
    rw [<-Array.length_toList,q2];simp;omega
   refine(Tryz.string_ex Tryz.lays169 Tryz.Builder_Extra_169 pl.b pb.b cap cur v0 fz fg s w h0 hw q1 hso.le hcs (by omega) (fun j x hj=> ?_)).mono ?_
   ·obtain⟨v,k1,k2⟩:=q5.get (i:=j) (a:=B8 x) (by rw [List.getElem?_map,hj];rfl)
    have hv:=k2.1
    simp only [B8,VR]at hv
    rw [z2y,Nat.zero_add,Lib.cell_of_heap q1]
    show cur[j]? =_
    rw [<-Array.getElem?_toList,q2,List.nil_append,List.getElem?_append_left (by
     rcases Nat.lt_or_ge j mid.length with h|h
     ·exact h
     ·simp [List.getElem?_eq_none h]at k1),k1,hv]
   ·rintro e w' ⟨rfl,rfl⟩
    have hz:s.length ≠ 0:=by simpa using h0
    obtain⟨k1,k2⟩:=hR.lose (w':=w.drew.freeze ⟨pb.b,0,none⟩ s.length) hpb (by show (World.freeze w.drew _ _).heap.size=w.drew.heap.size;unfold World.freeze;rw [if_neg hz];exact Array.size_modify) (fun b hb=>by
     show (World.freeze w.drew _ _).heap[b]? =w.drew.heap[b]?
     unfold World.freeze
     rw [if_neg hz]
     simp only [Array.getElem?_modify]
     rw [if_neg (fun e=>hb e.symm)]) (by unfold World.freeze;rw [if_neg hz];rfl) (by unfold World.freeze;rw [if_neg hz];rfl) (by unfold World.freeze;rw [if_neg hz];rfl)
    exact⟨_,_,rfl,k1,k2,by simp only [VR]⟩
end Am
end Go.Proofs.YtfldkpghggbdkaaGreatDoor
end
namespace Go.Proofs.YtfldkpghggbdkaaGreatDoor
namespace Am
section
theorem zkf{k:Nat}(l:List UInt8):RLss k (zn l):=by
 induction l with
 |nil=>simp [zn,RLss]
 |cons b l ih=>simp only [zn,B8]at ih;simp [zn,RLss,B8,RLs,RL,ih]
def OwnB(J J':Store)(v:AV)(b:List UInt8):Prop:=∃news j,J'=J++news/\ v= .sl (J.length+j) 0 b.length none 1/\ news[j]? =some (some (zn b))
theorem OwnB.down{J J':Store}{v:AV}{b:List UInt8}(hw:Wf J.length J)(h:OwnB J J' v b):DownV J.length v J' (.vsl 1 (zn b) false) J:=by
 obtain⟨news,j,rfl,rfl,h⟩:=h
 have hl:(zn b).length=b.length:=zx b
 have e:((zn b).drop 0).take b.length=zn b:=by rw [List.drop_zero,List.take_of_length_le (by omega)]
 have:=DownV.froze (off:=0) (len:=b.length) (esz:=1) (lim:=none) hw h (by omega) (by rw [e];exact zkf b)
 rw [e]at this
 exact this
theorem OwnB.app{J J':Store}{r n:Nat}{b c:List UInt8}(h:OwnB J J' (.sl r 0 n none 1) b):OwnB J (J'.set r none++ [some (zn c)]) (.sl J'.length 0 c.length none 1) c:=by
 obtain⟨news,j,rfl,e,h⟩:=h
 simp only [AV.sl.injEq,true_and,and_true]at e
 obtain⟨rfl,rfl⟩:=e
 refine⟨news.set j none++ [some (zn c)],news.length,?_,by simp,?_⟩
 ·rw [List.set_append_right _ _ (by omega),Nat.add_sub_cancel_left,List.append_assoc]
 ·rw [List.getElem?_append_right (by simp)];simp
theorem OwnB.get{J J':Store}{v:AV}{b:List UInt8}(h:OwnB J J' v b):∃r,v= .sl r 0 b.length none 1/\ J'[r]? =some (some (zn b)):=by
 obtain⟨news,j,rfl,rfl,h⟩:=h
 exact⟨_,rfl,by rw [List.getElem?_append_right (by omega),Nat.add_sub_cancel_left];exact h⟩
theorem zfs(b:List UInt8)(x:Nat)(m:Int)(h:m=((x%256:Nat):Int)):zn b++ [[AV.int .u8 m]]=zn (b++ [UInt8.ofNat x]):=by
 subst h
 simp [zn,B8]
theorem zl6(x:Nat){j:Nat}(h:j<8):(be 8 x).take j++ [UInt8.ofNat (x/2^(8*(7-j)))]=(be 8 x).take (j+1):=by
 have e:be 8 x=[UInt8.ofNat (x/256^7),UInt8.ofNat (x/256^6),UInt8.ofNat (x/256^5),UInt8.ofNat (x/256^4),UInt8.ofNat (x/256^3),UInt8.ofNat (x/256^2),UInt8.ofNat (x/256^1),UInt8.ofNat (x/256^0)]:=by
  simp only [z8i]
  rfl
 rw [e]
 have hj:j=0 \/j=1 \/j=2 \/j=3 \/j=4 \/j=5 \/j=6 \/j=7:=by omega
 rcases hj with rfl|rfl|rfl|rfl|rfl|rfl|rfl|rfl<;>rfl
theorem pad_to(J:Store)(s:List UInt8)(h:s.length<1000000000):ACallsTo TC 117 [.str s] J (.vsl 1 (zn (padS s)) false) J:=by
 obtain⟨z,hz⟩:∃z:Nat,z=(119-s.length%64)%64:=⟨_,rfl⟩
 have hz64:z<64:=by rw [hz];exact Nat.mod_lt _ (by decide)
 obtain⟨P,hP⟩:∃P,P=padS s:=⟨_,rfl⟩
 have hP2:P=(s++128::List.replicate z 0)++be 8 (s.length*8):=by rw [hP,padS,hz];simp
 rw [<-hP]
 refine ACallsTo.of_body q9ok (by simp) fun hw _=> ?_
 repeat' (first|apply zs_|apply zb_|apply zc_|apply zt_ rfl|apply zf_ rfl|(refine zd_ rfl ?_ ?_<;>intro ht<;>try omega)|((first|apply zr_|apply zk_|apply ze_|apply zq_|(apply zG<;>intro ht));all_goals try simp (disch:=first|omega|(simp only [lens];first|done|omega)) only [go_sem]))
 refine zW.loop (fun m ρ J'=>∃k:Nat,m+k=z/\ ρ 0= .str s/\ OwnB J J' (ρ 3) (s++128::List.replicate k 0)) z ?_ ?_
 ·refine⟨0,by omega,by simp (disch:=first|omega|(simp only [lens];first|done|omega)) only [go_sem],?_⟩
  simp (disch:=first|omega|(simp only [lens];first|done|omega)) only [go_sem]
  refine⟨[none,some (zn (s++ [128]))],1,?_,?_,rfl⟩
  ·simp [zn,B8]
  ·simp
 ·rintro m ρ J' ⟨k,hm,q0,hO⟩
  obtain⟨r,q3,hg⟩:=hO.get
  have hb:(s++128::List.replicate k 0).length=s.length+1+k:=by simp;omega
  have hbe:=zx (s++128::List.replicate k 0)
  by_cases hk:k<z
  ·rw [q3]at hO
   rw [hb]at q3 hbe hO
   have e0:zn (s++128::List.replicate k 0)++ [[AV.int .u8 0]]=zn (s++128::List.replicate (k+1) 0):=by
    rw [zfs _ 0 0 (by simp),List.append_assoc,List.cons_append,List.replicate_succ']
    rfl
   have hO2:=hO.app (c:=s++128::List.replicate (k+1) 0)
   have hc:(s++128::List.replicate (k+1) 0).length=s.length+1+k+1:=by simp;omega
   rw [hc]at hO2
   generalize zn (s++128::List.replicate k 0)=bb at*
   repeat' (first|apply zs_|apply zb_|apply zc_|apply zt_ rfl|apply zf_ rfl|(refine zd_ rfl ?_ ?_<;>intro ht<;>try omega)|((first|apply zr_|apply zk_|apply ze_|apply zq_|(apply zG<;>intro ht));all_goals try simp (disch:=first|omega|(simp only [lens];first|done|omega)) only [go_sem,q0,q3,hg,hbe,e0]))
   exact⟨z-(k+1),by omega,k+1,by omega,hO2⟩
  ·obtain rfl:k=z:=by omega
   obtain⟨N,hN⟩:∃N,N=s.length*8:=⟨_,rfl⟩
   have hN2:(s.length:Int)*8=N:=by omega
   have hb8:(be 8 N).length=8:=z3j _ _
   rw [<-hN]at hP2
   rw [hb]at q3 hbe
   have h56:((s.length:Int)+1+k)%64=56:=by omega
   generalize hB:s++128::List.replicate k 0=B at*
   repeat' (first|apply zs_|apply zb_|apply zc_|apply zt_ rfl|apply zf_ rfl|(refine zd_ rfl ?_ ?_<;>intro ht<;>try omega)|((first|apply zr_|apply zk_|apply ze_|apply zq_|(apply zG<;>intro ht));all_goals try simp (disch:=first|omega|(simp only [lens];first|done|omega)) only [go_sem,q0,q3,h56,hN2,Int.natCast_add,Int.natCast_one]))
   refine zW.loop (fun m ρ J'=>∃j:Nat,m+j=8/\ ρ 4= .int .u64 N/\ ρ 5= .int .i64 (7-j)/\ OwnB J J' (ρ 3) (B++(be 8 N).take j)) 8 ?_ ?_
   ·refine⟨0,by omega,by simp (disch:=first|omega|(simp only [lens];first|done|omega)) only [go_sem],by simp (disch:=first|omega|(simp only [lens];first|done|omega)) only [go_sem];rfl,?_⟩
    simp (disch:=first|omega|(simp only [lens];first|done|omega)) only [go_sem,q3]
    rw [q3]at hO
    exact hO
   ·clear q0 q3 hO hg
    rintro m ρ J' ⟨j,hm,q4,q5,hO⟩
    obtain⟨r,q3,hg⟩:=hO.get
    have hl:(B++(be 8 N).take j).length=s.length+1+k+j:=by rw [List.length_append,hb,List.length_take,hb8];omega
    have hbe:=zx (B++(be 8 N).take j)
    by_cases hj:j<8
    ·rw [q3]at hO
     rw [hl]at q3 hbe hO
     have hO2:=hO.app (c:=B++(be 8 N).take (j+1))
     have hc:(B++(be 8 N).take (j+1)).length=s.length+1+k+j+1:=by rw [List.length_append,hb,List.length_take,hb8];omega
     rw [hc]at hO2
     have hs:(8*(7-(j:Int))).toNat=8*(7-j):=by omega
     have e0:zn (B++(be 8 N).take j)++ [[AV.int .u8 ((N:Int)/2^(8*(7-j))%256)]]=zn (B++(be 8 N).take (j+1)):=by
      rw [zfs _ (N/2^(8*(7-j))) _ (by rw [Int.natCast_emod,Int.natCast_ediv,Int.natCast_pow];rfl),List.append_assoc,zl6 N hj]
     generalize zn (B++(be 8 N).take j)=bb at*
     repeat' (first|apply zs_|apply zb_|apply zc_|apply zt_ rfl|apply zf_ rfl|(refine zd_ rfl ?_ ?_<;>intro ht<;>try omega)|((first|apply zr_|apply zk_|apply ze_|apply zq_|(apply zG<;>intro ht));all_goals try simp (disch:=first|omega|(simp only [lens];first|done|omega)) only [go_sem,q3,q4,q5,hg,hbe,hs,e0]))
     exact⟨8-(j+1),by omega,j+1,by omega,by rw [show (7:Int)-((j+1:Nat):Int)=7-j-1 by omega],hO2⟩
    ·obtain rfl:j=8:=by omega
     have e8:B++(be 8 N).take 8=P:=by rw [List.take_of_length_le (by omega)];exact hP2.symm
     rw [e8]at hO q3
     repeat' (first|apply zs_|apply zb_|apply zc_|apply zt_ rfl|apply zf_ rfl|(refine zd_ rfl ?_ ?_<;>intro ht<;>try omega)|((first|apply zr_|apply zk_|apply ze_|apply zq_|(apply zG<;>intro ht));all_goals try simp (disch:=first|omega|(simp only [lens];first|done|omega)) only [go_sem,q3,q5]))
     rw [q3]at hO
     exact hO.down hw
end
section
def z32:List AV:=zj (List.replicate 32 0)
def mkS(τ:Store)(u:V8)(cells:List AV):Store:=τ++ [some [z32],some [gl_sha_rounds],some [u.c8],some [cells]]
def Rk(ρ:Env)(a:Nat)(p:List UInt8)(n:Nat):Prop:=
 ρ 2= .ptr a 0 0/\ ρ 3= .ptr (a+1) 0 0/\ ρ 4= .ptr (a+2) 0 0/\ ρ 5= .vsl 1 (zn p) false/\ ρ 6= .ptr (a+3) 0 0/\ ρ 7= .int .i64 n
theorem zgf{w:List W}{x:W}{n:Nat}{rest:List AV}(h:w.length=n)(hr:0<rest.length):(ws w++rest).take n++AV.int .u32 x.toNat::(ws w++rest).drop (n+1)=ws (w++ [x])++rest.drop 1:=by
 have hl:(ws w).length=n:=by rw [z43,h]
 rw [List.take_append_of_le_length (by omega),List.take_of_length_le (by omega),List.drop_append,List.drop_of_length_le (by omega),hl]
 rw [show n+1-n=1 by omega,List.nil_append]
 simp [ws,wc]
theorem zsy{p:List UInt8}{n i:Nat}(h:n+4*i+4<=p.length)(hi:i<16):
  ((p.getD (n+4*i) 0).toNat:Int)*16777216+(p.getD (n+4*i+1) 0).toNat*65536+(p.getD (n+4*i+2) 0).toNat*256+(p.getD (n+4*i+3) 0).toNat=((z7d ((p.drop n).take 64) i).toNat:Int):=by
 have e:((((p.drop n).take 64).drop (4*i)).take 4)=[p.getD (n+4*i) 0,p.getD (n+4*i+1) 0,p.getD (n+4*i+2) 0,p.getD (n+4*i+3) 0]:=by
  rw [List.drop_take,List.take_take,List.drop_drop,show min 4 (64-4*i)=4 by omega]
  obtain⟨A,hA⟩:∃A,A=p.drop (n+4*i):=⟨_,rfl⟩
  have g:∀k,p.getD (n+4*i+k) 0=A.getD k 0:=by
   intro k
   rw [hA,List.getD_eq_getElem?_getD,List.getD_eq_getElem?_getD,List.getElem?_drop]
  have g0:=g 0
  rw [Nat.add_zero]at g0
  rw [g0,g 1,g 2,g 3,<-hA]
  have hl:4<=A.length:=by rw [hA,List.length_drop];omega
  match A,hl with
  |a::b::c::d::A,_=>rfl
 unfold z7d
 rw [e]
 generalize p.getD (n+4*i) 0=a
 generalize p.getD (n+4*i+1) 0=b
 generalize p.getD (n+4*i+2) 0=c
 generalize p.getD (n+4*i+3) 0=d
 have h1:=a.toNat_lt
 have h2:=b.toNat_lt
 have h3:=c.toNat_lt
 have h4:=d.toNat_lt
 simp only [getS,val,List.take_of_length_le (show [a,b,c,d].length<=8 by simp),List.foldl_cons,List.foldl_nil,BitVec.toNat_ofNat]
 omega
section
variable {k:Nat} {Q:AExit->Env->Store->Prop} {ρ:Env} {τ:Store} {u:V8} {p:List UInt8} {n:Nat}
theorem zqz{cells:List AV}(K:Rk ρ τ.length p n)(hp:n+64<=p.length)(hpl:p.length<2000000000)(hc:cells.length=64)
  (hQ:∀ρ' rest,rest.length=48->Rk ρ' τ.length p n->Q .normal ρ' (mkS τ u (ws (z17 ((p.drop n).take 64) 16)++rest))):zW TC 252 k q7c21 Q ρ (mkS τ u cells):=by
 obtain⟨k2,k3,k4,k5,k6,k7⟩:=K
 obtain⟨q,hq⟩:∃q,q=(p.drop n).take 64:=⟨_,rfl⟩
 rw [<-hq]at hQ
 repeat' (first|apply zs_|apply zb_|apply zc_|apply zt_ rfl|apply zf_ rfl|(refine zd_ rfl ?_ ?_<;>intro ht<;>try omega)|((first|apply zr_|apply zk_|apply ze_|apply zq_|(apply zG<;>intro ht));all_goals try simp (disch:=first|omega|(simp only [lens];first|done|omega)) only [go_sem]))
 refine zW.loop (fun m ρ J'=>∃(i:Nat) (rest:List AV),m+i=16/\ rest.length=64-i/\ Rk ρ τ.length p n/\ ρ 8= .int .i64 i/\ J'=mkS τ u (ws (z17 q i)++rest)) 16 ?_ ?_
 ·exact⟨0,cells,by omega,hc,⟨by simp (disch:=first|omega|(simp only [lens];first|done|omega)) only [go_sem,k2],by simp (disch:=first|omega|(simp only [lens];first|done|omega)) only [go_sem,k3],by simp (disch:=first|omega|(simp only [lens];first|done|omega)) only [go_sem,k4],by simp (disch:=first|omega|(simp only [lens];first|done|omega)) only [go_sem,k5],by simp (disch:=first|omega|(simp only [lens];first|done|omega)) only [go_sem,k6],by simp (disch:=first|omega|(simp only [lens];first|done|omega)) only [go_sem,k7]⟩,by simp (disch:=first|omega|(simp only [lens];first|done|omega)) only [go_sem];rfl,rfl⟩
 ·rintro m ρ J' ⟨i,rest,hm,hr,⟨q2,q3,q4,q5,q6,q7⟩,q8,rfl⟩
  by_cases hi:i<16
  ·have hwd:=zsy (p:=p) (n:=n) (i:=i) (by omega) hi
   rw [<-hq]at hwd
   have hset:=zgf (x:=z7d q i) (rest:=rest) (z4h q i) (by omega)
   have hlen:(ws (z17 q i)++rest).length=64:=by rw [List.length_append,z43,z4h,hr];omega
   have hsc:z17 q (i+1)=z17 q i++ [z7d q i]:=by rw [z17,z3g,z4h,if_pos hi]
   have n0:((n:Int)+4*i).toNat=n+4*i:=by omega
   have n1:((n:Int)+4*i+1).toNat=n+4*i+1:=by omega
   have n2:((n:Int)+4*i+2).toNat=n+4*i+2:=by omega
   have n3:((n:Int)+4*i+3).toNat=n+4*i+3:=by omega
   have b0:=(p.getD (n+4*i) 0).toNat_lt
   have b1:=(p.getD (n+4*i+1) 0).toNat_lt
   have b2:=(p.getD (n+4*i+2) 0).toNat_lt
   have b3:=(p.getD (n+4*i+3) 0).toNat_lt
   have g0:=zh0 (s:=p) (i:=n+4*i) (by omega)
   have e0:=z7k (s:=p) (i:=n+4*i) (by omega)
   have e1:=z7k (s:=p) (i:=n+4*i+1) (by omega)
   have e2:=z7k (s:=p) (i:=n+4*i+2) (by omega)
   have e3:=z7k (s:=p) (i:=n+4*i+3) (by omega)
   have hpb:=zx p
   unfold mkS
   generalize p.getD (n+4*i) 0=x0 at*
   generalize p.getD (n+4*i+1) 0=x1 at*
   generalize p.getD (n+4*i+2) 0=x2 at*
   generalize p.getD (n+4*i+3) 0=x3 at*
   generalize hpb2:zn p=pb at*
   generalize hcc:ws (z17 q i)++rest=cc at*
   repeat' (first|refine zs_ ?_|refine zb_ ?_|refine zc_ ?_|refine zt_ rfl ?_|refine zf_ rfl ?_|(refine zd_ rfl (fun ht=> ?_) (fun ht=> ?_)<;>try (exfalso;omega))|((first|refine zW.regS ?_|refine zk_ ?_|refine ze_ ?_|refine zq_ ?_|(apply zG<;>intro ht));all_goals try simp (disch:=first|omega|(simp only [lens];first|done|omega)) only [go_sem,q2,q3,q4,q5,q6,q7,q8,hlen,n0,n1,n2,n3,e0,e1,e2,e3]))
   refine⟨16-(i+1),by omega,i+1,rest.drop 1,by omega,by rw [List.length_drop];omega,⟨by simp (disch:=first|omega|(simp only [lens];first|done|omega)) only [go_sem,q2],by simp (disch:=first|omega|(simp only [lens];first|done|omega)) only [go_sem,q3],by simp (disch:=first|omega|(simp only [lens];first|done|omega)) only [go_sem,q4],(by simp (disch:=first|omega|(simp only [lens];first|done|omega)) only [go_sem,q5];rw [hpb2]),by simp (disch:=first|omega|(simp only [lens];first|done|omega)) only [go_sem,q6],by simp (disch:=first|omega|(simp only [lens];first|done|omega)) only [go_sem,q7]⟩,by simp,?_⟩
   rw [hwd,hset,hsc]
  ·obtain rfl:i=16:=by omega
   repeat' (first|apply zs_|apply zb_|apply zc_|apply zt_ rfl|apply zf_ rfl|(refine zd_ rfl ?_ ?_<;>intro ht<;>try omega)|((first|apply zr_|apply zk_|apply ze_|apply zq_|(apply zG<;>intro ht));all_goals try simp (disch:=first|omega|(simp only [lens];first|done|omega)) only [go_sem,q8]))
   exact hQ _ rest (by omega) ⟨by simp (disch:=first|omega|(simp only [lens];first|done|omega)) only [go_sem,q2],by simp (disch:=first|omega|(simp only [lens];first|done|omega)) only [go_sem,q3],by simp (disch:=first|omega|(simp only [lens];first|done|omega)) only [go_sem,q4],by simp (disch:=first|omega|(simp only [lens];first|done|omega)) only [go_sem,q5],by simp (disch:=first|omega|(simp only [lens];first|done|omega)) only [go_sem,q6],by simp (disch:=first|omega|(simp only [lens];first|done|omega)) only [go_sem,q7]⟩
theorem zqy{q:List UInt8}{rest:List AV}(K:Rk ρ τ.length p n)(hr:rest.length=48)
  (hQ:∀ρ',Rk ρ' τ.length p n->Q .normal ρ' (mkS τ u (ws (z17 q 64)))):zW TC 252 k q7c34 Q ρ (mkS τ u (ws (z17 q 16)++rest)):=by
 obtain⟨R,hR⟩:∃R,R=z17 q 64:=⟨_,rfl⟩
 rw [<-hR]at hQ
 obtain⟨k2,k3,k4,k5,k6,k7⟩:=K
 repeat' (first|apply zs_|apply zb_|apply zc_|apply zt_ rfl|apply zf_ rfl|(refine zd_ rfl ?_ ?_<;>intro ht<;>try omega)|((first|apply zr_|apply zk_|apply ze_|apply zq_|(apply zG<;>intro ht));all_goals try simp (disch:=first|omega|(simp only [lens];first|done|omega)) only [go_sem]))
 refine zW.loop (fun m ρ J'=>∃(i:Nat) (rest:List AV),m+i=64/\ 16<=i/\ rest.length=64-i/\ Rk ρ τ.length p n/\ ρ 10= .int .i64 i/\ J'=mkS τ u (ws (z17 q i)++rest)) 48 ?_ ?_
 ·exact⟨16,rest,by omega,by omega,hr,⟨by simp (disch:=first|omega|(simp only [lens];first|done|omega)) only [go_sem,k2],by simp (disch:=first|omega|(simp only [lens];first|done|omega)) only [go_sem,k3],by simp (disch:=first|omega|(simp only [lens];first|done|omega)) only [go_sem,k4],by simp (disch:=first|omega|(simp only [lens];first|done|omega)) only [go_sem,k5],by simp (disch:=first|omega|(simp only [lens];first|done|omega)) only [go_sem,k6],by simp (disch:=first|omega|(simp only [lens];first|done|omega)) only [go_sem,k7]⟩,by simp (disch:=first|omega|(simp only [lens];first|done|omega)) only [go_sem];rfl,rfl⟩
 ·clear hr
  rintro m ρ J' ⟨i,rest,hm,h16,hr,⟨q2,q3,q4,q5,q6,q7⟩,q10,rfl⟩
  have hsl:=z4h q i
  by_cases hi:i<64
  ·have hset:=zgf (x:=z3g q (z17 q i)) (rest:=rest) hsl (by omega)
   have hlen:(ws (z17 q i)++rest).length=64:=by rw [List.length_append,z43,z4h,hr];omega
   have hsc:z17 q (i+1)=z17 q i++ [z3g q (z17 q i)]:=by rw [z17]
   have en:z3g q (z17 q i)=wat (z17 q i) (i-16)+wat (z17 q i) (i-7)+ss0 (wat (z17 q i) (i-15))+ss1 (wat (z17 q i) (i-2)):=by rw [z3g,if_neg (by omega),hsl]
   have hwi:∀j,j<i->(ws (z17 q i)++rest)[j]? =some (.int .u32 (wat (z17 q i) j).toNat):=by
    intro j hj
    rw [List.getElem?_append_left (by rw [z43];omega),z84 (by omega)]
   have g16:=hwi (i-16) (by omega)
   have g7:=hwi (i-7) (by omega)
   have g15:=hwi (i-15) (by omega)
   have g2:=hwi (i-2) (by omega)
   have t16:((i:Int)-16).toNat=i-16:=by omega
   have t7:((i:Int)-7).toNat=i-7:=by omega
   have t15:((i:Int)-15).toNat=i-15:=by omega
   have t2:((i:Int)-2).toNat=i-2:=by omega
   have r7:32-(7:Int).toNat=25:=rfl
   clear hwi
   generalize z3g q (z17 q i)=nx at*
   generalize wat (z17 q i) (i-16)=w16 at*
   generalize wat (z17 q i) (i-7)=w7 at*
   generalize wat (z17 q i) (i-15)=w15 at*
   generalize wat (z17 q i) (i-2)=w2 at*
   unfold mkS
   generalize hpb2:zn p=pb at*
   generalize hcc:ws (z17 q i)++rest=cc at*
   repeat' (first|refine zs_ ?_|refine zb_ ?_|refine zc_ ?_|refine zt_ rfl ?_|refine zf_ rfl ?_|(refine zd_ rfl (fun ht=> ?_) (fun ht=> ?_)<;>try (exfalso;omega))|((first|refine zW.regS ?_|refine zk_ ?_|refine ze_ ?_|refine zq_ ?_|(apply callW.mk_pu;(first|exact(fun _=>zbm _ _ _ (by omega))))|(apply callW.za;(first|exact(zbm _ _ _ (by omega))))|(apply zG<;>intro ht));all_goals try simp (disch:=first|omega|(simp only [lens];first|done|omega)) only [go_sem,q2,q3,q4,q5,q6,q7,q10,hlen,g16,g7,g15,g2,t16,t7,t15,t2]))
   refine⟨64-(i+1),by omega,i+1,rest.drop 1,by omega,by omega,by rw [List.length_drop];omega,⟨by simp (disch:=first|omega|(simp only [lens];first|done|omega)) only [go_sem,q2],by simp (disch:=first|omega|(simp only [lens];first|done|omega)) only [go_sem,q3],by simp (disch:=first|omega|(simp only [lens];first|done|omega)) only [go_sem,q4],(by simp (disch:=first|omega|(simp only [lens];first|done|omega)) only [go_sem,q5];rw [hpb2]),by simp (disch:=first|omega|(simp only [lens];first|done|omega)) only [go_sem,q6],by simp (disch:=first|omega|(simp only [lens];first|done|omega)) only [go_sem,q7]⟩,by simp,?_⟩
   rw [hsc,<-hset,en]
   have ec:∀s t:W,w16+s+w7+t=w16+w7+s+t:=fun s t=>by rw [BitVec.add_assoc w16 s w7,BitVec.add_comm s w7,<-BitVec.add_assoc w16 w7 s]
   rw [ec]
   rfl
  ·obtain rfl:i=64:=by omega
   have hr0:rest=[]:=List.eq_nil_of_length_eq_zero (by omega)
   rw [hr0,<-hR,List.append_nil]
   clear hsl hR
   repeat' (first|apply zs_|apply zb_|apply zc_|apply zt_ rfl|apply zf_ rfl|(refine zd_ rfl ?_ ?_<;>intro ht<;>try omega)|((first|apply zr_|apply zk_|apply ze_|apply zq_|(apply zG<;>intro ht));all_goals try simp (disch:=first|omega|(simp only [lens];first|done|omega)) only [go_sem,q10]))
   exact hQ _ ⟨by simp (disch:=first|omega|(simp only [lens];first|done|omega)) only [go_sem,q2],by simp (disch:=first|omega|(simp only [lens];first|done|omega)) only [go_sem,q3],by simp (disch:=first|omega|(simp only [lens];first|done|omega)) only [go_sem,q4],by simp (disch:=first|omega|(simp only [lens];first|done|omega)) only [go_sem,q5],by simp (disch:=first|omega|(simp only [lens];first|done|omega)) only [go_sem,q6],by simp (disch:=first|omega|(simp only [lens];first|done|omega)) only [go_sem,q7]⟩
end
end
section
theorem k_get{i:Nat}(h:i<64):gl_sha_rounds[i]? =some (.int .u32 (kAt i).toNat):=by
 have:=zhe h
 rwa [List.getElem?_drop,Nat.add_zero]at this
section
variable {k:Nat} {Q:AExit->Env->Store->Prop} {ρ:Env} {τ:Store} {u:V8} {p:List UInt8} {n:Nat}
theorem zqx{q:List UInt8}(K:Rk ρ τ.length p n)
  (hQ:∀ρ',Rk ρ' τ.length p n->Q .normal ρ' (mkS τ (mixS u q) (ws (z17 q 64)))):zW TC 252 k q7c53 Q ρ (mkS τ u (ws (z17 q 64))):=by
 obtain⟨R,hR⟩:∃R,R=z17 q 64:=⟨_,rfl⟩
 have hRl:R.length=64:=by rw [hR,z4h]
 have hwR:(ws R).length=64:=by rw [z43,hRl]
 have hst:∀n,rnds q u (n+1)=rnd (rnds q u n) (kAt n) (wat R n):=fun n=>by rw [rnds,hR]
 obtain⟨U,hU⟩:∃U,U=rnds q u 64:=⟨_,rfl⟩
 have hmix:mixS u q=U.add u:=by rw [mixS,hU]
 rw [hmix]at hQ
 rw [<-hR]at hQ ⊢
 obtain⟨k2,k3,k4,k5,k6,k7⟩:=K
 unfold mkS
 refine zs_ ?_
 (refine zW.regS ?_;(simp (disch:=first|omega|(simp only [lens];first|done|omega)) only [go_sem,k4,V8.c8]))
 (refine zW.slots [2,3,4,5,6,7,13,14,15,16,17,18,19,20] ?_;intro ρ1 hs;simp (disch:=first|omega|(simp only [lens];first|done|omega)) only [go_sem,k2,k3,k4,k5,k6,k7]at hs;obtain⟨s2,s3,s4,s5,s6,s7,s13,s14,s15,s16,s17,s18,s19,s20⟩:=hs)
 refine zs_ ?_
 refine zs_ ?_
 (refine zW.regS ?_;(simp (disch:=first|omega|(simp only [lens];first|done|omega)) only [go_sem]))
 refine zb_ ?_
 refine zW.loop (fun m ρ J'=>∃i:Nat,m+i=64/\ Rk ρ τ.length p n/\ ρ 21= .int .i64 i/\ ρ 13= .int .u32 (rnds q u i).a.toNat/\ ρ 14= .int .u32 (rnds q u i).b.toNat/\ ρ 15= .int .u32 (rnds q u i).c.toNat/\ ρ 16= .int .u32 (rnds q u i).d.toNat ∧
  ρ 17= .int .u32 (rnds q u i).e.toNat/\ ρ 18= .int .u32 (rnds q u i).f.toNat/\ ρ 19= .int .u32 (rnds q u i).g.toNat/\ ρ 20= .int .u32 (rnds q u i).h.toNat/\ J'=mkS τ u (ws R)) 64 ?_ ?_
 ·exact⟨0,by omega,⟨by simp (disch:=first|omega|(simp only [lens];first|done|omega)) only [go_sem,s2],by simp (disch:=first|omega|(simp only [lens];first|done|omega)) only [go_sem,s3],by simp (disch:=first|omega|(simp only [lens];first|done|omega)) only [go_sem,s4],by simp (disch:=first|omega|(simp only [lens];first|done|omega)) only [go_sem,s5],by simp (disch:=first|omega|(simp only [lens];first|done|omega)) only [go_sem,s6],by simp (disch:=first|omega|(simp only [lens];first|done|omega)) only [go_sem,s7]⟩,by simp (disch:=first|omega|(simp only [lens];first|done|omega)) only [go_sem];rfl,by simp (disch:=first|omega|(simp only [lens];first|done|omega)) only [go_sem,s13];rfl,by simp (disch:=first|omega|(simp only [lens];first|done|omega)) only [go_sem,s14];rfl,by simp (disch:=first|omega|(simp only [lens];first|done|omega)) only [go_sem,s15];rfl,by simp (disch:=first|omega|(simp only [lens];first|done|omega)) only [go_sem,s16];rfl,by simp (disch:=first|omega|(simp only [lens];first|done|omega)) only [go_sem,s17];rfl,by simp (disch:=first|omega|(simp only [lens];first|done|omega)) only [go_sem,s18];rfl,by simp (disch:=first|omega|(simp only [lens];first|done|omega)) only [go_sem,s19];rfl,by simp (disch:=first|omega|(simp only [lens];first|done|omega)) only [go_sem,s20];rfl,rfl⟩
 ·clear s2 s3 s4 s5 s6 s7 s13 s14 s15 s16 s17 s18 s19 s20
  rintro m ρ J' ⟨i,hm,⟨q2,q3,q4,q5,q6,q7⟩,q21,q13,q14,q15,q16,q17,q18,q19,q20,rfl⟩
  by_cases hi:i<64
  ·have hk:=k_get hi
   have hw:=z84 (w:=R) (i:=i) (by omega)
   have hst:=hst i
   generalize rnds q u i=v at*
   obtain⟨a,b,c,d,e,f,g,h⟩:=v
   simp only at q13 q14 q15 q16 q17 q18 q19 q20
   generalize kAt i=kk at*
   generalize wat R i=ww at*
   generalize hpb:zn p=pb at*
   unfold mkS
   refine zs_ ?_
   refine zs_ ?_
   (refine zW.regS ?_;(simp (disch:=first|omega|(simp only [lens];first|done|omega)) only [go_sem,q21]))
   refine zt_ rfl ?_
   refine zk_ ?_
   simp (disch:=first|omega|(simp only [lens];first|done|omega)) only [go_sem]
   refine zs_ ?_
   refine zb_ ?_
   refine zs_ ?_
   (refine zW.regS ?_;(simp (disch:=first|omega|(simp only [lens];first|done|omega)) only [go_sem,q3,q6,q17,q18,q19,q20,q21,hwR,hk,hw,z8v]);repeat' (apply callW.za;(first|exact(zbm _ _ _ (by omega)));all_goals try (simp (disch:=first|omega|(simp only [lens];first|done|omega)) only [go_sem,q3,q6,q17,q18,q19,q20,q21,hwR,hk,hw,z8v])))
   (refine zW.slots [2,3,4,5,6,7,13,14,15,16,17,18,19,20,21,22] ?_;intro ρ2 hs;simp (disch:=first|omega|(simp only [lens];first|done|omega)) only [go_sem,q2,q3,q4,q5,q6,q7,q13,q14,q15,q16,q17,q18,q19,q20,q21]at hs;obtain⟨s2,s3,s4,s5,s6,s7,s13,s14,s15,s16,s17,s18,s19,s20,s21,s22⟩:=hs)
   refine zs_ ?_
   (refine zW.regS ?_;(simp (disch:=first|omega|(simp only [lens];first|done|omega)) only [go_sem,s13,s14,s15]);repeat' (apply callW.za;(first|exact(zbm _ _ _ (by omega)));all_goals try (simp (disch:=first|omega|(simp only [lens];first|done|omega)) only [go_sem,s13,s14,s15])))
   (refine zW.slots [2,3,4,5,6,7,13,14,15,16,17,18,19,20,21,22,23] ?_;intro ρ3 hs;simp (disch:=first|omega|(simp only [lens];first|done|omega)) only [go_sem,s2,s3,s4,s5,s6,s7,s13,s14,s15,s16,s17,s18,s19,s20,s21,s22]at hs;obtain⟨s2,s3,s4,s5,s6,s7,s13,s14,s15,s16,s17,s18,s19,s20,s21,s22,s23⟩:=hs)
   (refine zW.regS ?_;(simp (disch:=first|omega|(simp only [lens];first|done|omega)) only [go_sem,s13,s14,s15,s16,s17,s18,s19,s22,s23]))
   (refine zW.slots [2,3,4,5,6,7,13,14,15,16,17,18,19,20,21] ?_;intro ρ4 hs;simp (disch:=first|omega|(simp only [lens];first|done|omega)) only [go_sem,s2,s3,s4,s5,s6,s7,s21]at hs;obtain⟨s2,s3,s4,s5,s6,s7,s13,s14,s15,s16,s17,s18,s19,s20,s21⟩:=hs)
   (refine zW.regS ?_;(simp (disch:=first|omega|(simp only [lens];first|done|omega)) only [go_sem,s21]))
   refine⟨64-(i+1),by omega,i+1,by omega,⟨s2,s3,s4,by rw [hpb];exact s5,s6,s7⟩,by simp,?_⟩
   rw [hst]
   simp only [rnd,bs1,chW,bs0,majW]
   exact⟨s13,s14,s15,s16,s17,s18,s19,s20⟩
  ·obtain rfl:i=64:=by omega
   rw [<-hU]at q13 q14 q15 q16 q17 q18 q19 q20
   clear hst hU hmix
   obtain⟨a,b,c,d,e,f,g,h⟩:=U
   obtain⟨a',b',c',d',e',f',g',h'⟩:=u
   simp only at q13 q14 q15 q16 q17 q18 q19 q20
   unfold mkS
   unfold mkS at hQ
   simp only [V8.add,V8.c8]at hQ
   simp only [V8.c8]
   generalize hpb:zn p=pb at*
   refine zs_ ?_
   refine zs_ ?_
   (refine zW.regS ?_;(simp (disch:=first|omega|(simp only [lens];first|done|omega)) only [go_sem,q21]))
   refine zf_ rfl ?_
   refine ze_ ?_
   simp (disch:=first|omega|(simp only [lens];first|done|omega)) only [go_sem]
   (refine zW.regS ?_;(simp (disch:=first|omega|(simp only [lens];first|done|omega)) only [go_sem,q4,q13,q14,q15,q16,q17,q18,q19,q20]))
   rw [BitVec.add_comm a' a,BitVec.add_comm b' b,BitVec.add_comm c' c,BitVec.add_comm d' d,BitVec.add_comm e' e,BitVec.add_comm f' f,BitVec.add_comm g' g,BitVec.add_comm h' h]
   exact hQ _ ⟨by simp (disch:=first|omega|(simp only [lens];first|done|omega)) only [go_sem,q2],by simp (disch:=first|omega|(simp only [lens];first|done|omega)) only [go_sem,q3],by simp (disch:=first|omega|(simp only [lens];first|done|omega)) only [go_sem,q4],(by simp (disch:=first|omega|(simp only [lens];first|done|omega)) only [go_sem,q5];rw [hpb]),by simp (disch:=first|omega|(simp only [lens];first|done|omega)) only [go_sem,q6],by simp (disch:=first|omega|(simp only [lens];first|done|omega)) only [go_sem,q7]⟩
end
end
section
theorem sum_r1{C:Ctx}{K:Env->Store->Prop}{H:Hist}{ρ:Env}{J:Store}:z10 C K q7r1 H ρ J=z10 C K (q7r1.drop 1) H (upd ρ 26 (.agg gl_sha_rounds)) J:=by kernel_rfl
theorem zmz{l:List W}{i:Nat}(h:i<4*l.length):(l.flatMap fun x=>be 4 x.toNat)[i]? =(be 4 (wat l (i/4)).toNat)[i%4]?:=by
 induction l generalizing i with
 |nil=>simp at h
 |cons x l ih=>
  have hb:(be 4 x.toNat).length=4:=z3j _ _
  rw [List.flatMap_cons]
  by_cases hi:i<4
  ·rw [List.getElem?_append_left (by omega),Nat.div_eq_of_lt hi,Nat.mod_eq_of_lt hi];rfl
  ·simp only [List.length_cons]at h
   rw [List.getElem?_append_right (by omega),hb,ih (by omega),show i/4=(i-4)/4+1 by omega,show (i-4)%4=i%4 by omega]
   rfl
theorem zl5(x:Nat){j:Nat}(h:j<4):(be 4 x)[j]? =some (UInt8.ofNat (x/2^(24-8*j))):=by
 have e:be 4 x=[UInt8.ofNat (x/256^3),UInt8.ofNat (x/256^2),UInt8.ofNat (x/256^1),UInt8.ofNat (x/256^0)]:=by
  simp only [z8i]
  rfl
 rw [e]
 have hj:j=0 \/j=1 \/j=2 \/j=3:=by omega
 rcases hj with rfl|rfl|rfl|rfl<;>rfl
theorem zpt(v:V8){i:Nat}(h:i<32):(outV v)[i]? =some (UInt8.ofNat ((wat v.l (i/4)).toNat/2^(24-8*(i%4)))):=by
 unfold outV
 rw [zmz (by simp [V8.l];omega),zl5 _ (Nat.mod_lt _ (by decide))]
def z4d(v:V8)(i:Nat):List AV:=zj ((outV v).take i)++List.replicate (32-i) (.int .u8 0)
theorem zoz(v:V8){i:Nat}(h:i<=32):(z4d v i).length=32:=by simp [z4d,zm,z4y];omega
theorem zp0(v:V8){i:Nat}(h:i<32){b:Int}(hb:b=(((wat v.l (i/4)).toNat/2^(24-8*(i%4))%256:Nat):Int)):
  (z4d v i).take i++AV.int .u8 b::(z4d v i).drop (i+1)=z4d v (i+1):=by
 have h1:(zj ((outV v).take i)).length=i:=by rw [zm,List.length_take,z4y];omega
 have hg:=zpt v h
 have hs:(outV v).take (i+1)=(outV v).take i++ [UInt8.ofNat ((wat v.l (i/4)).toNat/2^(24-8*(i%4)))]:=by
  rw [List.take_add_one,hg];rfl
 unfold z4d
 rw [List.take_append_of_le_length (by omega),List.take_of_length_le (by omega),List.drop_append,List.drop_of_length_le (by omega),h1,show i+1-i=1 by omega,List.nil_append,hs]
 rw [List.drop_replicate,show 32-i-1=32-(i+1)by omega]
 simp [zj,hb]
theorem z74(J:Store)(s:List UInt8)(h:s.length<900000000):ACallsTo TC 86 [.str s] J (.agg (zj (shaS s))) J:=by
 obtain⟨p,hp⟩:∃p,p=padS s:=⟨_,rfl⟩
 obtain⟨hp1,hp2⟩:=zhx s
 rw [<-hp]at hp1 hp2
 obtain⟨N,hN⟩:∃N,p.length=64*N:=⟨p.length/64,by omega⟩
 obtain⟨V,hV⟩:∃V,V=blocks N v0 p:=⟨_,rfl⟩
 have hS:shaS s=outV V:=by
  unfold shaS
  rw [<-hp,hV]
  have:p.length/64=N:=by omega
  rw [this]
 rw [hS]
 have hf:=fun J=>pad_to J s (by omega)
 rw [<-hp]at hf
 refine ACallsTo.of_body q7ok (by simp) fun hw _=> ?_
 refine zs_ ?_
 refine zr_ ?_
 simp (disch:=first|omega|(simp only [lens];first|done|omega)) only [go_sem]
 refine zs_ ?_
 refine zr_ ?_
 rw [sum_r1]
 simp (disch:=first|omega|(simp only [lens];first|done|omega)) only [go_sem,z8v]
 refine zs_ ?_
 refine zr_ ?_
 simp (disch:=first|omega|(simp only [lens];first|done|omega)) only [go_sem]
 refine zs_ ?_
 repeat' (first|apply zs_|apply zb_|apply zc_|apply zt_ rfl|apply zf_ rfl|(refine zd_ rfl ?_ ?_<;>intro ht<;>try omega)|((first|apply zr_|apply zk_|apply ze_|apply zq_|(apply callW.mk_pu;(first|exact(fun _=>hf _)))|(apply callW.za;(first|exact(hf _)))|(apply zG<;>intro ht));all_goals try simp (disch:=first|omega|(simp only [lens];first|done|omega)) only [go_sem]))
 refine zW.loop (fun m ρ J'=>∃(u:V8) (n:Nat) (cells:List AV),n+64*m=p.length/\ Rk ρ J.length p n/\ cells.length=64/\ blocks m u (p.drop n)=V/\ J'=mkS J u cells) N ?_ ?_
 ·exact⟨v0,0,List.replicate 64 (.int .u32 0),by omega,⟨by simp (disch:=first|omega|(simp only [lens];first|done|omega)) only [go_sem],by simp (disch:=first|omega|(simp only [lens];first|done|omega)) only [go_sem],by simp (disch:=first|omega|(simp only [lens];first|done|omega)) only [go_sem],by simp (disch:=first|omega|(simp only [lens];first|done|omega)) only [go_sem],by simp (disch:=first|omega|(simp only [lens];first|done|omega)) only [go_sem],by simp (disch:=first|omega|(simp only [lens];first|done|omega)) only [go_sem];rfl⟩,rfl,by rw [List.drop_zero];exact hV.symm,rfl⟩
 ·rintro m ρ J' ⟨u,n,cells,hn,⟨q2,q3,q4,q5,q6,q7⟩,hc,hb,rfl⟩
  have hpb:=zx p
  cases m with
  |succ m=>
   refine zs_ ?_
   refine zs_ ?_
   (refine zW.regS ?_;(simp (disch:=first|omega|(simp only [lens];first|done|omega)) only [go_sem,q5,q7,hpb]))
   refine zt_ rfl ?_
   refine zk_ ?_
   simp (disch:=first|omega|(simp only [lens];first|done|omega)) only [go_sem]
   refine zs_ ?_
   refine zb_ ?_
   refine zs_ ?_
   refine zqz (p:=p) (n:=n) (u:=u) (cells:=cells) ⟨by simp (disch:=first|omega|(simp only [lens];first|done|omega)) only [go_sem,q2],by simp (disch:=first|omega|(simp only [lens];first|done|omega)) only [go_sem,q3],by simp (disch:=first|omega|(simp only [lens];first|done|omega)) only [go_sem,q4],by simp (disch:=first|omega|(simp only [lens];first|done|omega)) only [go_sem,q5],by simp (disch:=first|omega|(simp only [lens];first|done|omega)) only [go_sem,q6],by simp (disch:=first|omega|(simp only [lens];first|done|omega)) only [go_sem,q7]⟩ (by omega) (by omega) hc ?_
   intro ρ1 rest hr K1
   refine zs_ ?_
   refine zqy K1 hr ?_
   intro ρ2 K2
   refine zqx K2 ?_
   intro ρ3 ⟨t2,t3,t4,t5,t6,t7⟩
   simp only [z2r,blkQ]
   (refine zW.regS ?_;(simp (disch:=first|omega|(simp only [lens];first|done|omega)) only [go_sem,t7]))
   refine⟨m,by omega,mixS u ((p.drop n).take 64),n+64,ws (z17 ((p.drop n).take 64) 64),by omega,⟨by simp (disch:=first|omega|(simp only [lens];first|done|omega)) only [go_sem,t2],by simp (disch:=first|omega|(simp only [lens];first|done|omega)) only [go_sem,t3],by simp (disch:=first|omega|(simp only [lens];first|done|omega)) only [go_sem,t4],by simp (disch:=first|omega|(simp only [lens];first|done|omega)) only [go_sem,t5],by simp (disch:=first|omega|(simp only [lens];first|done|omega)) only [go_sem,t6],by simp (disch:=first|omega|(simp only [lens];first|done|omega)) only [go_sem];rw [Int.natCast_add];rfl⟩,by rw [z43,z4h],?_,rfl⟩
   rw [<-hb,blocks,List.drop_drop]
  |zero=>
   have hd:p.drop n=[]:=List.drop_of_length_le (by omega)
   rw [hd]at hb
   have hu:u=V:=hb
   subst hu
   clear hb hd hV
   unfold mkS
   repeat' (first|apply zs_|apply zb_|apply zc_|apply zt_ rfl|apply zf_ rfl|(refine zd_ rfl ?_ ?_<;>intro ht<;>try omega)|((first|apply zr_|apply zk_|apply ze_|apply zq_|(apply zG<;>intro ht));all_goals try simp (disch:=first|omega|(simp only [lens];first|done|omega)) only [go_sem,q5,q7,hpb]))
   refine zW.loop (fun m ρ J'=>∃i:Nat,m+i=32/\ ρ 2= .ptr J.length 0 0/\ ρ 4= .ptr (J.length+2) 0 0/\ ρ 24= .ptr (J.length+4) 0 0/\ ρ 25= .int .i64 i/\ J'=J++ [some [z32],some [gl_sha_rounds],some [u.c8],some [cells],some [z4d u i]]) 32 ?_ ?_
   ·exact⟨0,by omega,by simp (disch:=first|omega|(simp only [lens];first|done|omega)) only [go_sem,q2],by simp (disch:=first|omega|(simp only [lens];first|done|omega)) only [go_sem,q4],by simp (disch:=first|omega|(simp only [lens];first|done|omega)) only [go_sem],by simp (disch:=first|omega|(simp only [lens];first|done|omega)) only [go_sem];rfl,rfl⟩
   ·clear q2 q3 q4 q5 q6 q7
    rintro m ρ J' ⟨i,hm,q2,q4,q24,q25,rfl⟩
    have hlen:=zoz u (i:=i) (by omega)
    have h8:u.c8.length=8:=rfl
    have hz:z32.length=32:=rfl
    by_cases hi:i<32
    ·have hst:=zp0 u hi (b:=((((wat u.l (i/4)).toNat/2^(24-8*(i%4))%256:Nat)):Int)) rfl
     have hw:=z84 (w:=u.l) (i:=i/4) (by simp [V8.l];omega)
     rw [ws_l]at hw
     generalize wat u.l (i/4)=x at*
     generalize z4d u i=cc at*
     have hd4:((i:Int)/4).toNat=i/4:=by omega
     have hsh:(24-8*((i:Int)%4)).toNat=24-8*(i%4):=by omega
     repeat' (first|refine zs_ ?_|refine zb_ ?_|refine zc_ ?_|refine zt_ rfl ?_|refine zf_ rfl ?_|(refine zd_ rfl (fun ht=> ?_) (fun ht=> ?_)<;>try (exfalso;omega))|((first|refine zW.regS ?_|refine zk_ ?_|refine ze_ ?_|refine zq_ ?_|(apply zG<;>intro ht));all_goals try simp (disch:=first|omega|(simp only [lens];first|done|omega)) only [go_sem,q2,q4,q24,q25,hlen,h8,hw,hd4,hsh]))
     refine⟨32-(i+1),by omega,i+1,by omega,by simp,?_⟩
     rw [BitVec.toNat_ushiftRight,Nat.shiftRight_eq_div_pow,<-hst,Int.natCast_emod]
     rfl
    ·obtain rfl:i=32:=by omega
     have e32:z4d u 32=zj (outV u):=by
      unfold z4d
      rw [List.take_of_length_le (by rw [z4y];decide)]
      exact List.append_nil _
     have hd:List.drop 32 z32=[]:=rfl
     have hl:(zj (outV u)).length=32:=by rw [zm,z4y]
     rw [e32]at*
     repeat' (first|apply zs_|apply zb_|apply zc_|apply zt_ rfl|apply zf_ rfl|(refine zd_ rfl ?_ ?_<;>intro ht<;>try omega)|((first|apply zr_|apply zk_|apply ze_|apply zq_|(apply zG<;>intro ht));all_goals try simp (disch:=first|omega|(simp only [lens];first|done|omega)) only [go_sem,q2,q4,q24,q25,hl,h8,hd,hz]))
     exact DownV.pure hw (z2k (z2b _))
end
section
set_option maxRecDepth 10000
@[go_sem] def qer0:List AIns:=[
 yI 1 (.box (.t 0)),
 yI 2 (.alloc zZ0)]
@[go_sem] def qer1:List AIns:=[
 yI 4 (.load false 1 (.t 1)),
 yI 5 (.lenSl (.t 4)),
 yI 6 (.bin .eql .none (.t 5) (.v (.int .i64 0)))]
@[go_sem] def qer2:List AIns:=[
 yI 7 (.call (.v (.fn 80 [])) [(.v (.str []))]),
 ⟨none,none,.no,.store 32 (.t 2) (.t 7)⟩]
def qec3:ACode:= .seq (.reg qer2) .ret
def qec4:ACode:= .cond (.t 6) qec3 .skip
def qec5:ACode:= .seq (.reg qer1) qec4
@[go_sem] def qer6:List AIns:=[
 yI 3 (.alloc [.nilfn])]
@[go_sem] def qer7:List AIns:=[
 yI 8 (.mkfn 87 [(.t 1),(.t 3)]),
 ⟨none,none,.no,.store 1 (.t 3) (.t 8)⟩]
@[go_sem] def qer8:List AIns:=[
 yI 9 (.load false 1 (.t 3)),
 yI 10 (.load false 1 (.t 1)),
 yI 11 (.lenSl (.t 10)),
 yI 12 (.call (.t 9) [(.v (.int .i64 0)),(.t 11)]),
 ⟨none,none,.no,.store 32 (.t 2) (.t 12)⟩]
def qec9:ACode:= .seq (.reg qer8) .ret
def qec10:ACode:= .seq (.reg qer7) qec9
def qec11:ACode:= .seq (.reg qer6) qec10
def qec12:ACode:= .seq qec5 qec11
def qec13:ACode:= .seq (.reg qer0) qec12
theorem qeok:cFn TC 39=some (13,[.c 2 true 32],qec13):=by kernel_rfl
@[go_sem] def qfr0:List AIns:=[
 yI 2 (.box (.t 0)),
 yI 3 (.box (.t 1)),
 yI 4 (.alloc zZ0)]
@[go_sem] def qfr1:List AIns:=[
 ⟨some 5,none,.rd,.load true 32 (.t 2)⟩,
 ⟨some 6,none,.ef,.call (.v (.fn 60 [])) [(.t 5)]⟩,
 yI 7 (.bin .add .none (.v (.str [1])) (.t 6)),
 ⟨some 8,none,.rd,.load true 32 (.t 3)⟩,
 yI 9 (.call (.v (.fn 60 [])) [(.t 8)]),
 yI 10 (.bin .add .none (.t 7) (.t 9)),
 yI 11 (.call (.v (.fn 80 [])) [(.t 10)]),
 ⟨none,none,.no,.store 32 (.t 4) (.t 11)⟩]
def qfc2:ACode:= .seq (.reg qfr1) .ret
def qfc3:ACode:= .seq (.reg qfr0) qfc2
theorem qfok:cFn TC 88=some (12,[.c 4 true 32],qfc3):=by kernel_rfl
@[go_sem] def qgr0:List AIns:=[
 yI 2 (.mv (.v (.int .i64 0)))]
@[go_sem] def qgr1:List AIns:=[
 yM 4 0,
 yI 5 (.bin .lss .none (.t 4) (.v (.int .i64 2)))]
@[go_sem] def qgr2:List AIns:=[
 yI 2 (.mv (.v (.int .i64 0)))]
def qgc3:ACode:= .seq (.reg qgr2) .ret
def qgc4:ACode:= .cond (.t 5) qgc3 .skip
def qgc5:ACode:= .seq (.reg qgr1) qgc4
@[go_sem] def qgr6:List AIns:=[
 yI 3 (.mv (.v (.int .i64 1)))]
@[go_sem] def qgr7:List AIns:=[
 yM 6 3,
 yM 7 0,
 yM 8 3,
 yI 9 (.bin .sub .none (.t 7) (.t 8)),
 yI 10 (.bin .lss .none (.t 6) (.t 9))]
def qgc8:ACode:= .cond (.t 10) .skip (.exit 0)
def qgc9:ACode:= .seq (.reg qgr7) qgc8
@[go_sem] def qgr10:List AIns:=[
 yM 11 3,
 yI 12 (.bin .mul .none (.t 11) (.v (.int .i64 2))),
 yM 3 12]
def qgc11:ACode:= .block 1 (.reg qgr10)
def qgc12:ACode:= .seq qgc9 qgc11
def qgc13:ACode:= .loop qgc12
@[go_sem] def qgr14:List AIns:=[
 yM 13 3,
 yM 2 13]
def qgc15:ACode:= .seq (.reg qgr14) .ret
def qgc16:ACode:= .seq (.block 0 qgc13) qgc15
def qgc17:ACode:= .seq (.reg qgr6) qgc16
def qgc18:ACode:= .seq qgc5 qgc17
def qgc19:ACode:= .seq (.reg qgr0) qgc18
theorem qgok:cFn TC 82=some (14,[.t 2],qgc19):=by kernel_rfl
@[go_sem] def qhr0:List AIns:=[
 yI 6 (.alloc zZ0)]
@[go_sem] def qhr1:List AIns:=[
 yM 8 1,
 yM 9 0,
 yI 10 (.bin .sub .none (.t 8) (.t 9)),
 yI 11 (.call (.v (.fn 82 [])) [(.t 10)]),
 yM 7 11]
@[go_sem] def qhr2:List AIns:=[
 yM 12 7,
 yI 13 (.bin .eql .none (.t 12) (.v (.int .i64 0)))]
@[go_sem] def qhr3:List AIns:=[
 yI 14 (.load false 1 (.t 2)),
 yM 15 0,
 yI 16 (.iaSl 32 (.t 14) (.t 15)),
 yI 17 (.load true 32 (.t 16)),
 ⟨none,none,.no,.store 32 (.t 6) (.t 17)⟩]
def qhc4:ACode:= .seq (.reg qhr3) .ret
def qhc5:ACode:= .cond (.t 13) qhc4 .skip
def qhc6:ACode:= .seq (.reg qhr2) qhc5
@[go_sem] def qhr7:List AIns:=[
 ⟨some 18,none,.rd,.load false 1 (.t 3)⟩,
 yM 19 0,
 yM 20 0,
 yM 21 7,
 yI 22 (.bin .add .none (.t 20) (.t 21)),
 ⟨some 23,none,.ef,.call (.t 18) [(.t 19),(.t 22)]⟩,
 ⟨some 24,none,.rd,.load false 1 (.t 3)⟩,
 yM 25 0,
 yM 26 7,
 yI 27 (.bin .add .none (.t 25) (.t 26)),
 yM 28 1,
 yI 29 (.call (.t 24) [(.t 27),(.t 28)]),
 yI 30 (.call (.v (.fn 88 [])) [(.t 23),(.t 29)]),
 ⟨none,none,.no,.store 32 (.t 6) (.t 30)⟩]
def qhc8:ACode:= .seq (.reg qhr7) .ret
def qhc9:ACode:= .seq qhc6 qhc8
def qhc10:ACode:= .seq (.reg qhr1) qhc9
def qhc11:ACode:= .seq (.reg qhr0) qhc10
theorem qhok:cFn TC 87=some (31,[.c 6 true 32],qhc11):=by kernel_rfl
@[go_sem] def qir0:List AIns:=[
 yI 2 (.alloc zZ0)]
@[go_sem] def qir1:List AIns:=[
 yM 4 0,
 yI 5 (.lenSl (.t 4)),
 yI 6 (.bin .eql .none (.t 5) (.v (.int .i64 0)))]
@[go_sem] def qir2:List AIns:=[
 yI 7 (.call (.v (.fn 86 [])) [(.v (.str []))]),
 ⟨none,none,.no,.store 32 (.t 2) (.t 7)⟩]
def qic3:ACode:= .seq (.reg qir2) .ret
def qic4:ACode:= .cond (.t 6) qic3 .skip
def qic5:ACode:= .seq (.reg qir1) qic4
@[go_sem] def qir6:List AIns:=[
 yM 8 0,
 yI 9 (.lenSl (.t 8)),
 yI 10 (.bin .eql .none (.t 9) (.v (.int .i64 1)))]
@[go_sem] def qir7:List AIns:=[
 yM 11 0,
 yI 12 (.iaSl 32 (.t 11) (.v (.int .i64 0))),
 yI 13 (.load true 32 (.t 12)),
 ⟨none,none,.no,.store 32 (.t 2) (.t 13)⟩]
def qic8:ACode:= .seq (.reg qir7) .ret
def qic9:ACode:= .cond (.t 10) qic8 .skip
def qic10:ACode:= .seq (.reg qir6) qic9
@[go_sem] def qir11:List AIns:=[
 yM 14 0,
 yI 15 (.lenSl (.t 14)),
 yI 16 (.call (.v (.fn 49 [])) [(.t 15)]),
 yM 3 16]
@[go_sem] def qir12:List AIns:=[
 yM 17 0,
 yM 18 3,
 yI 19 (.slice (.sl 32) (.t 17) none (some (.t 18)) none),
 yI 20 (.call (.v (.fn 50 [])) [(.t 19)]),
 yM 21 0,
 yM 22 3,
 yI 23 (.slice (.sl 32) (.t 21) (some (.t 22)) none none),
 yI 24 (.call (.v (.fn 50 [])) [(.t 23)]),
 yI 25 (.call (.v (.fn 99 [])) [(.t 20),(.t 24)]),
 ⟨none,none,.no,.store 32 (.t 2) (.t 25)⟩]
def qic13:ACode:= .seq (.reg qir12) .ret
def qic14:ACode:= .seq (.reg qir11) qic13
def qic15:ACode:= .seq qic10 qic14
def qic16:ACode:= .seq qic5 qic15
def qic17:ACode:= .seq (.reg qir0) qic16
theorem qiok:cFn TC 50=some (26,[.c 2 true 32],qic17):=by kernel_rfl
@[go_sem] def qjr0:List AIns:=[
 yI 2 (.box (.t 0)),
 yI 3 (.box (.t 1)),
 yI 4 (.alloc zZ0)]
@[go_sem] def qjr1:List AIns:=[
 ⟨some 5,none,.rd,.load true 32 (.t 2)⟩,
 ⟨some 6,none,.ef,.call (.v (.fn 66 [])) [(.t 5)]⟩,
 yI 7 (.bin .add .none (.v (.str [1])) (.t 6)),
 ⟨some 8,none,.rd,.load true 32 (.t 3)⟩,
 yI 9 (.call (.v (.fn 66 [])) [(.t 8)]),
 yI 10 (.bin .add .none (.t 7) (.t 9)),
 yI 11 (.call (.v (.fn 86 [])) [(.t 10)]),
 ⟨none,none,.no,.store 32 (.t 4) (.t 11)⟩]
def qjc2:ACode:= .seq (.reg qjr1) .ret
def qjc3:ACode:= .seq (.reg qjr0) qjc2
theorem qjok:cFn TC 99=some (12,[.c 4 true 32],qjc3):=by kernel_rfl
@[go_sem] def qkr0:List AIns:=[
 yI 1 (.box (.t 0)),
 yI 2 (.mv (.v (.str [])))]
@[go_sem] def qkr1:List AIns:=[
 yI 3 (.mv (.v .nilsl))]
@[go_sem] def qkr2:List AIns:=[
 yI 4 (.mv (.v (.int .i64 0)))]
@[go_sem] def qkr3:List AIns:=[
 yM 5 4,
 yI 6 (.bin .lss .none (.t 5) (.v (.int .i64 32)))]
def qkc4:ACode:= .cond (.t 6) .skip (.exit 0)
def qkc5:ACode:= .seq (.reg qkr3) qkc4
@[go_sem] def qkr6:List AIns:=[
 yM 9 3,
 yM 10 4,
 yI 11 (.iaArr 32 1 (.t 1) (.t 10)),
 yI 12 (.load false 1 (.t 11)),
 yI 13 (.lit 1 [(.t 12)]),
 yI 14 (.appB (.t 9) (.t 13)),
 yM 3 14]
@[go_sem] def qkr7:List AIns:=[
 yM 7 4,
 yI 8 (.bin .add .none (.t 7) (.v (.int .i64 1))),
 yM 4 8]
def qkc8:ACode:= .seq (.block 1 (.reg qkr6)) (.reg qkr7)
def qkc9:ACode:= .seq qkc5 qkc8
def qkc10:ACode:= .loop qkc9
def qkc11:ACode:= .block 0 qkc10
def qkc12:ACode:= .seq (.reg qkr2) qkc11
@[go_sem] def qkr13:List AIns:=[
 yM 15 3,
 yI 16 (.conv .str (.t 15)),
 yM 2 16]
def qkc14:ACode:= .seq (.reg qkr13) .ret
def qkc15:ACode:= .seq qkc12 qkc14
def qkc16:ACode:= .seq (.reg qkr1) qkc15
def qkc17:ACode:= .seq (.reg qkr0) qkc16
theorem qkok:cFn TC 66=some (17,[.t 2],qkc17):=by kernel_rfl
@[go_sem] def qlr0:List AIns:=[
 yI 1 (.box (.t 0)),
 yI 2 (.mv (.v (.str [])))]
@[go_sem] def qlr1:List AIns:=[
 yI 3 (.slice (.arr 32 1) (.t 1) none none none),
 yI 4 (.conv .str (.t 3)),
 yM 2 4]
def qlc2:ACode:= .seq (.reg qlr1) .ret
def qlc3:ACode:= .seq (.reg qlr0) qlc2
theorem qlok:cFn TC 60=some (5,[.t 2],qlc3):=by kernel_rfl
@[go_sem] def qmr0:List AIns:=[
 yI 2 (.mv (.v (.int .i64 0)))]
@[go_sem] def qmr1:List AIns:=[
 yI 3 (.mv (.v (.int .i64 0)))]
@[go_sem] def qmr2:List AIns:=[
 yI 4 (.mv (.v (.int .i64 1)))]
@[go_sem] def qmr3:List AIns:=[
 yM 5 4,
 yM 6 0,
 yI 7 (.bin .lss .none (.t 5) (.t 6)),
 yM 8 7,
 yG 9 8 true (.mv (.t 4)),
 yG 10 8 true (.bin .gtr .none (.t 9) (.v (.int .i64 0))),
 yI 11 (.pick (.t 8) (.t 10) (.v (.bool false)))]
def qmc4:ACode:= .cond (.t 11) .skip (.exit 0)
def qmc5:ACode:= .seq (.reg qmr3) qmc4
@[go_sem] def qmr6:List AIns:=[
 yM 14 4,
 yM 3 14]
@[go_sem] def qmr7:List AIns:=[
 yM 12 4,
 yI 13 (.bin .mul .none (.t 12) (.v (.int .i64 2))),
 yM 4 13]
def qmc8:ACode:= .seq (.block 1 (.reg qmr6)) (.reg qmr7)
def qmc9:ACode:= .seq qmc5 qmc8
def qmc10:ACode:= .loop qmc9
def qmc11:ACode:= .block 0 qmc10
def qmc12:ACode:= .seq (.reg qmr2) qmc11
@[go_sem] def qmr13:List AIns:=[
 yM 15 3,
 yM 2 15]
def qmc14:ACode:= .seq (.reg qmr13) .ret
def qmc15:ACode:= .seq qmc12 qmc14
def qmc16:ACode:= .seq (.reg qmr1) qmc15
def qmc17:ACode:= .seq (.reg qmr0) qmc16
theorem qmok:cFn TC 49=some (16,[.t 2],qmc17):=by kernel_rfl
end
section
theorem ze7(s:List UInt8):(shaS s).length=32:=z4y _
def z1l(a b:List UInt8):List UInt8:=shaS (1::(a++b))
theorem z3m(a b:List UInt8):(z1l a b).length=32:=ze7 _
theorem zcc:∀(l:List UInt8),chunk 1 l.length (zj l)=zn l
 | []=>rfl
 |b::l=>by
  have:=zcc l
  simp only [zj,zn]at this
  simp [zj,zn,chunk,B8]at this ⊢
  exact this
theorem z8t(J:Store)(h:List UInt8)(hl:h.length=32):ACallsTo TC 60 [.agg (zj h)] J (.str h) J:=by
 refine ACallsTo.of_body qlok (by simp) fun hw _=> ?_
 have h1:=zm h
 have hc:=zcc h
 rw [hl]at h1 hc
 repeat' (first|apply zs_|apply zb_|apply zc_|apply zt_ rfl|apply zf_ rfl|(refine zd_ rfl ?_ ?_<;>intro ht<;>try omega)|((first|apply zr_|apply zk_|apply ze_|apply zq_|(apply zG<;>intro ht));all_goals try simp (disch:=first|omega|(simp only [lens];first|done|omega)) only [go_sem,h1,hc]))
 exact DownV.pure hw (zz _ rfl)
def OwnN(sz:Nat)(τ J':Store)(v:AV)(es:List (List AV)):Prop:=
 ∃news,J'=τ++news/\ ((es=[]/\ v= .nilsl) \/ ∃j,es ≠ []/\ v= .sl (τ.length+j) 0 es.length none sz/\ news[j]? =some (some es))
theorem OwnN.len{sz:Nat}{τ J':Store}{v:AV}{es:List (List AV)}(h:OwnN sz τ J' v es):z1h v=some (.int .i64 es.length):=by
 obtain⟨news,rfl,⟨rfl,rfl⟩| ⟨j,_,rfl,h⟩⟩:=h<;>rfl
theorem OwnN.appB{sz:Nat}{τ J':Store}{v:AV}{es ys:List (List AV)}(h:OwnN sz τ J' v es):z45 J' v ys=aApp J' 1 v ys:=by
 obtain⟨news,rfl,⟨rfl,rfl⟩| ⟨j,_,rfl,h⟩⟩:=h<;>rfl
theorem OwnN.nil{sz:Nat}{τ news:Store}:OwnN sz τ (τ++news) .nilsl []:=⟨news,rfl,.inl ⟨rfl,rfl⟩⟩
theorem OwnN.ext{sz:Nat}{τ J':Store}{v:AV}{es:List (List AV)}(h:OwnN sz τ J' v es):∃news,J'=τ++news:=by
 obtain⟨news,h,_⟩:=h;exact⟨news,h⟩
theorem OwnN.more{sz:Nat}{τ J':Store}{v:AV}{es:List (List AV)}(h:OwnN sz τ J' v es)(y:Store):OwnN sz τ (J'++y) v es:=by
 obtain⟨news,rfl,h| ⟨j,h0,rfl,h⟩⟩:=h
 ·exact⟨news++y,by rw [List.append_assoc],.inl h⟩
 ·exact⟨news++y,by rw [List.append_assoc],.inr ⟨j,h0,rfl,by rw [List.getElem?_append_left (List.getElem?_eq_some_iff.1 h).1];exact h⟩⟩
theorem OwnN.app{sz:Nat}{τ J':Store}{v:AV}{es ys:List (List AV)}(h:OwnN sz τ J' v es)(h0:ys.length ≠ 0)(hl:es.length+ys.length<=1073741824):
  ∃v' J'',aApp J' sz v ys=some (v',J'')/\ OwnN sz τ J'' v' (es++ys):=by
 have hne:es++ys ≠ []:=fun e=>h0 (by rw [(List.append_eq_nil_iff.1 e).2];rfl)
 obtain⟨news,rfl,⟨rfl,rfl⟩| ⟨j,_,rfl,h⟩⟩:=h
 ·refine⟨_,_,by rw [zc2,if_neg h0,if_pos (by simpa using hl)],news++ [some ys],by rw [List.append_assoc],.inr ⟨news.length,hne,by simp,by rw [List.getElem?_append_right (Nat.le_refl _)];simp⟩⟩
 ·have hj:=(List.getElem?_eq_some_iff.1 h).1
  have hg:(τ++news)[τ.length+j]? =some (some es):=by rw [List.getElem?_append_right (by omega),Nat.add_sub_cancel_left];exact h
  refine⟨.sl (τ++news).length 0 (es.length+ys.length) none sz,(τ++news).set (τ.length+j) none++ [some (es++ys)],?_,news.set j none++ [some (es++ys)],?_,.inr ⟨news.length,hne,by simp,by rw [List.getElem?_append_right (by simp)];simp⟩⟩
  ·rw [zab,if_neg h0,hg]
   simp only
   rw [if_pos ⟨trivial,by omega,by omega⟩,if_neg (by omega),List.drop_zero,List.take_of_length_le (Nat.le_refl _)]
  ·rw [List.set_append_right _ _ (by omega),Nat.add_sub_cancel_left,List.append_assoc]
theorem OwnN.sl{sz:Nat}{τ J':Store}{v:AV}{es:List (List AV)}(h:OwnN sz τ J' v es)(h0:es ≠ []):∃r,v= .sl r 0 es.length none sz/\ J'[r]? =some (some es)/\ τ.length<=r:=by
 obtain⟨news,rfl,⟨rfl,rfl⟩| ⟨j,_,rfl,h⟩⟩:=h
 ·exact absurd rfl h0
 ·exact⟨_,rfl,by rw [List.getElem?_append_right (by omega),Nat.add_sub_cancel_left];exact h,by omega⟩
def SlV(sz:Nat)(es:List (List AV))(x:AV):Prop:=(x= .nilsl/\ es=[]) \/ ∃ex,x= .vsl sz es ex
theorem SlV.len{sz:Nat}{es:List (List AV)}{x:AV}(h:SlV sz es x):z1h x=some (.int .i64 es.length):=by
 rcases h with⟨rfl,rfl⟩| ⟨ex,rfl⟩<;>rfl
theorem SlV.vsl{sz:Nat}{es:List (List AV)}{x:AV}(h:SlV sz es x)(h0:0<es.length):∃ex,x= .vsl sz es ex:=by
 rcases h with⟨rfl,rfl⟩|h
 ·simp at h0
 ·exact h
def z15(sz:Nat)(es:List (List AV)):AV:=if es=[]then .nilsl else .vsl sz es false
theorem z2x(sz:Nat)(es:List (List AV)):SlV sz es (z15 sz es):=by
 unfold z15
 split
 ·rename_i h;exact .inl ⟨rfl,h⟩
 ·exact .inr ⟨false,rfl⟩
def ownV(J:Store)(sz:Nat)(es:List (List AV)):AV:=if es=[]then .nilsl else .sl J.length 0 es.length none sz
def ownS(J:Store)(es:List (List AV)):Store:=if es=[]then J else J++ [some es]
theorem z4e(J:Store)(sz:Nat)(es:List (List AV)):OwnN sz J (ownS J es) (ownV J sz es) es:=by
 unfold ownV ownS
 by_cases h:es=[]
 ·rw [if_pos h,if_pos h];exact⟨[],by simp,.inl ⟨h,rfl⟩⟩
 ·rw [if_neg h,if_neg h];exact⟨[some es],rfl,.inr ⟨0,h,rfl,rfl⟩⟩
theorem OwnN.froze{sz:Nat}{J J':Store}{v:AV}{es:List (List AV)}(hw:Wf J.length J)(h:OwnN sz J J' v es)(hr:RLss J.length es):DownV J.length v J' (z15 sz es) J:=by
 unfold z15
 obtain⟨news,rfl,⟨rfl,rfl⟩| ⟨j,h0,rfl,h⟩⟩:=h
 ·rw [if_pos rfl];exact DownV.pure hw (zz _ rfl)
 ·have e:(es.drop 0).take es.length=es:=by rw [List.drop_zero,List.take_of_length_le (Nat.le_refl _)]
  have:=DownV.froze (off:=0) (len:=es.length) (esz:=sz) (lim:=none) hw h (by omega) (by rw [e];exact hr)
  rw [e]at this
  rw [if_neg h0];exact this
theorem OwnN.own{sz:Nat}{J J':Store}{v:AV}{es:List (List AV)}(hw:Wf J.length J)(h:OwnN sz J J' v es)(hr:RLss J.length es):DownV J.length v J' (ownV J sz es) (ownS J es):=by
 unfold ownV ownS
 obtain⟨news,rfl,⟨rfl,rfl⟩| ⟨j,h0,rfl,h⟩⟩:=h
 ·rw [if_pos rfl,if_pos rfl];exact DownV.pure hw (zz _ rfl)
 ·rw [if_neg h0,if_neg h0];exact DownV.own (off:=0) (len:=es.length) (esz:=sz) (lim:=none) hw h hr
theorem zlb{l:List UInt8}{i:Nat}(h:i<l.length):(zj l)[i]? =some (.int .u8 (l.getD i 0).toNat):=by
 simp [zj,List.getD_eq_getElem?_getD,List.getElem?_eq_getElem h]
theorem z98(J:Store)(h:List UInt8)(hl:h.length=32):ACallsTo TC 66 [.agg (zj h)] J (.str h) J:=by
 refine ACallsTo.of_body qkok (by simp) fun hw _=> ?_
 have h1:=zm h
 rw [hl]at h1
 repeat' (first|apply zs_|apply zb_|apply zc_|apply zt_ rfl|apply zf_ rfl|(refine zd_ rfl ?_ ?_<;>intro ht<;>try omega)|((first|apply zr_|apply zk_|apply ze_|apply zq_|(apply zG<;>intro ht));all_goals try simp (disch:=first|omega|(simp only [lens];first|done|omega)) only [go_sem,h1]))
 refine zW.loop (fun m ρ J'=>∃i:Nat,m+i=32/\ ρ 1= .ptr J.length 0 0/\ ρ 4= .int .i64 i/\ OwnN 1 (J++ [some [zj h]]) J' (ρ 3) (zn (h.take i))) 32 ?_ ?_
 ·refine⟨0,by omega,by simp (disch:=first|omega|(simp only [lens];first|done|omega)) only [go_sem],by simp (disch:=first|omega|(simp only [lens];first|done|omega)) only [go_sem];rfl,?_⟩
  simp (disch:=first|omega|(simp only [lens];first|done|omega)) only [go_sem]
  have:=OwnN.nil (sz:=1) (τ:=J++ [some [zj h]]) (news:=[])
  rwa [List.append_nil]at this
 ·rintro m ρ J' ⟨i,hm,q1,q4,hO⟩
  by_cases hi:i<32
  ·have hg:=zlb (l:=h) (i:=i) (by omega)
   have hs:h.take (i+1)=h.take i++ [h.getD i 0]:=by
    rw [List.take_add_one,List.getD_eq_getElem?_getD,List.getElem?_eq_getElem (by omega)];rfl
   obtain⟨v',J2,he,hO2⟩:=hO.app (ys:=zn [h.getD i 0]) (by simp [zn]) (by simp [zx];omega)
   have ho:J'[J.length]? =some (some [zj h]):=by
    obtain⟨news,rfl,_⟩:=hO
    rw [List.append_assoc,List.getElem?_append_right (Nat.le_refl _),Nat.sub_self];rfl
   have hb:zn [h.getD i 0]=[[.int .u8 (h.getD i 0).toNat]]:=rfl
   rw [hb]at he
   rw [<-hO.appB]at he
   generalize h.getD i 0=x at*
   generalize hv:ρ 3=v at*
   repeat' (first|apply zs_|apply zb_|apply zc_|apply zt_ rfl|apply zf_ rfl|(refine zd_ rfl ?_ ?_<;>intro ht<;>try omega)|((first|apply zr_|apply zk_|apply ze_|apply zq_|(apply zG<;>intro ht));all_goals try simp (disch:=first|omega|(simp only [lens];first|done|omega)) only [go_sem,q1,q4,hv,ho,h1,hg,he]))
   refine⟨32-(i+1),by omega,i+1,by omega,by simp,?_⟩
   rw [hs,<-zaf]
   exact hO2
  ·obtain rfl:i=32:=by omega
   rw [List.take_of_length_le (by omega)]at hO
   obtain⟨r,q3,hg,_⟩:=hO.sl (by intro e;have:=zx h;rw [e]at this;simp at this;omega)
   rw [zx]at q3
   repeat' (first|apply zs_|apply zb_|apply zc_|apply zt_ rfl|apply zf_ rfl|(refine zd_ rfl ?_ ?_<;>intro ht<;>try omega)|((first|apply zr_|apply zk_|apply ze_|apply zq_|(apply zG<;>intro ht));all_goals try simp (disch:=first|omega|(simp only [lens];first|done|omega)) only [go_sem,q1,q4,q3,hg]))
   obtain⟨news,rfl,_⟩:=hO
   rw [List.append_assoc]
   exact DownV.pure hw (zz _ rfl)
theorem z1z(J:Store)(a b:List UInt8)(ha:a.length=32)(hb:b.length=32):ACallsTo TC 88 [.agg (zj a),.agg (zj b)] J (.agg (zj (z1l a b))) J:=by
 refine ACallsTo.of_body qfok (by simp) fun hw _=> ?_
 have h1:=zm a
 have h2:=zm b
 have h3:=zm (z1l a b)
 rw [ha]at h1
 rw [hb]at h2
 rw [z3m]at h3
 obtain⟨n,hn⟩:∃n,n=z1l a b:=⟨_,rfl⟩
 have hs:∀J,ACallsTo TC 80 [.str (1::(a++b))] J (.agg (zj n)) J:=fun J=>by rw [hn];exact z80 J _ (by simp;omega)
 rw [<-hn]at h3 ⊢
 repeat' (first|refine zs_ ?_|refine zb_ ?_|refine zc_ ?_|refine zt_ rfl ?_|refine zf_ rfl ?_|(refine zd_ rfl (fun ht=> ?_) (fun ht=> ?_)<;>try (exfalso;omega))|((first|refine zW.regS ?_|refine zk_ ?_|refine ze_ ?_|refine zq_ ?_|(apply callW.mk_pu;(first|exact(fun _=>z8t _ _ ha)|exact(fun _=>z8t _ _ hb)|exact(fun _=>hs _)))|(apply callW.za;(first|exact(z8t _ _ ha)|exact(z8t _ _ hb)|exact(hs _)))|(apply zG<;>intro ht));all_goals try simp (disch:=first|omega|(simp only [lens];first|done|omega)) only [go_sem,h1,h2,h3]))
 exact DownV.pure hw (z2k (z2b _))
theorem zdt(J:Store)(a b:List UInt8)(ha:a.length=32)(hb:b.length=32):ACallsTo TC 99 [.agg (zj a),.agg (zj b)] J (.agg (zj (z1l a b))) J:=by
 refine ACallsTo.of_body qjok (by simp) fun hw _=> ?_
 have h1:=zm a
 have h2:=zm b
 have h3:=zm (z1l a b)
 rw [ha]at h1
 rw [hb]at h2
 rw [z3m]at h3
 obtain⟨n,hn⟩:∃n,n=z1l a b:=⟨_,rfl⟩
 have hs:∀J,ACallsTo TC 86 [.str (1::(a++b))] J (.agg (zj n)) J:=fun J=>by rw [hn];exact z74 J _ (by simp;omega)
 rw [<-hn]at h3 ⊢
 repeat' (first|refine zs_ ?_|refine zb_ ?_|refine zc_ ?_|refine zt_ rfl ?_|refine zf_ rfl ?_|(refine zd_ rfl (fun ht=> ?_) (fun ht=> ?_)<;>try (exfalso;omega))|((first|refine zW.regS ?_|refine zk_ ?_|refine ze_ ?_|refine zq_ ?_|(apply callW.mk_pu;(first|exact(fun _=>z98 _ _ ha)|exact(fun _=>z98 _ _ hb)|exact(fun _=>hs _)))|(apply callW.za;(first|exact(z98 _ _ ha)|exact(z98 _ _ hb)|exact(hs _)))|(apply zG<;>intro ht));all_goals try simp (disch:=first|omega|(simp only [lens];first|done|omega)) only [go_sem,h1,h2,h3]))
 exact DownV.pure hw (z2k (z2b _))
end
section
def zu(n:Nat):Nat:=if n<2 then 0 else 2^Nat.log2 (n-1)
theorem z3a{n:Nat}(h:2<=n):zu n<n/\ n<=2*zu n/\ 0<zu n:=by
 unfold zu
 rw [if_neg (by omega)]
 have h1:=Nat.log2_self_le (n:=n-1) (by omega)
 have h2:=Nat.lt_log2_self (n:=n-1)
 rw [Nat.pow_succ]at h2
 have h3:0<2^Nat.log2 (n-1):=Nat.pow_pos (by decide)
 omega
theorem zbh{n j:Nat}(h1:2^j<n)(h2:n<=2^(j+1)):zu n=2^j:=by
 have h3:0<2^j:=Nat.pow_pos (by decide)
 unfold zu
 rw [if_neg (by omega)]
 have h4:=Nat.log2_self_le (n:=n-1) (by omega)
 have h5:=Nat.lt_log2_self (n:=n-1)
 congr 1
 generalize Nat.log2 (n-1)=i at*
 have a1:2^j<2^(i+1):=by omega
 have a2:2^i<2^(j+1):=by omega
 have b1:=(Nat.pow_lt_pow_iff_right (by decide:1<2)).1 a1
 have b2:=(Nat.pow_lt_pow_iff_right (by decide:1<2)).1 a2
 omega
theorem z9p(J:Store)(n:Nat)(h:n<1000000000000):ACallsTo TC 82 [.int .i64 n] J (.int .i64 (zu n)) J:=by
 refine ACallsTo.of_body qgok (by simp) fun hw _=> ?_
 by_cases h2:n<2
 ·have e:zu n=0:=by unfold zu;rw [if_pos h2]
  rw [e]
  repeat' (first|apply zs_|apply zb_|apply zc_|apply zt_ rfl|apply zf_ rfl|(refine zd_ rfl ?_ ?_<;>intro ht<;>try omega)|((first|apply zr_|apply zk_|apply ze_|apply zq_|(apply zG<;>intro ht));all_goals try simp (disch:=first|omega|(simp only [lens];first|done|omega)) only [go_sem]))
  exact DownV.same hw (zz _ rfl)
 ·repeat' (first|apply zs_|apply zb_|apply zc_|apply zt_ rfl|apply zf_ rfl|(refine zd_ rfl ?_ ?_<;>intro ht<;>try omega)|((first|apply zr_|apply zk_|apply ze_|apply zq_|(apply zG<;>intro ht));all_goals try simp (disch:=first|omega|(simp only [lens];first|done|omega)) only [go_sem]))
  refine zW.loop (fun m ρ J'=>∃j:Nat,m=n-2^j/\ 2^j<n/\ ρ 0= .int .i64 n/\ ρ 3= .int .i64 ((2^j:Nat):Int)/\ J'=J) (n-1) ?_ ?_
  ·exact⟨0,rfl,by omega,by simp (disch:=first|omega|(simp only [lens];first|done|omega)) only [go_sem],by simp (disch:=first|omega|(simp only [lens];first|done|omega)) only [go_sem];rfl,rfl⟩
  ·rintro m ρ J' ⟨j,hm,hj,q0,q3,rfl⟩
   have hp:0<2^j:=Nat.pow_pos (by decide)
   have hs:2^(j+1)=2^j*2:=Nat.pow_succ ..
   generalize hk:2^j=k at*
   by_cases hc:(k:Int)<n-k
   ·repeat' (first|apply zs_|apply zb_|apply zc_|apply zt_ rfl|apply zf_ rfl|(refine zd_ rfl ?_ ?_<;>intro ht<;>try omega)|((first|apply zr_|apply zk_|apply ze_|apply zq_|(apply zG<;>intro ht));all_goals try simp (disch:=first|omega|(simp only [lens];first|done|omega)) only [go_sem,q0,q3]))
    exact⟨n-k*2,by omega,j+1,by rw [hs],by omega,by rw [hs];rfl⟩
   ·have e:zu n=k:=by rw [<-hk];exact zbh (by omega) (by omega)
    rw [e]
    repeat' (first|apply zs_|apply zb_|apply zc_|apply zt_ rfl|apply zf_ rfl|(refine zd_ rfl ?_ ?_<;>intro ht<;>try omega)|((first|apply zr_|apply zk_|apply ze_|apply zq_|(apply zG<;>intro ht));all_goals try simp (disch:=first|omega|(simp only [lens];first|done|omega)) only [go_sem,q0,q3]))
    exact DownV.same hw (zz _ rfl)
theorem z9a(J:Store)(n:Nat)(h:n<1000000000000):ACallsTo TC 49 [.int .i64 n] J (.int .i64 (zu n)) J:=by
 refine ACallsTo.of_body qmok (by simp) fun hw _=> ?_
 repeat' (first|apply zs_|apply zb_|apply zc_|apply zt_ rfl|apply zf_ rfl|(refine zd_ rfl ?_ ?_<;>intro ht<;>try omega)|((first|apply zr_|apply zk_|apply ze_|apply zq_|(apply zG<;>intro ht));all_goals try simp (disch:=first|omega|(simp only [lens];first|done|omega)) only [go_sem]))
 refine zW.loop (fun m ρ J'=>∃j k:Nat,m=n-2^j/\ ((j=0/\ k=0) \/(k<n/\ 2^j=k*2/\ ∃i,k=2^i))/\ ρ 0= .int .i64 n/\ ρ 3= .int .i64 k/\ ρ 4= .int .i64 ((2^j:Nat):Int)/\ J'=J) (n-1) ?_ ?_
 ·exact⟨0,0,rfl,.inl ⟨rfl,rfl⟩,by simp (disch:=first|omega|(simp only [lens];first|done|omega)) only [go_sem],by simp (disch:=first|omega|(simp only [lens];first|done|omega)) only [go_sem];rfl,by simp (disch:=first|omega|(simp only [lens];first|done|omega)) only [go_sem];rfl,rfl⟩
 ·rintro m ρ J' ⟨j,k,hm,hk,q0,q3,q4,rfl⟩
  have hp:0<2^j:=Nat.pow_pos (by decide)
  have hs:2^(j+1)=2^j*2:=Nat.pow_succ ..
  by_cases hc:2^j<n
  ·generalize hmm:2^j=mm at*
   repeat' (first|apply zs_|apply zb_|apply zc_|apply zt_ rfl|apply zf_ rfl|(refine zd_ rfl ?_ ?_<;>intro ht<;>try omega)|((first|apply zr_|apply zk_|apply ze_|apply zq_|(apply zG<;>intro ht));all_goals try simp (disch:=first|omega|(simp only [lens];first|done|omega)) only [go_sem,q0,q3,q4]))
   clear hk
   exact⟨n-mm*2,by omega,j+1,mm,by rw [hs],.inr ⟨hc,hs,j,hmm.symm⟩,rfl,by rw [hs];rfl⟩
  ·have e:zu n=k:=by
    rcases hk with⟨rfl,rfl⟩| ⟨h1,h2,i,rfl⟩
    ·unfold zu;rw [if_pos (by simp at hc;omega)]
    ·exact zbh h1 (by rw [Nat.pow_succ];omega)
   rw [e]
   clear e hk hs
   generalize hmm:2^j=mm at*
   repeat' (first|apply zs_|apply zb_|apply zc_|apply zt_ rfl|apply zf_ rfl|(refine zd_ rfl ?_ ?_<;>intro ht<;>try omega)|((first|apply zr_|apply zk_|apply ze_|apply zq_|(apply zG<;>intro ht));all_goals try simp (disch:=first|omega|(simp only [lens];first|done|omega)) only [go_sem,q0,q3,q4]))
   exact DownV.same hw (zz _ rfl)
def z79:Nat->List (List UInt8)->List UInt8
 | 0,_=>[]
 | _+1,[]=>shaS []
 | _+1,[h]=>h
 |f+1,a::b::l=>z1l (z79 f ((a::b::l).take (zu (l.length+2)))) (z79 f ((a::b::l).drop (zu (l.length+2))))
theorem zb9:∀(f g:Nat) (l:List (List UInt8)),l.length<f->l.length<g->z79 f l=z79 g l
 | 0,_,_,h,_=>by omega
 | _+1,0,_,_,h=>by omega
 |f+1,g+1,[],_,_=>rfl
 |f+1,g+1,[_],_,_=>rfl
 |f+1,g+1,a::b::l,h,h'=>by
  obtain⟨s1,s2,s3⟩:=z3a (n:=l.length+2) (by omega)
  simp only [List.length_cons]at h h'
  simp only [z79]
  rw [zb9 f g ((a::b::l).take (zu (l.length+2))) (by rw [List.length_take];simp;omega) (by rw [List.length_take];simp;omega),
   zb9 f g ((a::b::l).drop (zu (l.length+2))) (by rw [List.length_drop];simp;omega) (by rw [List.length_drop];simp;omega)]
def z13(l:List (List UInt8)):List UInt8:=z79 (l.length+1) l
theorem zba:z13 []=shaS []:=rfl
theorem zr2(h:List UInt8):z13 [h]=h:=rfl
theorem z7w{l:List (List UInt8)}(h:2<=l.length):z13 l=z1l (z13 (l.take (zu l.length))) (z13 (l.drop (zu l.length))):=by
 match l,h with
 |a::b::l,_=>
  obtain⟨s1,s2,s3⟩:=z3a (n:=l.length+2) (by omega)
  unfold z13
  simp only [z79,List.length_cons]
  congr 1
  ·refine zb9 _ _ _ ?_ (Nat.lt_succ_self _)
   rw [List.length_take]
   simp only [List.length_cons]
   omega
  ·refine zb9 _ _ _ ?_ (Nat.lt_succ_self _)
   rw [List.length_drop]
   simp only [List.length_cons]
   omega
def H32(l:List (List UInt8)):Prop:=∀h ∈ l,h.length=32
theorem H32.take{l:List (List UInt8)}(h:H32 l)(n:Nat):H32 (l.take n):=fun x hx=>h x (List.mem_of_mem_take hx)
theorem H32.drop{l:List (List UInt8)}(h:H32 l)(n:Nat):H32 (l.drop n):=fun x hx=>h x (List.mem_of_mem_drop hx)
theorem z2l{l:List (List UInt8)}(h:H32 l):(z13 l).length=32:=by
 match l,h with
 | [],_=>exact ze7 _
 | [x],h=>exact h x (by simp)
 |a::b::l,_=>rw [z7w (by simp)];exact z3m _ _
end
section
def zo(l:List (List UInt8)):List (List AV):=l.map zj
theorem z2f(l:List (List UInt8)):(zo l).length=l.length:=by simp [zo]
theorem zcu(l:List (List UInt8))(n:Nat):(zo l).take n=zo (l.take n):=by simp [zo,List.map_take]
theorem zct(l:List (List UInt8))(n:Nat):(zo l).drop n=zo (l.drop n):=by simp [zo,List.map_drop]
theorem hrows_nil{l:List (List UInt8)}:zo l=[] ↔ l=[]:=by simp [zo]
theorem z6i{k:Nat}:∀(l:List (List UInt8)),RLss k (zo l)
 | []=>by simp [zo,RLss]
 |h::l=>by have:=z6i (k:=k) l;simp only [zo]at this;simp [zo,RLss,this,z2b]
theorem zkk(hs:List (List UInt8))(hH:H32 hs)(hl:hs.length<1000000000)(ex:Bool)(r1 r3:Nat):
  ∀(d:Nat) (J:Store) (a:Nat),0<d->a+d<=hs.length->J[r1]? =some (some [[.vsl 32 (zo hs) ex]])->J[r3]? =some (some [[.fn 87 [.ptr r1 0 0,.ptr r3 0 0]]])->
   ACallsTo TC 87 [.int .i64 a,.int .i64 ((a+d:Nat):Int),.ptr r1 0 0,.ptr r3 0 0] J (.agg (zj (z13 ((hs.drop a).take d)))) J:=by
 intro d
 induction d using Nat.strongRecOn with
 | _ d ih=>
  intro J a h0 had hg1 hg3
  have hr1:=(List.getElem?_eq_some_iff.1 hg1).1
  have hr3:=(List.getElem?_eq_some_iff.1 hg3).1
  obtain⟨L,hL⟩:∃L,L=(hs.drop a).take d:=⟨_,rfl⟩
  have hLl:L.length=d:=by rw [hL,List.length_take,List.length_drop];omega
  have hLH:H32 L:=by rw [hL];exact(hH.drop a).take d
  have hn:=z2l hLH
  have hc:=zm (z13 L)
  rw [hn]at hc
  rw [<-hL]
  have hsub:((a+d:Nat):Int)-a=d:=by omega
  by_cases h1:d=1
  ·have e0:zu d=0:=by unfold zu;rw [if_pos (by omega)]
   have hsp:=fun J=>z9p J d (by omega)
   rw [e0]at hsp
   obtain⟨x,hx⟩:∃x,hs[a]? =some x:=⟨_,List.getElem?_eq_getElem (by omega)⟩
   have hgr:(zo hs)[a]? =some (zj x):=by simp [zo,hx]
   have eL:z13 L=x:=by
    have:L=[x]:=by
     rw [hL,h1]
     apply List.ext_getElem?
     intro i
     cases i with
     |zero=>simp [List.getElem?_take,List.getElem?_drop,hx]
     |succ i=>simp [List.getElem?_take]
    rw [this];rfl
   rw [eL]at hc ⊢
   have hrl:=z2f hs
   clear eL
   generalize zo hs=rows at*
   refine ACallsTo.of_body qhok (by simp) fun hw _=> ?_
   repeat' (first|apply zs_|apply zb_|apply zc_|apply zt_ rfl|apply zf_ rfl|(refine zd_ rfl ?_ ?_<;>intro ht<;>try omega)|((first|apply zr_|apply zk_|apply ze_|apply zq_|(apply callW.mk_pu;(first|exact(fun _=>hsp _)))|(apply callW.za;(first|exact(hsp _)))|(apply zG<;>intro ht));all_goals try simp (disch:=first|omega|(simp only [lens];first|done|omega)) only [go_sem,hsub,hg1,hgr,hc]))
   exact DownV.pure hw (z2k (z2b _))
  ·obtain⟨s1,s2,s3⟩:=z3a (n:=d) (by omega)
   have hsp:=fun J=>z9p J d (by omega)
   have eL:=z7w (l:=L) (by omega)
   rw [hLl]at eL
   have t1:L.take (zu d)=(hs.drop a).take (zu d):=by rw [hL,List.take_take,Nat.min_eq_left (by omega)]
   have t2:L.drop (zu d)=(hs.drop (a+zu d)).take (d-zu d):=by rw [hL,List.drop_take,List.drop_drop]
   generalize hk:zu d=k at*
   have i1:=fun y=>ih k (by omega) (J++y) a (by omega) (by omega) (by rw [gapp hr1];exact hg1) (by rw [gapp hr3];exact hg3)
   have i2:=fun y=>ih (d-k) (by omega) (J++y) (a+k) (by omega) (by omega) (by rw [gapp hr1];exact hg1) (by rw [gapp hr3];exact hg3)
   rw [<-t1]at i1
   rw [<-t2]at i2
   rw [show a+k+(d-k)=a+d by omega]at i2
   have n1:=z2l (hLH.take k)
   have n2:=z2l (hLH.drop k)
   have e1:((a:Int)+k)=((a+k:Nat):Int):=by omega
   rw [eL]at hc ⊢
   generalize z13 (L.take k)=A at*
   generalize z13 (L.drop k)=B at*
   have k0:¬(k:Int)=0:=by omega
   refine ACallsTo.of_body qhok (by simp) fun hw _=> ?_
   repeat' (first|refine zs_ ?_|refine zb_ ?_|refine zc_ ?_|refine zt_ rfl ?_|refine zf_ rfl ?_|(refine zd_ rfl (fun ht=> ?_) (fun ht=> ?_)<;>try (exfalso;omega))|((first|refine zW.regS ?_|refine zk_ ?_|refine ze_ ?_|refine zq_ ?_|(apply callW.mk_pu;(first|exact(fun _=>hsp _)|exact(fun _=>i1 _)|exact(fun _=>i2 _)|exact(fun _=>z1z _ _ _ n1 n2)))|(apply callW.za;(first|exact(hsp _)|exact(i1 _)|exact(i2 _)|exact(z1z _ _ _ n1 n2)))|(apply zG<;>intro ht));all_goals try simp (disch:=first|omega|(simp only [lens];first|done|omega)) only [go_sem,hsub,hg1,hg3,hc,e1]))
   exact DownV.pure hw (z2k (z2b _))
theorem z9o(J:Store)(hs:List (List UInt8))(x:AV)(hx:SlV 32 (zo hs) x)(hH:H32 hs)(hl:hs.length<1000000000):ACallsTo TC 39 [x] J (.agg (zj (z13 hs))) J:=by
 have hc:=zm (z13 hs)
 rw [z2l hH]at hc
 have hrl:=z2f hs
 by_cases h0:hs=[]
 ·subst h0
  have hx':=hx.len
  unfold z1h at hx'
  refine ACallsTo.of_body qeok (by simp) fun hw _=> ?_
  rw [zba]at hc ⊢
  rcases hx with⟨rfl,h⟩| ⟨ex,rfl⟩
  ·repeat' (first|apply zs_|apply zb_|apply zc_|apply zt_ rfl|apply zf_ rfl|(refine zd_ rfl ?_ ?_<;>intro ht<;>try omega)|((first|apply zr_|apply zk_|apply ze_|apply zq_|(apply callW.mk_pu;(first|exact(fun _=>z80 _ [] (by simp))))|(apply callW.za;(first|exact(z80 _ [] (by simp))))|(apply zG<;>intro ht));all_goals try simp (disch:=first|omega|(simp only [lens];first|done|omega)) only [go_sem,hc]))
   exact DownV.pure hw (z2k (z2b _))
  ·repeat' (first|apply zs_|apply zb_|apply zc_|apply zt_ rfl|apply zf_ rfl|(refine zd_ rfl ?_ ?_<;>intro ht<;>try omega)|((first|apply zr_|apply zk_|apply ze_|apply zq_|(apply callW.mk_pu;(first|exact(fun _=>z80 _ [] (by simp))))|(apply callW.za;(first|exact(z80 _ [] (by simp))))|(apply zG<;>intro ht));all_goals try simp (disch:=first|omega|(simp only [lens];first|done|omega)) only [go_sem,hc,hrl]))
   exact DownV.pure hw (z2k (z2b _))
 ·have hpos:0<hs.length:=List.length_pos_iff.2 h0
  obtain⟨ex,rfl⟩:=hx.vsl (by rw [hrl];exact hpos)
  have h1:=zkk hs hH hl ex J.length (J.length+2) hs.length
  refine ACallsTo.of_body qeok (by simp) fun hw _=> ?_
  have h1:=fun J'=>h1 J' 0 hpos (by omega)
  simp only [Nat.zero_add,List.drop_zero,List.take_length]at h1
  generalize z13 hs=R at*
  generalize zo hs=rows at*
  repeat' (first|apply zs_|apply zb_|apply zc_|apply zt_ rfl|apply zf_ rfl|(refine zd_ rfl ?_ ?_<;>intro ht<;>try omega)|((first|apply zr_|apply zk_|apply ze_|apply zq_|(apply callW.mk_pu;(first|exact(fun _=>h1 _ (by simp) (by simp))))|(apply callW.za;(first|exact(h1 _ (by simp) (by simp))))|(apply zG<;>intro ht));all_goals try simp (disch:=first|omega|(simp only [lens];first|done|omega)) only [go_sem,hc,hrl]))
  exact DownV.pure hw (z2k (z2b _))
theorem zqv(f:Nat):∀(J:Store) (hs:List (List UInt8)) (ex:Bool),hs.length<f->H32 hs->hs.length<1000000000->ACallsTo TC 50 [.vsl 32 (zo hs) ex] J (.agg (zj (z13 hs))) J:=by
 induction f with
 |zero=>intro J hs ex h;omega
 |succ f ih=>
  intro J hs ex hf hH hl
  have hc:=zm (z13 hs)
  rw [z2l hH]at hc
  have hrl:=z2f hs
  by_cases h0:hs.length=0
  ·obtain rfl:hs=[]:=List.eq_nil_of_length_eq_zero h0
   rw [zba]at hc ⊢
   refine ACallsTo.of_body qiok (by simp) fun hw _=> ?_
   repeat' (first|apply zs_|apply zb_|apply zc_|apply zt_ rfl|apply zf_ rfl|(refine zd_ rfl ?_ ?_<;>intro ht<;>try omega)|((first|apply zr_|apply zk_|apply ze_|apply zq_|(apply callW.mk_pu;(first|exact(fun _=>z74 _ [] (by simp))))|(apply callW.za;(first|exact(z74 _ [] (by simp))))|(apply zG<;>intro ht));all_goals try simp (disch:=first|omega|(simp only [lens];first|done|omega)) only [go_sem,hc,hrl]))
   exact DownV.pure hw (z2k (z2b _))
  ·by_cases h1:hs.length=1
   ·obtain⟨x,rfl⟩:=List.length_eq_one_iff.1 h1
    rw [zr2]at hc ⊢
    refine ACallsTo.of_body qiok (by simp) fun hw _=> ?_
    simp only [zo,List.map_cons,List.map_nil]
    repeat' (first|apply zs_|apply zb_|apply zc_|apply zt_ rfl|apply zf_ rfl|(refine zd_ rfl ?_ ?_<;>intro ht<;>try omega)|((first|apply zr_|apply zk_|apply ze_|apply zq_|(apply zG<;>intro ht));all_goals try simp (disch:=first|omega|(simp only [lens];first|done|omega)) only [go_sem,hc]))
    exact DownV.pure hw (z2k (z2b _))
   ·obtain⟨s1,s2,s3⟩:=z3a (n:=hs.length) (by omega)
    have hsp:=fun J=>z9a J hs.length (by omega)
    have eL:=z7w (l:=hs) (by omega)
    have n1:=z2l (hH.take (zu hs.length))
    have n2:=z2l (hH.drop (zu hs.length))
    have i1:=fun J ex=>ih J (hs.take (zu hs.length)) ex (by rw [List.length_take];omega) (hH.take _) (by rw [List.length_take];omega)
    have i2:=fun J ex=>ih J (hs.drop (zu hs.length)) ex (by rw [List.length_drop];omega) (hH.drop _) (by rw [List.length_drop];omega)
    rw [eL]at hc ⊢
    have tk:=zcu hs (zu hs.length)
    have dk:=zct hs (zu hs.length)
    generalize z13 (hs.take (zu hs.length))=A at*
    generalize z13 (hs.drop (zu hs.length))=B at*
    generalize zo (hs.take (zu hs.length))=ra at*
    generalize zo (hs.drop (zu hs.length))=rb at*
    generalize zo hs=rows at*
    generalize zu hs.length=k at*
    have k0:¬(hs.length:Int)=0:=by omega
    have k1:¬(hs.length:Int)=1:=by omega
    refine ACallsTo.of_body qiok (by simp) fun hw _=> ?_
    repeat' (first|refine zs_ ?_|refine zb_ ?_|refine zc_ ?_|refine zt_ rfl ?_|refine zf_ rfl ?_|(refine zd_ rfl (fun ht=> ?_) (fun ht=> ?_)<;>try (exfalso;omega))|((first|refine zW.regS ?_|refine zk_ ?_|refine ze_ ?_|refine zq_ ?_|(apply callW.mk_pu;(first|exact(fun _=>hsp _)|exact(fun _=>i1 _ _)|exact(fun _=>i2 _ _)|exact(fun _=>zdt _ _ _ n1 n2)))|(apply callW.za;(first|exact(hsp _)|exact(i1 _ _)|exact(i2 _ _)|exact(zdt _ _ _ n1 n2)))|(apply zG<;>intro ht));all_goals try simp (disch:=first|omega|(simp only [lens];first|done|omega)) only [go_sem,hc,hrl,tk,dk]))
    exact DownV.pure hw (z2k (z2b _))
theorem zb3(J:Store)(hs:List (List UInt8))(x:AV)(hx:SlV 32 (zo hs) x)(hH:H32 hs)(hl:hs.length<1000000000):ACallsTo TC 50 [x] J (.agg (zj (z13 hs))) J:=by
 rcases hx with⟨rfl,h⟩| ⟨ex,rfl⟩
 ·obtain rfl:=hrows_nil.1 h
  have hc:=zm (z13 [])
  rw [z2l hH]at hc
  rw [zba]at hc ⊢
  refine ACallsTo.of_body qiok (by simp) fun hw _=> ?_
  repeat' (first|apply zs_|apply zb_|apply zc_|apply zt_ rfl|apply zf_ rfl|(refine zd_ rfl ?_ ?_<;>intro ht<;>try omega)|((first|apply zr_|apply zk_|apply ze_|apply zq_|(apply callW.mk_pu;(first|exact(fun _=>z74 _ [] (by simp))))|(apply callW.za;(first|exact(z74 _ [] (by simp))))|(apply zG<;>intro ht));all_goals try simp (disch:=first|omega|(simp only [lens];first|done|omega)) only [go_sem,hc]))
  exact DownV.pure hw (z2k (z2b _))
 ·exact zqv (hs.length+1) J hs ex (by omega) hH hl
end
section
def RdSl(J:Store)(sz:Nat)(es:List (List AV))(x:AV):Prop:=
 SlV sz es x \/ ∃r off lim o,x= .sl r off es.length lim sz/\ J[r]? =some (some o)/\ off+es.length<=o.length/\ (o.drop off).take es.length=es
theorem RdSl.of{J:Store}{sz:Nat}{es:List (List AV)}{x:AV}(h:SlV sz es x):RdSl J sz es x:= .inl h
theorem OwnN.rd{sz:Nat}{τ J':Store}{v:AV}{es:List (List AV)}(h:OwnN sz τ J' v es):RdSl J' sz es v:=by
 by_cases h0:es=[]
 ·obtain⟨news,rfl,⟨rfl,rfl⟩| ⟨j,h1,_⟩⟩:=h
  ·exact .inl (.inl ⟨rfl,rfl⟩)
  ·exact absurd h0 h1
 ·obtain⟨r,rfl,hg,_⟩:=h.sl h0
  exact .inr ⟨r,0,none,es,rfl,hg,by omega,by rw [List.drop_zero,List.take_of_length_le (Nat.le_refl _)]⟩
theorem RdSl.app{J y:Store}{sz:Nat}{es:List (List AV)}{x:AV}(h:RdSl J sz es x):RdSl (J++y) sz es x:=by
 rcases h with h| ⟨r,off,lim,o,rfl,hg,h1,h2⟩
 ·exact .inl h
 ·exact .inr ⟨r,off,lim,o,rfl,by rw [gapp (List.getElem?_eq_some_iff.1 hg).1];exact hg,h1,h2⟩
theorem RdSl.len{J:Store}{sz:Nat}{es:List (List AV)}{x:AV}(h:RdSl J sz es x):z1h x=some (.int .i64 es.length):=by
 rcases h with h| ⟨r,off,lim,o,rfl,_⟩
 ·exact h.len
 ·rfl
theorem RdSl.lend{J:Store}{sz:Nat}{es:List (List AV)}{x:AV}(h:RdSl J sz es x)(hr:RLss 0 es):∃x0,SlV sz es x0/\ DR (z3t J) x0 x:=by
 rcases h with h| ⟨r,off,lim,o,rfl,hg,h1,h2⟩
 ·refine⟨x,h,DR.refl (k:=0) (by omega) x ?_⟩
  rcases h with⟨rfl,_⟩| ⟨ex,rfl⟩
  ·simp [RL]
  ·simpa only [RL]using hr
 ·refine⟨.vsl sz es false,.inr ⟨false,rfl⟩,?_⟩
  simp only [DR,z3t]
  exact .inr (.inl ⟨r,off,lim,o,rfl,trivial,hg,h1,by simp,by rw [h2];exact DRss.refl (k:=0) (by omega) es hr⟩)
theorem zoh{J:Store}{r i off cap esz:Nat}{o es:List (List AV)}{cs rest:List AV}(hg:J[r]? =some (some o))(hi:o[i]? =some cs)(ho:off<=cs.length)(hd:cs.drop off=es.flatten++rest)(he:∀e ∈ es,e.length=esz)(hn:es.length ≠ 0)(hr:RLss 0 es):
  DR (z3t J) (.vsl esz es false) (.asl r i off es.length cap esz):=by
 simp only [DR,z3t]
 exact .inr (.inr ⟨r,i,off,cap,o,cs,es,rest,rfl,trivial,hg,hi,ho,hd,he,hn,by simp,DRss.refl (k:=0) (by omega) es hr⟩)
theorem rl0{a:AV}(h:RL 0 a)(J:Store):DR (z3t J) a a:=DR.refl (k:=0) (by omega) a h
theorem drs1{D:DC}{a b:AV}(h:DR D a b):DRs D [a] [b]:=by simp only [DRs];exact⟨b,[],rfl,h,rfl⟩
theorem drsc{D:DC}{a b:AV}{l m:List AV}(h:DR D a b)(h2:DRs D l m):DRs D (a::l) (b::m):=by simp only [DRs];exact⟨b,m,rfl,h,h2⟩
theorem ze8(k:Nat):∀(l:List UInt8),shs k (zj l)=zj l
 | []=>rfl
 |b::l=>by have:=ze8 k l;simp only [zj]at this;simp [zj,shs,sh,this]
theorem zix(k:Nat)(l:List UInt8):sh k (.agg (zj l))= .agg (zj l):=by simp only [sh,ze8]
theorem z6k(k:Nat):shS k []=[]:=rfl
theorem zso(J:Store)(hs:List (List UInt8))(x:AV)(hx:RdSl J 32 (zo hs) x)(hH:H32 hs)(hl:hs.length<1000000000):ACallsTo TC 39 [x] J (.agg (zj (z13 hs))) J:=by
 obtain⟨x0,h0,hd⟩:=hx.lend (z6i hs)
 have:=ACallsTo.lend glok (z9o [] hs x0 h0 hH hl) (drs1 hd)
 rwa [zix,z6k,List.append_nil]at this
theorem zqu(J:Store)(hs:List (List UInt8))(x:AV)(hx:RdSl J 32 (zo hs) x)(hH:H32 hs)(hl:hs.length<1000000000):ACallsTo TC 50 [x] J (.agg (zj (z13 hs))) J:=by
 obtain⟨x0,h0,hd⟩:=hx.lend (z6i hs)
 have:=ACallsTo.lend glok (zb3 [] hs x0 h0 hH hl) (drs1 hd)
 rwa [zix,z6k,List.append_nil]at this
theorem z6w:∀(a b:List UInt8),z23 (zj a) (zj b)=decide (a=b)
 | [],[]=>rfl
 | [],_::_=>rfl
 | _::_,[]=>rfl
 |a::l,b::m=>by
  have ih:=z6w l m
  simp only [zj,List.map_cons,z23,z6v]at ih ⊢
  rw [ih,Bool.eq_iff_iff]
  simp [<-UInt8.toNat_inj]
  intro _
  omega
theorem zhf:∀(l:List UInt8),(zj l).map z1e=List.replicate l.length (some (LK.i .u8))
 | []=>rfl
 | _::l=>by have:=zhf l;simp only [zj]at this;simp [zj,z1e,this,List.replicate_succ]
theorem z4b{l:List UInt8}(h:l.length=32):(zj l).map z1e=(List.replicate 32 (LK.i .u8)).map some:=by rw [zhf,h];rfl
end
section
set_option maxRecDepth 10000
@[go_sem] def qnr0:List AIns:=[
 yI 4 (.mv (.v .nilsl)),
 yI 5 (.mv (.v (.int .i64 0)))]
@[go_sem] def qnr1:List AIns:=[
 yM 9 1,
 yI 10 (.bin .lss .none (.t 9) (.v (.int .i64 0))),
 yM 11 10,
 yG 12 11 false (.mv (.t 1)),
 yG 13 11 false (.mv (.t 0)),
 yG 14 11 false (.lenSl (.t 13)),
 yG 15 11 false (.bin .gtr .none (.t 12) (.t 14)),
 yI 16 (.pick (.t 11) (.v (.bool true)) (.t 15)),
 yM 8 16]
@[go_sem] def qnr2:List AIns:=[
 yI 4 (.mv (.v .nilsl)),
 yI 5 (.mv (.v (.int .i64 2)))]
def qnc3:ACode:= .seq (.reg qnr2) .ret
@[go_sem] def qnr4:List AIns:=[
 yM 18 1,
 yI 19 (.bin .eql .none (.t 18) (.v (.int .i64 0))),
 yM 20 19,
 yG 21 20 false (.mv (.t 1)),
 yG 22 20 false (.mv (.t 0)),
 yG 23 20 false (.lenSl (.t 22)),
 yG 24 20 false (.bin .eql .none (.t 21) (.t 23)),
 yI 25 (.pick (.t 20) (.v (.bool true)) (.t 24)),
 yM 17 25]
@[go_sem] def qnr5:List AIns:=[
 yI 4 (.mv (.v .nilsl)),
 yI 5 (.mv (.v (.int .i64 0)))]
def qnc6:ACode:= .seq (.reg qnr5) .ret
def qnc7:ACode:= .cond (.t 17) qnc6 .skip
def qnc8:ACode:= .seq (.reg qnr4) qnc7
def qnc9:ACode:= .cond (.t 8) qnc3 qnc8
def qnc10:ACode:= .seq (.reg qnr1) qnc9
@[go_sem] def qnr11:List AIns:=[
 yI 6 (.alloc [.nilsl])]
@[go_sem] def qnr12:List AIns:=[
 yI 7 (.alloc [.nilfn])]
@[go_sem] def qnr13:List AIns:=[
 yI 26 (.mkfn 81 [(.t 6),(.t 7)]),
 ⟨none,none,.no,.store 1 (.t 7) (.t 26)⟩]
@[go_sem] def qnr14:List AIns:=[
 yI 27 (.load false 1 (.t 7)),
 yM 28 0,
 yM 29 1,
 yI 30 (.call (.t 27) [(.t 28),(.t 29),(.v (.bool true))])]
@[go_sem] def qnr15:List AIns:=[
 yI 31 (.load false 1 (.t 6)),
 yM 4 31,
 yI 5 (.mv (.v (.int .i64 0)))]
def qnc16:ACode:= .seq (.reg qnr15) .ret
def qnc17:ACode:= .seq (.reg qnr14) qnc16
def qnc18:ACode:= .seq (.reg qnr13) qnc17
def qnc19:ACode:= .seq (.reg qnr12) qnc18
def qnc20:ACode:= .seq (.reg qnr11) qnc19
def qnc21:ACode:= .seq (.block 0 qnc10) qnc20
def qnc22:ACode:= .seq (.reg qnr0) qnc21
theorem qnok:cFn TC 35=some (32,[.t 4,.t 5],qnc22):=by kernel_rfl
@[go_sem] def qor0:List AIns:=[
 yI 4 (.mv (.v .nilsl)),
 yI 5 (.mv (.v (.int .i64 0)))]
@[go_sem] def qor1:List AIns:=[
 yM 6 1,
 yI 7 (.bin .lss .none (.t 6) (.v (.int .i64 0))),
 yM 8 7,
 yG 9 8 false (.mv (.t 1)),
 yG 10 8 false (.mv (.t 0)),
 yG 11 8 false (.lenSl (.t 10)),
 yG 12 8 false (.bin .gtr .none (.t 9) (.t 11)),
 yI 13 (.pick (.t 8) (.v (.bool true)) (.t 12))]
@[go_sem] def qor2:List AIns:=[
 yI 4 (.mv (.v .nilsl)),
 yI 5 (.mv (.v (.int .i64 2)))]
def qoc3:ACode:= .seq (.reg qor2) .ret
def qoc4:ACode:= .cond (.t 13) qoc3 .skip
def qoc5:ACode:= .seq (.reg qor1) qoc4
@[go_sem] def qor6:List AIns:=[
 yM 14 1,
 yI 15 (.bin .eql .none (.t 14) (.v (.int .i64 0)))]
@[go_sem] def qor7:List AIns:=[
 yI 4 (.mv (.v .nilsl)),
 yI 5 (.mv (.v (.int .i64 0)))]
def qoc8:ACode:= .seq (.reg qor7) .ret
def qoc9:ACode:= .cond (.t 15) qoc8 .skip
def qoc10:ACode:= .seq (.reg qor6) qoc9
@[go_sem] def qor11:List AIns:=[
 yM 16 0,
 yM 17 1,
 yI 18 (.call (.v (.fn 119 [])) [(.t 16),(.t 17),(.v (.bool true))]),
 yM 4 18,
 yI 5 (.mv (.v (.int .i64 0)))]
def qoc12:ACode:= .seq (.reg qor11) .ret
def qoc13:ACode:= .seq qoc10 qoc12
def qoc14:ACode:= .seq qoc5 qoc13
def qoc15:ACode:= .seq (.reg qor0) qoc14
theorem qook:cFn TC 89=some (19,[.t 4,.t 5],qoc15):=by kernel_rfl
@[go_sem] def qpr0:List AIns:=[
 yI 7 (.box (.t 2)),
 yI 8 (.box (.t 3)),
 yI 9 (.box (.t 4)),
 yI 10 (.mv (.v (.int .i64 0)))]
@[go_sem] def qpr1:List AIns:=[
 yM 21 1,
 yI 22 (.bin .lss .none (.t 21) (.v (.int .i64 0))),
 yM 23 22,
 yG 24 23 false (.mv (.t 1)),
 yG 25 23 false (.bin .gtr .none (.t 24) (.v (.int .i64 4096))),
 yI 26 (.pick (.t 23) (.v (.bool true)) (.t 25)),
 yM 27 26,
 yG 28 27 false (.mv (.t 0)),
 yG 29 27 false (.bin .lss .none (.t 28) (.v (.int .i64 0))),
 yI 30 (.pick (.t 27) (.v (.bool true)) (.t 29)),
 yM 31 30,
 yG 32 31 false (.mv (.t 0)),
 yG 33 31 false (.mv (.t 1)),
 yG 34 31 false (.bin .gtr .none (.t 32) (.t 33)),
 yI 35 (.pick (.t 31) (.v (.bool true)) (.t 34)),
 yM 20 35]
@[go_sem] def qpr2:List AIns:=[
 yI 10 (.mv (.v (.int .i64 2)))]
def qpc3:ACode:= .seq (.reg qpr2) .ret
@[go_sem] def qpr4:List AIns:=[
 yM 37 0,
 yI 38 (.bin .eql .none (.t 37) (.v (.int .i64 0))),
 yM 36 38]
@[go_sem] def qpr5:List AIns:=[
 yI 39 (.load false 1 (.t 9)),
 yI 40 (.lenSl (.t 39)),
 yI 41 (.bin .eql .none (.t 40) (.v (.int .i64 0))),
 yM 42 41,
 ⟨some 43,some (42,true),.rd,.load true 32 (.t 7)⟩,
 ⟨some 44,some (42,true),.ef,.call (.v (.fn 39 [])) [(.v .nilsl)]⟩,
 yG 45 42 true (.bin .eql (.agg (List.replicate 32 (.i .u8)++ [])) (.t 43) (.t 44)),
 yI 46 (.pick (.t 42) (.t 45) (.v (.bool false))),
 yM 47 46,
 yG 48 47 true (.mv (.t 1)),
 yG 49 47 true (.bin .gtr .none (.t 48) (.v (.int .i64 0))),
 yG 50 47 true (.mv (.t 49)),
 ⟨some 51,some (50,false),.rd,.load true 32 (.t 8)⟩,
 ⟨some 52,some (50,false),.rd,.load true 32 (.t 7)⟩,
 yG 53 50 false (.bin .eql (.agg (List.replicate 32 (.i .u8)++ [])) (.t 51) (.t 52)),
 yG 54 47 true (.pick (.t 50) (.v (.bool true)) (.t 53)),
 yI 55 (.pick (.t 47) (.t 54) (.v (.bool false))),
 yI 56 (.call (.v (.fn 94 [])) [(.t 55)]),
 yM 10 56]
def qpc6:ACode:= .seq (.reg qpr5) .ret
@[go_sem] def qpr7:List AIns:=[
 yM 58 0,
 yM 59 1,
 yI 60 (.bin .eql .none (.t 58) (.t 59)),
 yM 57 60]
@[go_sem] def qpr8:List AIns:=[
 yI 61 (.load false 1 (.t 9)),
 yI 62 (.lenSl (.t 61)),
 yI 63 (.bin .eql .none (.t 62) (.v (.int .i64 0))),
 yM 64 63,
 yG 65 64 true (.load true 32 (.t 7)),
 yG 66 64 true (.load true 32 (.t 8)),
 yG 67 64 true (.bin .eql (.agg (List.replicate 32 (.i .u8)++ [])) (.t 65) (.t 66)),
 yI 68 (.pick (.t 64) (.t 67) (.v (.bool false))),
 yI 69 (.call (.v (.fn 94 [])) [(.t 68)]),
 yM 10 69]
def qpc9:ACode:= .seq (.reg qpr8) .ret
def qpc10:ACode:= .cond (.t 57) qpc9 .skip
def qpc11:ACode:= .seq (.reg qpr7) qpc10
def qpc12:ACode:= .cond (.t 36) qpc6 qpc11
def qpc13:ACode:= .seq (.reg qpr4) qpc12
def qpc14:ACode:= .cond (.t 20) qpc3 qpc13
def qpc15:ACode:= .seq (.reg qpr1) qpc14
@[go_sem] def qpr16:List AIns:=[
 yM 70 0,
 yI 71 (.bin .sub .none (.t 70) (.v (.int .i64 1))),
 yM 72 1,
 yI 73 (.bin .sub .none (.t 72) (.v (.int .i64 1))),
 yM 11 71,
 yM 12 73]
@[go_sem] def qpr17:List AIns:=[
 yM 74 11,
 yI 75 (.bin .rem .none (.t 74) (.v (.int .i64 2))),
 yI 76 (.bin .eql .none (.t 75) (.v (.int .i64 1)))]
def qpc18:ACode:= .cond (.t 76) .skip (.exit 1)
def qpc19:ACode:= .seq (.reg qpr17) qpc18
@[go_sem] def qpr20:List AIns:=[
 yM 77 11,
 yI 78 (.bin .quo .none (.t 77) (.v (.int .i64 2))),
 yM 79 12,
 yI 80 (.bin .quo .none (.t 79) (.v (.int .i64 2))),
 yM 11 78,
 yM 12 80]
def qpc21:ACode:= .block 2 (.reg qpr20)
def qpc22:ACode:= .seq qpc19 qpc21
def qpc23:ACode:= .loop qpc22
@[go_sem] def qpr24:List AIns:=[
 yI 81 (.mkfn 95 [(.t 9)]),
 yM 13 81]
@[go_sem] def qpr25:List AIns:=[
 ⟨some 82,none,.rd,.load true 32 (.t 7)⟩,
 ⟨some 83,none,.rd,.load true 32 (.t 7)⟩,
 ⟨some 14,none,.ef,.alloc zZ0⟩,
 ⟨some 15,none,.ef,.alloc zZ0⟩,
 ⟨none,none,.ef,.store 32 (.t 14) (.t 82)⟩,
 ⟨none,none,.no,.store 32 (.t 15) (.t 83)⟩]
@[go_sem] def qpr26:List AIns:=[
 ⟨some 82,none,.rd,.load true 32 (.t 7)⟩,
 ⟨some 83,none,.rd,.load true 32 (.t 7)⟩,
 ⟨some 15,none,.ef,.alloc zZ0⟩,
 ⟨some 14,none,.ef,.alloc zZ0⟩,
 ⟨none,none,.ef,.store 32 (.t 14) (.t 82)⟩,
 ⟨none,none,.no,.store 32 (.t 15) (.t 83)⟩]
@[go_sem] def qpr27:List AIns:=[
 yM 84 11,
 yI 85 (.bin .gtr .none (.t 84) (.v (.int .i64 0)))]
@[go_sem] def qpr28:List AIns:=[
 yM 87 13,
 yI 88 (.call (.t 87) []),
 yM 86 88,
 yI 89 (.ext 0 (.t 86)),
 yI 90 (.ext 1 (.t 86)),
 yI 16 (.alloc zZ0),
 ⟨none,none,.no,.store 32 (.t 16) (.t 89)⟩,
 yM 17 90]
@[go_sem] def qpr29:List AIns:=[
 yM 91 17,
 yI 92 (.un .not (.t 91))]
@[go_sem] def qpr30:List AIns:=[
 yI 10 (.mv (.v (.int .i64 80)))]
def qpc31:ACode:= .seq (.reg qpr30) .ret
def qpc32:ACode:= .cond (.t 92) qpc31 .skip
def qpc33:ACode:= .seq (.reg qpr29) qpc32
@[go_sem] def qpr34:List AIns:=[
 ⟨some 93,none,.rd,.load true 32 (.t 16)⟩,
 ⟨some 94,none,.rd2,.load true 32 (.t 16)⟩,
 ⟨none,none,.ef2,.store 32 (.t 14) (.t 93)⟩,
 ⟨none,none,.no,.store 32 (.t 15) (.t 94)⟩]
def qpc35:ACode:= .seq qpc33 (.reg qpr34)
def qpc36:ACode:= .seq (.reg qpr28) qpc35
def qpc37:ACode:= .cond (.t 85) qpc36 .skip
def qpc38:ACode:= .seq (.reg qpr27) qpc37
@[go_sem] def qpr39:List AIns:=[
 yM 95 12,
 yI 96 (.bin .gtr .none (.t 95) (.v (.int .i64 0)))]
def qpc40:ACode:= .cond (.t 96) .skip (.exit 3)
def qpc41:ACode:= .seq (.reg qpr39) qpc40
@[go_sem] def qpr42:List AIns:=[
 yM 98 13,
 yI 99 (.call (.t 98) []),
 yM 97 99,
 yI 100 (.ext 0 (.t 97)),
 yI 101 (.ext 1 (.t 97)),
 yI 18 (.alloc zZ0),
 ⟨none,none,.no,.store 32 (.t 18) (.t 100)⟩,
 yM 19 101]
@[go_sem] def qpr43:List AIns:=[
 yM 106 19,
 yI 107 (.un .not (.t 106)),
 yM 105 107]
@[go_sem] def qpr44:List AIns:=[
 yI 10 (.mv (.v (.int .i64 80)))]
def qpc45:ACode:= .seq (.reg qpr44) .ret
@[go_sem] def qpr46:List AIns:=[
 yM 109 11,
 yI 110 (.bin .rem .none (.t 109) (.v (.int .i64 2))),
 yI 111 (.bin .eql .none (.t 110) (.v (.int .i64 1))),
 yM 112 111,
 yG 113 112 false (.mv (.t 11)),
 yG 114 112 false (.mv (.t 12)),
 yG 115 112 false (.bin .eql .none (.t 113) (.t 114)),
 yI 116 (.pick (.t 112) (.v (.bool true)) (.t 115)),
 yM 108 116]
@[go_sem] def qpr47:List AIns:=[
 ⟨some 117,none,.rd,.load true 32 (.t 18)⟩,
 ⟨some 118,none,.rd,.load true 32 (.t 14)⟩,
 ⟨some 119,none,.ef,.call (.v (.fn 88 [])) [(.t 117),(.t 118)]⟩,
 ⟨some 120,none,.rd,.load true 32 (.t 18)⟩,
 ⟨some 121,none,.rd,.load true 32 (.t 15)⟩,
 yI 122 (.call (.v (.fn 88 [])) [(.t 120),(.t 121)]),
 ⟨none,none,.no,.store 32 (.t 14) (.t 119)⟩,
 ⟨none,none,.no,.store 32 (.t 15) (.t 122)⟩]
@[go_sem] def qpr48:List AIns:=[
 yM 123 11,
 yI 124 (.bin .rem .none (.t 123) (.v (.int .i64 2))),
 yI 125 (.bin .eql .none (.t 124) (.v (.int .i64 0))),
 yM 126 125,
 yG 127 126 true (.mv (.t 11)),
 yG 128 126 true (.bin .gtr .none (.t 127) (.v (.int .i64 0))),
 yI 129 (.pick (.t 126) (.t 128) (.v (.bool false)))]
def qpc49:ACode:= .cond (.t 129) .skip (.exit 6)
def qpc50:ACode:= .seq (.reg qpr48) qpc49
@[go_sem] def qpr51:List AIns:=[
 yM 130 11,
 yI 131 (.bin .quo .none (.t 130) (.v (.int .i64 2))),
 yM 132 12,
 yI 133 (.bin .quo .none (.t 132) (.v (.int .i64 2))),
 yM 11 131,
 yM 12 133]
def qpc52:ACode:= .block 7 (.reg qpr51)
def qpc53:ACode:= .seq qpc50 qpc52
def qpc54:ACode:= .loop qpc53
def qpc55:ACode:= .block 6 qpc54
def qpc56:ACode:= .seq (.reg qpr47) qpc55
@[go_sem] def qpr57:List AIns:=[
 yI 102 (.load true 32 (.t 15)),
 yI 103 (.load true 32 (.t 18)),
 yI 104 (.call (.v (.fn 88 [])) [(.t 102),(.t 103)]),
 ⟨none,none,.no,.store 32 (.t 15) (.t 104)⟩]
def qpc58:ACode:= .cond (.t 108) qpc56 (.reg qpr57)
def qpc59:ACode:= .seq (.reg qpr46) qpc58
def qpc60:ACode:= .cond (.t 105) qpc45 qpc59
def qpc61:ACode:= .seq (.reg qpr43) qpc60
def qpc62:ACode:= .block 5 qpc61
def qpc63:ACode:= .seq (.reg qpr42) qpc62
@[go_sem] def qpr64:List AIns:=[
 yM 134 11,
 yI 135 (.bin .quo .none (.t 134) (.v (.int .i64 2))),
 yM 136 12,
 yI 137 (.bin .quo .none (.t 136) (.v (.int .i64 2))),
 yM 11 135,
 yM 12 137]
def qpc65:ACode:= .seq qpc63 (.reg qpr64)
def qpc66:ACode:= .block 4 qpc65
def qpc67:ACode:= .seq qpc41 qpc66
def qpc68:ACode:= .loop qpc67
@[go_sem] def qpr69:List AIns:=[
 yI 138 (.load false 1 (.t 9)),
 yI 139 (.lenSl (.t 138)),
 yI 140 (.bin .eql .none (.t 139) (.v (.int .i64 0))),
 yM 141 140,
 yG 142 141 true (.load true 32 (.t 14)),
 yG 143 141 true (.load true 32 (.t 7)),
 yG 144 141 true (.bin .eql (.agg (List.replicate 32 (.i .u8)++ [])) (.t 142) (.t 143)),
 yI 145 (.pick (.t 141) (.t 144) (.v (.bool false))),
 yM 146 145,
 yG 147 146 true (.load true 32 (.t 15)),
 yG 148 146 true (.load true 32 (.t 8)),
 yG 149 146 true (.bin .eql (.agg (List.replicate 32 (.i .u8)++ [])) (.t 147) (.t 148)),
 yI 150 (.pick (.t 146) (.t 149) (.v (.bool false))),
 yI 151 (.call (.v (.fn 94 [])) [(.t 150)]),
 yM 10 151]
def qpc70:ACode:= .seq (.reg qpr69) .ret
def zdk:ACode:= .seq (.block 3 qpc68) qpc70
def qpc72:ACode:= .seq qpc38 zdk
def qpc73:ACode:= .seq (.reg2 qpr25 qpr26) qpc72
def qpc74:ACode:= .seq (.reg qpr24) qpc73
def qpc75:ACode:= .seq (.block 1 qpc23) qpc74
def qpc76:ACode:= .seq (.reg qpr16) qpc75
def qpc77:ACode:= .seq (.block 0 qpc15) qpc76
def qpc78:ACode:= .seq (.reg qpr0) qpc77
theorem qpok:cFn TC 46=some (152,[.t 10],qpc78):=by kernel_rfl
@[go_sem] def qqr0:List AIns:=[
 yI 7 (.box (.t 2)),
 yI 8 (.box (.t 3)),
 yI 10 (.mv (.v (.int .i64 0)))]
@[go_sem] def qqr1:List AIns:=[
 yM 15 1,
 yI 16 (.bin .lss .none (.t 15) (.v (.int .i64 0))),
 yM 17 16,
 yG 18 17 false (.mv (.t 1)),
 yG 19 17 false (.bin .gtr .none (.t 18) (.v (.int .i64 4096))),
 yI 20 (.pick (.t 17) (.v (.bool true)) (.t 19)),
 yM 21 20,
 yG 22 21 false (.mv (.t 0)),
 yG 23 21 false (.bin .lss .none (.t 22) (.v (.int .i64 0))),
 yI 24 (.pick (.t 21) (.v (.bool true)) (.t 23)),
 yM 25 24,
 yG 26 25 false (.mv (.t 0)),
 yG 27 25 false (.mv (.t 1)),
 yG 28 25 false (.bin .gtr .none (.t 26) (.t 27)),
 yI 29 (.pick (.t 25) (.v (.bool true)) (.t 28))]
@[go_sem] def qqr2:List AIns:=[
 yI 10 (.mv (.v (.int .i64 2)))]
def qqc3:ACode:= .seq (.reg qqr2) .ret
def qqc4:ACode:= .cond (.t 29) qqc3 .skip
def qqc5:ACode:= .seq (.reg qqr1) qqc4
@[go_sem] def qqr6:List AIns:=[
 yI 11 (.mv (.v (.bool false)))]
@[go_sem] def qqr7:List AIns:=[
 yM 30 0,
 yI 31 (.bin .eql .none (.t 30) (.v (.int .i64 0)))]
@[go_sem] def qqr8:List AIns:=[
 yM 32 4,
 yI 33 (.lenSl (.t 32)),
 yI 34 (.bin .eql .none (.t 33) (.v (.int .i64 0))),
 yM 35 34,
 ⟨some 36,some (35,true),.rd,.load true 32 (.t 7)⟩,
 ⟨some 37,some (35,true),.ef,.call (.v (.fn 86 [])) [(.v (.str []))]⟩,
 yG 38 35 true (.bin .eql (.agg (List.replicate 32 (.i .u8)++ [])) (.t 36) (.t 37)),
 yI 39 (.pick (.t 35) (.t 38) (.v (.bool false))),
 yM 40 39,
 yG 41 40 true (.mv (.t 1)),
 yG 42 40 true (.bin .gtr .none (.t 41) (.v (.int .i64 0))),
 yG 43 40 true (.mv (.t 42)),
 ⟨some 44,some (43,false),.rd,.load true 32 (.t 7)⟩,
 ⟨some 45,some (43,false),.rd,.load true 32 (.t 8)⟩,
 yG 46 43 false (.bin .eql (.agg (List.replicate 32 (.i .u8)++ [])) (.t 44) (.t 45)),
 yG 47 40 true (.pick (.t 43) (.v (.bool true)) (.t 46)),
 yI 48 (.pick (.t 40) (.t 47) (.v (.bool false))),
 yM 11 48]
@[go_sem] def qqr9:List AIns:=[
 yM 49 0,
 yM 50 1,
 yI 51 (.bin .eql .none (.t 49) (.t 50))]
@[go_sem] def qqr10:List AIns:=[
 yM 52 4,
 yI 53 (.lenSl (.t 52)),
 yI 54 (.bin .eql .none (.t 53) (.v (.int .i64 0))),
 yM 55 54,
 yG 56 55 true (.load true 32 (.t 7)),
 yG 57 55 true (.load true 32 (.t 8)),
 yG 58 55 true (.bin .eql (.agg (List.replicate 32 (.i .u8)++ [])) (.t 56) (.t 57)),
 yI 59 (.pick (.t 55) (.t 58) (.v (.bool false))),
 yM 11 59]
@[go_sem] def qqr11:List AIns:=[
 yM 61 0,
 yM 62 1,
 yI 63 (.load true 32 (.t 7)),
 yM 64 4,
 yI 65 (.call (.v (.fn 98 [])) [(.t 61),(.t 62),(.v (.bool true)),(.t 63),(.t 64)]),
 yM 60 65,
 yI 66 (.ext 0 (.t 60)),
 yI 67 (.ext 1 (.t 60)),
 yI 68 (.ext 2 (.t 60)),
 yI 12 (.alloc zZ0),
 yI 13 (.alloc zZ0),
 ⟨none,none,.no,.store 32 (.t 12) (.t 66)⟩,
 ⟨none,none,.no,.store 32 (.t 13) (.t 67)⟩,
 yM 14 68]
@[go_sem] def qqr12:List AIns:=[
 yM 69 14,
 yM 70 69,
 yG 71 70 true (.load true 32 (.t 12)),
 yG 72 70 true (.load true 32 (.t 7)),
 yG 73 70 true (.bin .eql (.agg (List.replicate 32 (.i .u8)++ [])) (.t 71) (.t 72)),
 yI 74 (.pick (.t 70) (.t 73) (.v (.bool false))),
 yM 75 74,
 yG 76 75 true (.load true 32 (.t 13)),
 yG 77 75 true (.load true 32 (.t 8)),
 yG 78 75 true (.bin .eql (.agg (List.replicate 32 (.i .u8)++ [])) (.t 76) (.t 77)),
 yI 79 (.pick (.t 75) (.t 78) (.v (.bool false))),
 yM 11 79]
def qqc13:ACode:= .seq (.reg qqr11) (.reg qqr12)
def qqc14:ACode:= .cond (.t 51) (.reg qqr10) qqc13
def qqc15:ACode:= .seq (.reg qqr9) qqc14
def qqc16:ACode:= .cond (.t 31) (.reg qqr8) qqc15
def qqc17:ACode:= .seq (.reg qqr7) qqc16
@[go_sem] def qqr18:List AIns:=[
 yM 80 11,
 yI 81 (.un .not (.t 80))]
@[go_sem] def qqr19:List AIns:=[
 yI 10 (.mv (.v (.int .i64 80)))]
def qqc20:ACode:= .seq (.reg qqr19) .ret
def qqc21:ACode:= .cond (.t 81) qqc20 .skip
def qqc22:ACode:= .seq (.reg qqr18) qqc21
@[go_sem] def qqr23:List AIns:=[
 yI 10 (.mv (.v (.int .i64 0)))]
def qqc24:ACode:= .seq (.reg qqr23) .ret
def qqc25:ACode:= .seq qqc22 qqc24
def qqc26:ACode:= .seq qqc17 qqc25
def qqc27:ACode:= .seq (.reg qqr6) qqc26
def qqc28:ACode:= .seq qqc5 qqc27
def qqc29:ACode:= .seq (.reg qqr0) qqc28
theorem qqok:cFn TC 48=some (82,[.t 10],qqc29):=by kernel_rfl
@[go_sem] def qrr0:List AIns:=[
 yM 9 1,
 yM 10 0,
 yI 11 (.lenSl (.t 10)),
 yI 12 (.bin .eql .none (.t 9) (.t 11))]
@[go_sem] def qrr1:List AIns:=[
 yM 13 2,
 yI 14 (.un .not (.t 13))]
@[go_sem] def qrr2:List AIns:=[
 ⟨some 15,none,.rd,.load false 1 (.t 3)⟩,
 yM 16 0,
 ⟨some 17,none,.ef,.call (.v (.fn 39 [])) [(.t 16)]⟩,
 yI 18 (.lit 32 [(.t 17)]),
 yI 19 (.app 32 (.t 15) (.t 18)),
 ⟨none,none,.no,.store 1 (.t 3) (.t 19)⟩]
def qrc3:ACode:= .cond (.t 14) (.reg qrr2) .skip
def qrc4:ACode:= .seq (.reg qrr1) qrc3
def qrc5:ACode:= .seq qrc4 .ret
def qrc6:ACode:= .cond (.t 12) qrc5 .skip
def qrc7:ACode:= .seq (.reg qrr0) qrc6
@[go_sem] def qrr8:List AIns:=[
 yM 20 0,
 yI 21 (.lenSl (.t 20)),
 yI 22 (.call (.v (.fn 82 [])) [(.t 21)]),
 yM 8 22]
@[go_sem] def qrr9:List AIns:=[
 yM 23 1,
 yM 24 8,
 yI 25 (.bin .leq .none (.t 23) (.t 24))]
@[go_sem] def qrr10:List AIns:=[
 yI 26 (.load false 1 (.t 4)),
 yM 27 0,
 yM 28 8,
 yI 29 (.slice (.sl 32) (.t 27) none (some (.t 28)) none),
 yM 30 1,
 yM 31 2,
 yI 32 (.call (.t 26) [(.t 29),(.t 30),(.t 31)])]
@[go_sem] def qrr11:List AIns:=[
 ⟨some 33,none,.rd,.load false 1 (.t 3)⟩,
 yM 34 0,
 yM 35 8,
 yI 36 (.slice (.sl 32) (.t 34) (some (.t 35)) none none),
 ⟨some 37,none,.ef,.call (.v (.fn 39 [])) [(.t 36)]⟩,
 yI 38 (.lit 32 [(.t 37)]),
 yI 39 (.app 32 (.t 33) (.t 38)),
 ⟨none,none,.no,.store 1 (.t 3) (.t 39)⟩]
def qrc12:ACode:= .seq (.reg qrr11) .ret
def qrc13:ACode:= .seq (.reg qrr10) qrc12
def qrc14:ACode:= .cond (.t 25) qrc13 .skip
def qrc15:ACode:= .seq (.reg qrr9) qrc14
@[go_sem] def qrr16:List AIns:=[
 yI 40 (.load false 1 (.t 4)),
 yM 41 0,
 yM 42 8,
 yI 43 (.slice (.sl 32) (.t 41) (some (.t 42)) none none),
 yM 44 1,
 yM 45 8,
 yI 46 (.bin .sub .none (.t 44) (.t 45)),
 yI 47 (.call (.t 40) [(.t 43),(.t 46),(.v (.bool false))])]
@[go_sem] def qrr17:List AIns:=[
 ⟨some 48,none,.rd,.load false 1 (.t 3)⟩,
 yM 49 0,
 yM 50 8,
 yI 51 (.slice (.sl 32) (.t 49) none (some (.t 50)) none),
 ⟨some 52,none,.ef,.call (.v (.fn 39 [])) [(.t 51)]⟩,
 yI 53 (.lit 32 [(.t 52)]),
 yI 54 (.app 32 (.t 48) (.t 53)),
 ⟨none,none,.no,.store 1 (.t 3) (.t 54)⟩]
def qrc18:ACode:= .seq (.reg qrr16) (.reg qrr17)
def qrc19:ACode:= .seq qrc15 qrc18
def qrc20:ACode:= .seq (.reg qrr8) qrc19
def qrc21:ACode:= .seq qrc7 qrc20
theorem qrok:cFn TC 81=some (55,[],qrc21):=by kernel_rfl
@[go_sem] def qsr0:List AIns:=[
 yI 6 (.mv (.v .nilsl))]
@[go_sem] def qsr1:List AIns:=[
 yM 8 1,
 yM 9 0,
 yI 10 (.lenSl (.t 9)),
 yI 11 (.bin .eql .none (.t 8) (.t 10)),
 yM 12 11,
 yG 13 12 true (.mv (.t 2)),
 yI 14 (.pick (.t 12) (.t 13) (.v (.bool false)))]
@[go_sem] def qsr2:List AIns:=[
 yI 6 (.mv (.v .nilsl))]
def qsc3:ACode:= .seq (.reg qsr2) .ret
def qsc4:ACode:= .cond (.t 14) qsc3 .skip
def qsc5:ACode:= .seq (.reg qsr1) qsc4
@[go_sem] def qsr6:List AIns:=[
 yM 15 1,
 yM 16 0,
 yI 17 (.lenSl (.t 16)),
 yI 18 (.bin .eql .none (.t 15) (.t 17))]
@[go_sem] def qsr7:List AIns:=[
 yM 19 0,
 yI 20 (.call (.v (.fn 50 [])) [(.t 19)]),
 yI 21 (.lit 32 [(.t 20)]),
 yM 6 21]
def qsc8:ACode:= .seq (.reg qsr7) .ret
def qsc9:ACode:= .cond (.t 18) qsc8 .skip
def qsc10:ACode:= .seq (.reg qsr6) qsc9
@[go_sem] def qsr11:List AIns:=[
 yM 22 0,
 yI 23 (.lenSl (.t 22)),
 yI 24 (.call (.v (.fn 49 [])) [(.t 23)]),
 yM 7 24]
@[go_sem] def qsr12:List AIns:=[
 yM 25 1,
 yM 26 7,
 yI 27 (.bin .leq .none (.t 25) (.t 26))]
@[go_sem] def qsr13:List AIns:=[
 yM 28 0,
 yM 29 7,
 yI 30 (.slice (.sl 32) (.t 28) none (some (.t 29)) none),
 yM 31 1,
 yM 32 2,
 yI 33 (.call (.v (.fn 119 [])) [(.t 30),(.t 31),(.t 32)]),
 yM 34 0,
 yM 35 7,
 yI 36 (.slice (.sl 32) (.t 34) (some (.t 35)) none none),
 yI 37 (.call (.v (.fn 50 [])) [(.t 36)]),
 yI 38 (.lit 32 [(.t 37)]),
 yI 39 (.app 32 (.t 33) (.t 38)),
 yM 6 39]
def qsc14:ACode:= .seq (.reg qsr13) .ret
def qsc15:ACode:= .cond (.t 27) qsc14 .skip
def qsc16:ACode:= .seq (.reg qsr12) qsc15
@[go_sem] def qsr17:List AIns:=[
 yM 40 0,
 yM 41 7,
 yI 42 (.slice (.sl 32) (.t 40) (some (.t 41)) none none),
 yM 43 1,
 yM 44 7,
 yI 45 (.bin .sub .none (.t 43) (.t 44)),
 yI 46 (.call (.v (.fn 119 [])) [(.t 42),(.t 45),(.v (.bool false))]),
 yM 47 0,
 yM 48 7,
 yI 49 (.slice (.sl 32) (.t 47) none (some (.t 48)) none),
 yI 50 (.call (.v (.fn 50 [])) [(.t 49)]),
 yI 51 (.lit 32 [(.t 50)]),
 yI 52 (.app 32 (.t 46) (.t 51)),
 yM 6 52]
def qsc18:ACode:= .seq (.reg qsr17) .ret
def qsc19:ACode:= .seq qsc16 qsc18
def qsc20:ACode:= .seq (.reg qsr11) qsc19
def qsc21:ACode:= .seq qsc10 qsc20
def qsc22:ACode:= .seq qsc5 qsc21
def qsc23:ACode:= .seq (.reg qsr0) qsc22
theorem qsok:cFn TC 119=some (53,[.t 6],qsc23):=by kernel_rfl
@[go_sem] def qtr0:List AIns:=[
 yI 2 (.mv (.v (.int .i64 0)))]
@[go_sem] def qtr1:List AIns:=[
 yM 3 0,
 yI 4 (.un .not (.t 3))]
@[go_sem] def qtr2:List AIns:=[
 yI 2 (.mv (.v (.int .i64 80)))]
def qtc3:ACode:= .seq (.reg qtr2) .ret
def qtc4:ACode:= .cond (.t 4) qtc3 .skip
def qtc5:ACode:= .seq (.reg qtr1) qtc4
@[go_sem] def qtr6:List AIns:=[
 yI 2 (.mv (.v (.int .i64 0)))]
def qtc7:ACode:= .seq (.reg qtr6) .ret
def qtc8:ACode:= .seq qtc5 qtc7
def qtc9:ACode:= .seq (.reg qtr0) qtc8
theorem qtok:cFn TC 94=some (5,[.t 2],qtc9):=by kernel_rfl
@[go_sem] def qur0:List AIns:=[
 yI 1 (.alloc zZ0),
 yI 2 (.mv (.v (.bool false)))]
@[go_sem] def qur1:List AIns:=[
 yI 3 (.load false 1 (.t 0)),
 yI 4 (.lenSl (.t 3)),
 yI 5 (.bin .eql .none (.t 4) (.v (.int .i64 0)))]
@[go_sem] def qur2:List AIns:=[
 yI 6 (.load true 32 (.t 1)),
 ⟨none,none,.no,.store 32 (.t 1) (.t 6)⟩,
 yI 2 (.mv (.v (.bool false)))]
def quc3:ACode:= .seq (.reg qur2) .ret
def quc4:ACode:= .cond (.t 5) quc3 .skip
def quc5:ACode:= .seq (.reg qur1) quc4
@[go_sem] def qur6:List AIns:=[
 ⟨some 7,none,.rd,.load false 1 (.t 0)⟩,
 yI 8 (.iaSl 32 (.t 7) (.v (.int .i64 0))),
 ⟨some 9,none,.rd,.load true 32 (.t 8)⟩,
 ⟨some 10,none,.rd2,.load false 1 (.t 0)⟩,
 yI 11 (.slice (.sl 32) (.t 10) (some (.v (.int .i64 1))) none none),
 ⟨none,none,.ef2,.store 32 (.t 1) (.t 9)⟩,
 ⟨none,none,.no,.store 1 (.t 0) (.t 11)⟩]
@[go_sem] def qur7:List AIns:=[
 yI 12 (.load true 32 (.t 1)),
 ⟨none,none,.no,.store 32 (.t 1) (.t 12)⟩,
 yI 2 (.mv (.v (.bool true)))]
def quc8:ACode:= .seq (.reg qur7) .ret
def quc9:ACode:= .seq (.reg qur6) quc8
def quc10:ACode:= .seq quc5 quc9
def quc11:ACode:= .seq (.reg qur0) quc10
theorem quok:cFn TC 95=some (13,[.c 1 true 32,.t 2],quc11):=by kernel_rfl
@[go_sem] def qvr0:List AIns:=[
 yI 8 (.box (.t 3)),
 yI 10 (.alloc zZ0),
 yI 11 (.alloc zZ0),
 yI 12 (.mv (.v (.bool false)))]
@[go_sem] def qvr1:List AIns:=[
 yM 22 0,
 yM 23 1,
 yI 24 (.bin .eql .none (.t 22) (.t 23)),
 yM 25 24,
 yG 26 25 true (.mv (.t 2)),
 yI 27 (.pick (.t 25) (.t 26) (.v (.bool false)))]
@[go_sem] def qvr2:List AIns:=[
 ⟨some 28,none,.rd,.load true 32 (.t 8)⟩,
 ⟨some 29,none,.rd2,.load true 32 (.t 8)⟩,
 yM 30 4,
 yI 31 (.lenSl (.t 30)),
 yI 32 (.bin .eql .none (.t 31) (.v (.int .i64 0))),
 ⟨none,none,.ef2,.store 32 (.t 10) (.t 28)⟩,
 ⟨none,none,.no,.store 32 (.t 11) (.t 29)⟩,
 yM 12 32]
def qvc3:ACode:= .seq (.reg qvr2) .ret
def qvc4:ACode:= .cond (.t 27) qvc3 .skip
def qvc5:ACode:= .seq (.reg qvr1) qvc4
@[go_sem] def qvr6:List AIns:=[
 yM 33 0,
 yM 34 1,
 yI 35 (.bin .eql .none (.t 33) (.t 34))]
@[go_sem] def qvr7:List AIns:=[
 yM 36 4,
 yI 37 (.lenSl (.t 36)),
 yI 38 (.bin .neq .none (.t 37) (.v (.int .i64 1)))]
@[go_sem] def qvr8:List AIns:=[
 ⟨some 39,none,.rd,.load true 32 (.t 8)⟩,
 ⟨some 40,none,.rd2,.load true 32 (.t 8)⟩,
 ⟨none,none,.ef2,.store 32 (.t 10) (.t 39)⟩,
 ⟨none,none,.no,.store 32 (.t 11) (.t 40)⟩,
 yI 12 (.mv (.v (.bool false)))]
def qvc9:ACode:= .seq (.reg qvr8) .ret
def qvc10:ACode:= .cond (.t 38) qvc9 .skip
def qvc11:ACode:= .seq (.reg qvr7) qvc10
@[go_sem] def qvr12:List AIns:=[
 yM 41 4,
 yI 42 (.iaSl 32 (.t 41) (.v (.int .i64 0))),
 ⟨some 43,none,.rd,.load true 32 (.t 42)⟩,
 yM 44 4,
 yI 45 (.iaSl 32 (.t 44) (.v (.int .i64 0))),
 ⟨some 46,none,.rd2,.load true 32 (.t 45)⟩,
 ⟨none,none,.ef2,.store 32 (.t 10) (.t 43)⟩,
 ⟨none,none,.no,.store 32 (.t 11) (.t 46)⟩,
 yI 12 (.mv (.v (.bool true)))]
def qvc13:ACode:= .seq (.reg qvr12) .ret
def qvc14:ACode:= .seq qvc11 qvc13
def qvc15:ACode:= .cond (.t 35) qvc14 .skip
def qvc16:ACode:= .seq (.reg qvr6) qvc15
@[go_sem] def qvr17:List AIns:=[
 yM 47 4,
 yI 48 (.lenSl (.t 47)),
 yI 49 (.bin .eql .none (.t 48) (.v (.int .i64 0)))]
@[go_sem] def qvr18:List AIns:=[
 ⟨some 50,none,.rd,.load true 32 (.t 8)⟩,
 ⟨some 51,none,.rd2,.load true 32 (.t 8)⟩,
 ⟨none,none,.ef2,.store 32 (.t 10) (.t 50)⟩,
 ⟨none,none,.no,.store 32 (.t 11) (.t 51)⟩,
 yI 12 (.mv (.v (.bool false)))]
def qvc19:ACode:= .seq (.reg qvr18) .ret
def qvc20:ACode:= .cond (.t 49) qvc19 .skip
def qvc21:ACode:= .seq (.reg qvr17) qvc20
@[go_sem] def qvr22:List AIns:=[
 yM 52 1,
 ⟨some 53,none,.ef,.call (.v (.fn 49 [])) [(.t 52)]⟩,
 yM 54 4,
 yM 55 4,
 yI 56 (.lenSl (.t 55)),
 yI 57 (.bin .sub .none (.t 56) (.v (.int .i64 1))),
 yI 58 (.iaSl 32 (.t 54) (.t 57)),
 ⟨some 59,none,.rd,.load true 32 (.t 58)⟩,
 ⟨some 14,none,.ef,.alloc zZ0⟩,
 yM 13 53,
 ⟨none,none,.no,.store 32 (.t 14) (.t 59)⟩]
@[go_sem] def qvr23:List AIns:=[
 yM 52 1,
 ⟨some 14,none,.ef,.alloc zZ0⟩,
 ⟨some 53,none,.ef,.call (.v (.fn 49 [])) [(.t 52)]⟩,
 yM 54 4,
 yM 55 4,
 yI 56 (.lenSl (.t 55)),
 yI 57 (.bin .sub .none (.t 56) (.v (.int .i64 1))),
 yI 58 (.iaSl 32 (.t 54) (.t 57)),
 ⟨some 59,none,.rd,.load true 32 (.t 58)⟩,
 yM 13 53,
 ⟨none,none,.no,.store 32 (.t 14) (.t 59)⟩]
@[go_sem] def qvr24:List AIns:=[
 yM 60 4,
 yM 61 4,
 yI 62 (.lenSl (.t 61)),
 yI 63 (.bin .sub .none (.t 62) (.v (.int .i64 1))),
 yI 64 (.slice (.sl 32) (.t 60) none (some (.t 63)) none),
 yM 15 64]
@[go_sem] def qvr25:List AIns:=[
 yM 65 0,
 yM 66 13,
 yI 67 (.bin .leq .none (.t 65) (.t 66))]
@[go_sem] def qvr26:List AIns:=[
 yM 69 0,
 yM 70 13,
 yM 71 2,
 yI 72 (.load true 32 (.t 8)),
 yM 73 15,
 yI 74 (.call (.v (.fn 98 [])) [(.t 69),(.t 70),(.t 71),(.t 72),(.t 73)]),
 yM 68 74,
 yI 75 (.ext 0 (.t 68)),
 yI 76 (.ext 1 (.t 68)),
 yI 77 (.ext 2 (.t 68)),
 yI 16 (.alloc zZ0),
 yI 17 (.alloc zZ0),
 ⟨none,none,.no,.store 32 (.t 16) (.t 75)⟩,
 ⟨none,none,.no,.store 32 (.t 17) (.t 76)⟩,
 yM 18 77]
@[go_sem] def qvr27:List AIns:=[
 ⟨some 78,none,.rd,.load true 32 (.t 16)⟩,
 ⟨some 79,none,.rd,.load true 32 (.t 17)⟩,
 ⟨some 80,none,.rd,.load true 32 (.t 14)⟩,
 ⟨some 81,none,.ef,.call (.v (.fn 99 [])) [(.t 79),(.t 80)]⟩,
 yM 82 18,
 ⟨none,none,.no,.store 32 (.t 10) (.t 78)⟩,
 ⟨none,none,.no,.store 32 (.t 11) (.t 81)⟩,
 yM 12 82]
def qvc28:ACode:= .seq (.reg qvr27) .ret
def qvc29:ACode:= .seq (.reg qvr26) qvc28
def qvc30:ACode:= .cond (.t 67) qvc29 .skip
def qvc31:ACode:= .seq (.reg qvr25) qvc30
@[go_sem] def qvr32:List AIns:=[
 yM 84 0,
 yM 85 13,
 yI 86 (.bin .sub .none (.t 84) (.t 85)),
 yM 87 1,
 yM 88 13,
 yI 89 (.bin .sub .none (.t 87) (.t 88)),
 yI 90 (.load true 32 (.t 8)),
 yM 91 15,
 yI 92 (.call (.v (.fn 98 [])) [(.t 86),(.t 89),(.v (.bool false)),(.t 90),(.t 91)]),
 yM 83 92,
 yI 93 (.ext 0 (.t 83)),
 yI 94 (.ext 1 (.t 83)),
 yI 95 (.ext 2 (.t 83)),
 yI 19 (.alloc zZ0),
 yI 20 (.alloc zZ0),
 ⟨none,none,.no,.store 32 (.t 19) (.t 93)⟩,
 ⟨none,none,.no,.store 32 (.t 20) (.t 94)⟩,
 yM 21 95]
@[go_sem] def qvr33:List AIns:=[
 ⟨some 96,none,.rd,.load true 32 (.t 14)⟩,
 ⟨some 97,none,.rd,.load true 32 (.t 19)⟩,
 ⟨some 98,none,.ef,.call (.v (.fn 99 [])) [(.t 96),(.t 97)]⟩,
 ⟨some 99,none,.rd,.load true 32 (.t 14)⟩,
 ⟨some 100,none,.rd,.load true 32 (.t 20)⟩,
 yI 101 (.call (.v (.fn 99 [])) [(.t 99),(.t 100)]),
 yM 102 21,
 ⟨none,none,.no,.store 32 (.t 10) (.t 98)⟩,
 ⟨none,none,.no,.store 32 (.t 11) (.t 101)⟩,
 yM 12 102]
def qvc34:ACode:= .seq (.reg qvr33) .ret
def qvc35:ACode:= .seq (.reg qvr32) qvc34
def qvc36:ACode:= .seq qvc31 qvc35
def qvc37:ACode:= .seq (.reg qvr24) qvc36
def qvc38:ACode:= .seq (.reg2 qvr22 qvr23) qvc37
def qvc39:ACode:= .seq qvc21 qvc38
def qvc40:ACode:= .seq qvc16 qvc39
def qvc41:ACode:= .seq qvc5 qvc40
def qvc42:ACode:= .seq (.reg qvr0) qvc41
theorem qvok:cFn TC 98=some (103,[.c 10 true 32,.c 11 true 32,.t 12],qvc42):=by kernel_rfl
end
section
def subF:Nat->List (List UInt8)->Nat->Bool->List (List UInt8)
 | 0,_,_,_=>[]
 |f+1,l,m,known=>
  if m=l.length then(if known then []else [z13 l])
  else if m<=zu l.length then subF f (l.take (zu l.length)) m known++ [z13 (l.drop (zu l.length))]
  else subF f (l.drop (zu l.length)) (m-zu l.length) false++ [z13 (l.take (zu l.length))]
theorem zbj:∀(f g:Nat) (l:List (List UInt8)) (m:Nat) (kn:Bool),l.length<f->l.length<g->0<m->m<=l.length->subF f l m kn=subF g l m kn
 | 0,_,_,_,_,h,_,_,_=>by omega
 | _+1,0,_,_,_,_,h,_,_=>by omega
 |f+1,g+1,l,m,kn,h,h',h0,hm=>by
  simp only [subF]
  by_cases h1:m=l.length
  ·rw [if_pos h1,if_pos h1]
  ·obtain⟨s1,s2,s3⟩:=z3a (n:=l.length) (by omega)
   rw [if_neg h1,if_neg h1]
   by_cases h2:m<=zu l.length
   ·rw [if_pos h2,if_pos h2,zbj f g (l.take (zu l.length)) m kn (by rw [List.length_take];omega) (by rw [List.length_take];omega) h0 (by rw [List.length_take];omega)]
   ·rw [if_neg h2,if_neg h2,zbj f g (l.drop (zu l.length)) (m-zu l.length) false (by rw [List.length_drop];omega) (by rw [List.length_drop];omega) (by omega) (by rw [List.length_drop];omega)]
def subS(l:List (List UInt8))(m:Nat)(known:Bool):List (List UInt8):=subF (l.length+1) l m known
theorem zbk(l:List (List UInt8))(kn:Bool):subS l l.length kn=if kn then []else [z13 l]:=by
 unfold subS subF;rw [if_pos rfl]
theorem zen{l:List (List UInt8)}{m:Nat}{kn:Bool}(h0:0<m)(h1:m<l.length)(h2:m<=zu l.length):
  subS l m kn=subS (l.take (zu l.length)) m kn++ [z13 (l.drop (zu l.length))]:=by
 obtain⟨s1,s2,s3⟩:=z3a (n:=l.length) (by omega)
 unfold subS
 rw [subF,if_neg (by omega),if_pos h2]
 congr 1
 exact zbj _ _ _ _ _ (by rw [List.length_take];omega) (Nat.lt_succ_self _) h0 (by rw [List.length_take];omega)
theorem zeo{l:List (List UInt8)}{m:Nat}{kn:Bool}(h1:m<l.length)(h2:¬m<=zu l.length):
  subS l m kn=subS (l.drop (zu l.length)) (m-zu l.length) false++ [z13 (l.take (zu l.length))]:=by
 obtain⟨s1,s2,s3⟩:=z3a (n:=l.length) (by omega)
 unfold subS
 rw [subF,if_neg (by omega),if_neg h2]
 congr 1
 exact zbj _ _ _ _ _ (by rw [List.length_drop];omega) (Nat.lt_succ_self _) (by omega) (by rw [List.length_drop];omega)
theorem zbi:∀(f:Nat) (l:List (List UInt8)) (m:Nat) (kn:Bool),H32 l->H32 (subF f l m kn)/\ (subF f l m kn).length<=f
 | 0,_,_,_,_=>⟨by intro h hh;simp [subF]at hh,by simp [subF]⟩
 |f+1,l,m,kn,hH=>by
  simp only [subF]
  have one:∀{x:List UInt8},x.length=32->H32 [x]:=fun hx h hh=>by simp at hh;subst hh;exact hx
  have app:∀{a b:List (List UInt8)},H32 a->H32 b->H32 (a++b):=fun h1 h2 h hh=>(List.mem_append.1 hh).elim (h1 h) (h2 h)
  split
  ·split
   ·exact⟨fun h hh=>by simp at hh,by simp⟩
   ·exact⟨one (z2l hH),by simp⟩
  ·split
   ·obtain⟨i1,i2⟩:=zbi f (l.take (zu l.length)) m kn (hH.take _)
    exact⟨app i1 (one (z2l (hH.drop _))),by simp;omega⟩
   ·obtain⟨i1,i2⟩:=zbi f (l.drop (zu l.length)) (m-zu l.length) false (hH.drop _)
    exact⟨app i1 (one (z2l (hH.take _))),by simp;omega⟩
theorem subS_H{l:List (List UInt8)}{m:Nat}{kn:Bool}(hH:H32 l):H32 (subS l m kn):=(zbi _ l m kn hH).1
theorem z9n{l:List (List UInt8)}{m:Nat}{kn:Bool}(hH:H32 l):(subS l m kn).length<=l.length+1:=(zbi _ l m kn hH).2
structure PrS(J0 J':Store)(v:AV)(es:List (List AV)):Prop where
 out:J'[J0.length]? =some (some [[v]])
 fn:J'[J0.length+1]? =some (some [[.fn 81 [.ptr J0.length 0 0,.ptr (J0.length+1) 0 0]]])
 keep:∀q,q<J0.length->J'[q]? =J0[q]?
 sl:(es=[]/\ v= .nilsl) \/ ∃r,J0.length+2<=r/\ es ≠ []/\ v= .sl r 0 es.length none 32/\ J'[r]? =some (some es)
theorem PrS.lt{J0 J':Store}{v:AV}{es:List (List AV)}(h:PrS J0 J' v es):J0.length+2<=J'.length:=by
 have:=(List.getElem?_eq_some_iff.1 h.fn).1;omega
theorem PrS.add{J0 J':Store}{v:AV}{es:List (List AV)}(h:PrS J0 J' v es)(row:List AV)(hl:es.length+1<=1073741824):
  ∃r J2,aApp J' 32 v [row]=some (.sl r 0 (es.length+1) none 32,J2)/\ J2[J0.length]? =some (some [[v]])/\ PrS J0 (J2.set J0.length (some [[.sl r 0 (es.length+1) none 32]])) (.sl r 0 (es.length+1) none 32) (es++ [row]):=by
 have hlt:=h.lt
 obtain⟨h1,h2,h3,⟨rfl,rfl⟩| ⟨r,hr,h0,rfl,hg⟩⟩:=h
 ·refine⟨J'.length,J'++ [some [row]],rfl,by rw [gapp (by omega)];exact h1,⟨?_,?_,?_,.inr ⟨J'.length,by omega,by simp,by simp,?_⟩⟩⟩
  ·rw [z2e (by simp;omega)]
  ·rw [z1c (by omega),gapp (by omega)];exact h2
  ·intro q hq;rw [z1c (by omega),gapp (by omega)];exact h3 q hq
  ·rw [z1c (by omega),z1j (Nat.le_refl _),Nat.sub_self];rfl
 ·have hrl:=(List.getElem?_eq_some_iff.1 hg).1
  refine⟨J'.length,J'.set r none++ [some (es++ [row])],?_,?_,⟨?_,?_,?_,.inr ⟨J'.length,by omega,by simp,by simp,?_⟩⟩⟩
  ·rw [zab,if_neg (by simp),hg]
   simp only [List.length_cons,List.length_nil]
   rw [if_pos ⟨trivial,by omega,by omega⟩,if_neg (by omega),List.drop_zero,List.take_of_length_le (Nat.le_refl _)]
  ·rw [gapp (by simp;omega),z1c (by omega)];exact h1
  ·rw [z2e (by simp;omega)]
  ·rw [z1c (by omega),gapp (by simp;omega),z1c (by omega)];exact h2
  ·intro q hq;rw [z1c (by omega),gapp (by simp;omega),z1c (by omega)];exact h3 q hq
  ·rw [z1c (by omega),z1j (by simp),List.length_set,Nat.sub_self];rfl
theorem PrS.ex(J0:Store)(es:List (List AV)):∃v J',PrS J0 J' v es:=by
 by_cases h:es=[]
 ·exact⟨.nilsl,J0++ [some [[.nilsl]],some [[.fn 81 [.ptr J0.length 0 0,.ptr (J0.length+1) 0 0]]]],by simp,by simp,fun q hq=>gapp hq,.inl ⟨h,rfl⟩⟩
 ·exact⟨.sl (J0.length+2) 0 es.length none 32,J0++ [some [[.sl (J0.length+2) 0 es.length none 32]],some [[.fn 81 [.ptr J0.length 0 0,.ptr (J0.length+1) 0 0]]],some es],by simp,by simp,fun q hq=>gapp hq,.inr ⟨_,Nat.le_refl _,h,rfl,by simp⟩⟩
theorem zkc(J0:Store):∀(f:Nat) (hs:List (List UInt8)) (ex:Bool) (m:Nat) (kn:Bool) (J:Store) (v:AV) (es:List (List AV)),hs.length<f->H32 hs->hs.length<1000000->0<m->m<=hs.length->es.length+hs.length<10000000->PrS J0 J v es->
  ACallsP TC 81 [.vsl 32 (zo hs) ex,.int .i64 m,.bool kn,.ptr J0.length 0 0,.ptr (J0.length+1) 0 0] J (fun r J'=>r= .tup []/\ ∃v',PrS J0 J' v' (es++zo (subS hs m kn))):=by
 intro f
 induction f with
 |zero=>intro hs ex m kn J v es h;omega
 |succ f ih=>
  intro hs ex m kn J v es hf hH hl h0 hm hel hP
  have hrl:=z2f hs
  have ho:=hP.out
  have hfn:=hP.fn
  have hlt:=hP.lt
  by_cases h1:m=hs.length
  ·subst h1
   rw [zbk]
   cases kn with
   |true=>
    refine ACallsP.of_keep qrok (by simp) ?_
    repeat' (first|apply zs_|apply zb_|apply zc_|apply zt_ rfl|apply zf_ rfl|(refine zd_ rfl ?_ ?_<;>intro ht<;>try omega)|((first|apply zr_|apply zk_|apply ze_|apply zq_|(apply zG<;>intro ht));all_goals try simp (disch:=first|omega|(simp only [lens];first|done|omega)) only [go_sem,hrl]))
    exact⟨v,by simpa [zo]using hP⟩
   |false=>
    obtain⟨r,J2,he,hg,hP2⟩:=hP.add (zj (z13 hs)) (by omega)
    have hR:=z9o J hs (.vsl 32 (zo hs) ex) (.inr ⟨ex,rfl⟩) hH (by omega)
    have hc:=zm (z13 hs)
    rw [z2l hH]at hc
    have hgo:zo (if false=true then []else [z13 hs])=[zj (z13 hs)]:=rfl
    rw [hgo]
    generalize zj (z13 hs)=row at*
    generalize zo hs=rows at*
    refine ACallsP.of_keep qrok (by simp) ?_
    repeat' (first|refine zs_ ?_|refine zb_ ?_|refine zc_ ?_|refine zt_ rfl ?_|refine zf_ rfl ?_|(refine zd_ rfl (fun ht=> ?_) (fun ht=> ?_)<;>try (exfalso;omega))|((first|refine zW.regS ?_|refine zk_ ?_|refine ze_ ?_|refine zq_ ?_|(apply callW.mk_pu;(first|exact(fun _=>hR)))|(apply callW.za;(first|exact(hR)))|(apply zG<;>intro ht));all_goals try simp (disch:=first|omega|(simp only [lens];first|done|omega)) only [go_sem,hrl,ho,he,hg,hc]))
    exact⟨_,hP2⟩
  ·obtain⟨s1,s2,s3⟩:=z3a (n:=hs.length) (by omega)
   have hsp:=fun J=>z9p J hs.length (by omega)
   obtain⟨k,hkd⟩:∃k,zu hs.length=k:=⟨_,rfl⟩
   have tk:=zcu hs k
   have dk:=zct hs k
   rw [hkd]at s1 s2 s3 hsp
   have hm1:¬(m:Int)=hs.length:=by omega
   by_cases h2:m<=k
   ·have e:=zen (l:=hs) (m:=m) (kn:=kn) h0 (by omega) (by rw [hkd];exact h2)
    rw [hkd]at e
    have i1:=fun b=>ih (hs.take k) b m kn J v es (by rw [List.length_take];omega) (hH.take _) (by rw [List.length_take];omega) (by omega) (by rw [List.length_take];omega) (by rw [List.length_take];omega) hP
    have hR:=fun J b=>z9o J (hs.drop k) (.vsl 32 (zo (hs.drop k)) b) (.inr ⟨b,rfl⟩) (hH.drop _) (by rw [List.length_drop];omega)
    have hc:=zm (z13 (hs.drop k))
    rw [z2l (hH.drop _)]at hc
    have hcat:zo (subS hs m kn)=zo (subS (hs.take k) m kn)++ [zj (z13 (hs.drop k))]:=by rw [e];simp [zo]
    have hsl:=z9n (m:=m) (kn:=kn) (hH.take k)
    have hsr:=z2f (subS (hs.take k) m kn)
    rw [hcat,<-List.append_assoc]
    rw [List.length_take]at hsl
    generalize zj (z13 (hs.drop k))=row at*
    generalize zo (subS (hs.take k) m kn)=es1 at*
    generalize zo (hs.take k)=ra at*
    generalize zo (hs.drop k)=rb at*
    generalize zo hs=rows at*
    refine ACallsP.of_keep qrok (by simp) ?_
    repeat' (first|refine zs_ ?_|refine zb_ ?_|refine zc_ ?_|refine zt_ rfl ?_|refine zf_ rfl ?_|(refine zd_ rfl (fun ht=> ?_) (fun ht=> ?_)<;>try (exfalso;omega))|((first|refine zW.regS ?_|refine zk_ ?_|refine ze_ ?_|refine zq_ ?_|(apply callW.mk_pu;(first|exact(fun _=>hsp _)))|(apply callW.za;(first|exact(hsp _)))|(apply zG<;>intro ht));all_goals try simp (disch:=first|omega|(simp only [lens];first|done|omega)) only [go_sem,hrl,ho,hfn,hm1,tk,dk]))
    refine callW.mkP (i1 _) (by obtain⟨v',J',h⟩:=PrS.ex J0 (es++es1);exact⟨_,J',rfl,v',h⟩) ?_
    rintro r1 J1 ⟨rfl,v1,hP1⟩
    have ho1:=hP1.out
    obtain⟨r,J2,he,hg,hP2⟩:=hP1.add row (by rw [List.length_append];omega)
    repeat' (first|refine zs_ ?_|refine zb_ ?_|refine zc_ ?_|refine zt_ rfl ?_|refine zf_ rfl ?_|(refine zd_ rfl (fun ht=> ?_) (fun ht=> ?_)<;>try (exfalso;omega))|((first|refine zW.regS ?_|refine zk_ ?_|refine ze_ ?_|refine zq_ ?_|(apply callW.mk_pu;(first|exact(fun _=>hR _ _)))|(apply callW.za;(first|exact(hR _ _)))|(apply zG<;>intro ht));all_goals try simp (disch:=first|omega|(simp only [lens];first|done|omega)) only [go_sem,hrl,ho1,he,hg,hc,tk,dk]))
    rw [List.length_append,List.append_assoc]at hP2
    exact⟨_,hP2⟩
   ·have e:=zeo (l:=hs) (m:=m) (kn:=kn) (by omega) (by rw [hkd];exact h2)
    rw [hkd]at e
    have hms:(m:Int)-k=((m-k:Nat):Int):=by omega
    have i1:=fun b=>ih (hs.drop k) b (m-k) false J v es (by rw [List.length_drop];omega) (hH.drop _) (by rw [List.length_drop];omega) (by omega) (by rw [List.length_drop];omega) (by rw [List.length_drop];omega) hP
    have hR:=fun J b=>z9o J (hs.take k) (.vsl 32 (zo (hs.take k)) b) (.inr ⟨b,rfl⟩) (hH.take _) (by rw [List.length_take];omega)
    have hc:=zm (z13 (hs.take k))
    rw [z2l (hH.take _)]at hc
    have hcat:zo (subS hs m kn)=zo (subS (hs.drop k) (m-k) false)++ [zj (z13 (hs.take k))]:=by rw [e];simp [zo]
    have hsl:=z9n (m:=(m-k)) (kn:=false) (hH.drop k)
    have hsr:=z2f (subS (hs.drop k) (m-k) false)
    rw [hcat,<-List.append_assoc]
    rw [List.length_drop]at hsl
    generalize zj (z13 (hs.take k))=row at*
    generalize zo (subS (hs.drop k) (m-k) false)=es1 at*
    generalize zo (hs.take k)=ra at*
    generalize zo (hs.drop k)=rb at*
    generalize zo hs=rows at*
    refine ACallsP.of_keep qrok (by simp) ?_
    repeat' (first|refine zs_ ?_|refine zb_ ?_|refine zc_ ?_|refine zt_ rfl ?_|refine zf_ rfl ?_|(refine zd_ rfl (fun ht=> ?_) (fun ht=> ?_)<;>try (exfalso;omega))|((first|refine zW.regS ?_|refine zk_ ?_|refine ze_ ?_|refine zq_ ?_|(apply callW.mk_pu;(first|exact(fun _=>hsp _)))|(apply callW.za;(first|exact(hsp _)))|(apply zG<;>intro ht));all_goals try simp (disch:=first|omega|(simp only [lens];first|done|omega)) only [go_sem,hrl,ho,hfn,hm1,tk,dk,hms]))
    refine callW.mkP (i1 _) (by obtain⟨v',J',h⟩:=PrS.ex J0 (es++es1);exact⟨_,J',rfl,v',h⟩) ?_
    rintro r1 J1 ⟨rfl,v1,hP1⟩
    have ho1:=hP1.out
    obtain⟨r,J2,he,hg,hP2⟩:=hP1.add row (by rw [List.length_append];omega)
    repeat' (first|refine zs_ ?_|refine zb_ ?_|refine zc_ ?_|refine zt_ rfl ?_|refine zf_ rfl ?_|(refine zd_ rfl (fun ht=> ?_) (fun ht=> ?_)<;>try (exfalso;omega))|((first|refine zW.regS ?_|refine zk_ ?_|refine ze_ ?_|refine zq_ ?_|(apply callW.mk_pu;(first|exact(fun _=>hR _ _)))|(apply callW.za;(first|exact(hR _ _)))|(apply zG<;>intro ht));all_goals try simp (disch:=first|omega|(simp only [lens];first|done|omega)) only [go_sem,hrl,ho1,he,hg,hc,tk,dk]))
    rw [List.length_append,List.append_assoc]at hP2
    exact⟨_,hP2⟩
theorem DownV.tup2{k:Nat}{v v2:AV}{J J2:Store}{i:IntKind}{e:Int}(h:DownV k v J v2 J2):DownV k (.tup [v,.int i e]) J (.tup [v2,.int i e]) J2:=by
 obtain⟨D,a,b,c⟩:=h
 exact⟨D,a,b,by simp only [DR,DRs];exact⟨_,rfl,_,_,rfl,c,_,_,rfl,rfl,rfl⟩⟩
theorem zcj{J J':Store}(h:J.length<=J'.length)(h2:∀q,q<J.length->J'[q]? =J[q]?):∃y,J'=J++y:=by
 refine⟨J'.drop J.length,?_⟩
 have e:J'.take J.length=J:=by
  refine List.ext_getElem? fun i=> ?_
  by_cases hi:i<J.length
  ·rw [List.getElem?_take_of_lt hi];exact h2 i hi
  ·rw [List.getElem?_eq_none (by simp;omega),List.getElem?_eq_none (by omega)]
 calc J'=J'.take J.length++J'.drop J.length:=(List.take_append_drop _ _).symm
  _=J++J'.drop J.length:=by rw [e]
theorem PrS.own{J0 J':Store}{v:AV}{es:List (List AV)}(h:PrS J0 J' v es):OwnN 32 J0 J' v es:=by
 have hlt:=h.lt
 obtain⟨y,rfl⟩:=zcj (by omega) h.keep
 obtain⟨h1,h2,h3,h4| ⟨r,hr,h0,rfl,hg⟩⟩:=h
 ·exact⟨y,rfl,.inl h4⟩
 ·refine⟨y,rfl,.inr ⟨r-J0.length,h0,by rw [show J0.length+(r-J0.length)=r by omega],?_⟩⟩
  rw [List.getElem?_append_right (by omega)]at hg;exact hg
def z1s(hs:List (List UInt8))(m:Int):List (List UInt8):=if 0<m/\ m<hs.length then subS hs m.toNat true else []
def z2w(hs:List (List UInt8))(m:Int):Int:=if m<0 \/(hs.length:Int)<m then 2 else 0
theorem zq5{hs:List (List UInt8)}{m:Int}(h:H32 hs):H32 (z1s hs m):=by
 unfold z1s
 split
 ·exact subS_H h
 ·intro x hx;simp at hx
theorem zq6{hs:List (List UInt8)}{m:Int}(h:H32 hs):(z1s hs m).length<=hs.length+1:=by
 unfold z1s
 split
 ·exact z9n h
 ·simp
def ProofP(J:Store)(hs:List (List UInt8))(m:Int)(v:AV)(J':Store):Prop:=∃v2,v= .tup [v2,.int .i64 (z2w hs m)]/\ OwnN 32 J J' v2 (zo (z1s hs m))
theorem ProofP.ex(J:Store)(hs:List (List UInt8))(m:Int):∃v J',ProofP J hs m v J':=⟨_,_,_,rfl,z4e J 32 _⟩
theorem ProofP.none{J:Store}{hs:List (List UInt8)}{m:Int}(h:z1s hs m=[]):ProofP J hs m (.tup [.nilsl,.int .i64 (z2w hs m)]) J:=⟨.nilsl,rfl,by rw [h];exact⟨[],by simp,.inl ⟨rfl,rfl⟩⟩⟩
theorem zkd(J:Store)(hs:List (List UInt8))(x:AV)(m:Int)(hx:SlV 32 (zo hs) x)(hH:H32 hs)(hl:hs.length<1000000):
  ACallsP TC 35 [x,.int .i64 m] J (ProofP J hs m):=by
 have r1:=hx.len
 rw [z2f]at r1
 unfold z1h at r1
 by_cases h1:m<0 \/(hs.length:Int)<m
 ·have e1:z2w hs m=2:=by unfold z2w;rw [if_pos h1]
  have e2:z1s hs m=[]:=by unfold z1s;rw [if_neg (by omega)]
  refine ACallsTo.toP (v:= .tup [.nilsl,.int .i64 2]) (J':=J) ?_ (by have:=ProofP.none (J:=J) e2;rwa [e1]at this)
  refine ACallsTo.of_body qnok (by simp) fun hw _=> ?_
  repeat' (first|apply zs_|apply zb_|apply zc_|apply zt_ rfl|apply zf_ rfl|(refine zd_ rfl ?_ ?_<;>intro ht<;>try omega)|((first|apply zr_|apply zk_|apply ze_|apply zq_|(apply zG<;>intro ht));all_goals try simp (disch:=first|omega|(simp only [lens];first|done|omega)) only [go_sem,r1]))
  all_goals exact DownV.same hw (zz _ rfl)
 ·have e1:z2w hs m=0:=by unfold z2w;rw [if_neg h1]
  by_cases h2:m=0 \/m=hs.length
  ·have e2:z1s hs m=[]:=by unfold z1s;rw [if_neg (by omega)]
   refine ACallsTo.toP (v:= .tup [.nilsl,.int .i64 0]) (J':=J) ?_ (by have:=ProofP.none (J:=J) e2;rwa [e1]at this)
   refine ACallsTo.of_body qnok (by simp) fun hw _=> ?_
   repeat' (first|apply zs_|apply zb_|apply zc_|apply zt_ rfl|apply zf_ rfl|(refine zd_ rfl ?_ ?_<;>intro ht<;>try omega)|((first|apply zr_|apply zk_|apply ze_|apply zq_|(apply zG<;>intro ht));all_goals try simp (disch:=first|omega|(simp only [lens];first|done|omega)) only [go_sem,r1]))
   all_goals exact DownV.same hw (zz _ rfl)
  ·obtain⟨n,rfl⟩:∃n:Nat,m=n:=⟨m.toNat,by omega⟩
   have e2:z1s hs n=subS hs n true:=by unfold z1s;rw [if_pos (by omega)];rfl
   obtain⟨ex,rfl⟩:=hx.vsl (by rw [z2f];omega)
   have i1:=fun J' v=>zkc J (hs.length+1) hs ex n true J' v [] (by omega) hH hl (by omega) (by omega) (by simp;omega)
   simp only [List.nil_append]at i1
   rw [<-e2]at i1
   have hP0:PrS J (J++ [some [[.nilsl]],some [[.fn 81 [.ptr J.length 0 0,.ptr (J.length+1) 0 0]]]]) .nilsl []:=⟨by simp,by simp,fun q hq=>gapp hq,.inl ⟨rfl,rfl⟩⟩
   refine ACallsP.of_body qnok (by simp) fun hw _=> ?_
   have hrl:=z2f hs
   generalize zo hs=rows at*
   repeat' (first|apply zs_|apply zb_|apply zc_|apply zt_ rfl|apply zf_ rfl|(refine zd_ rfl ?_ ?_<;>intro ht<;>try omega)|((first|apply zr_|apply zk_|apply ze_|apply zq_|(apply zG<;>intro ht));all_goals try simp (disch:=first|omega|(simp only [lens];first|done|omega)) only [go_sem,r1,hrl]))
   refine callW.mkP (i1 _ _ hP0) (by obtain⟨v',J',h⟩:=PrS.ex J (zo (z1s hs n));exact⟨_,J',rfl,v',h⟩) ?_
   rintro r J1 ⟨rfl,v1,hP1⟩
   have ho1:=hP1.out
   repeat' (first|apply zs_|apply zb_|apply zc_|apply zt_ rfl|apply zf_ rfl|(refine zd_ rfl ?_ ?_<;>intro ht<;>try omega)|((first|apply zr_|apply zk_|apply ze_|apply zq_|(apply zG<;>intro ht));all_goals try simp (disch:=first|omega|(simp only [lens];first|done|omega)) only [go_sem,ho1]))
   refine⟨_,_,⟨_,rfl,z4e J 32 _⟩,?_⟩
   rw [e1]
   exact(hP1.own.own hw (z6i _)).tup2
end
section
def OwnA(sz:Nat)(τ J':Store)(v:AV)(es:List (List AV)):Prop:=OwnN sz τ J' v es \/(v= .vsl sz es true/\ es ≠ []/\ ∃news,J'=τ++news)
theorem OwnA.app{sz:Nat}{τ J':Store}{v:AV}{es ys:List (List AV)}(h:OwnA sz τ J' v es)(h0:ys.length ≠ 0)(hl:es.length+ys.length<=1073741824):
  ∃v' J'',aApp J' sz v ys=some (v',J'')/\ OwnN sz τ J'' v' (es++ys):=by
 rcases h with h| ⟨rfl,h1,news,rfl⟩
 ·exact h.app h0 hl
 ·refine⟨.sl (τ++news).length 0 (es.length+ys.length) none sz,(τ++news)++ [some (es++ys)],by rw [z8e,if_neg h0,if_pos ⟨rfl,rfl,hl⟩],news++ [some (es++ys)],by rw [List.append_assoc],.inr ⟨news.length,by simp [h1],by simp,by rw [List.getElem?_append_right (Nat.le_refl _)];simp⟩⟩
theorem OwnA.rd{sz:Nat}{τ J':Store}{v:AV}{es:List (List AV)}(h:OwnA sz τ J' v es):RdSl J' sz es v:=by
 rcases h with h| ⟨rfl,_⟩
 ·exact h.rd
 ·exact .inl (.inr ⟨true,rfl⟩)
theorem OwnA.more{sz:Nat}{τ J':Store}{v:AV}{es:List (List AV)}(h:OwnA sz τ J' v es)(y:Store):OwnA sz τ (J'++y) v es:=by
 rcases h with h| ⟨rfl,h1,news,rfl⟩
 ·exact .inl (h.more y)
 ·exact .inr ⟨rfl,h1,news++y,by rw [List.append_assoc]⟩
theorem OwnA.ext{sz:Nat}{τ J':Store}{v:AV}{es:List (List AV)}(h:OwnA sz τ J' v es):∃news,J'=τ++news:=by
 rcases h with h| ⟨_,_,h⟩
 ·exact h.ext
 ·exact h
theorem OwnA.down{sz:Nat}{J J':Store}{v:AV}{es:List (List AV)}(hw:Wf J.length J)(h:OwnA sz J J' v es)(hr:RLss J.length es):∃v2 J2,OwnA sz J J2 v2 es/\ DownV J.length v J' v2 J2:=by
 rcases h with h| ⟨rfl,h1,news,rfl⟩
 ·exact⟨_,_,.inl (z4e J sz es),h.own hw hr⟩
 ·exact⟨_,J,.inr ⟨rfl,h1,[],by simp⟩,DownV.pure hw (by simpa only [RL]using hr)⟩
theorem sub_to:∀(f:Nat) (J:Store) (hs:List (List UInt8)) (ex:Bool) (m:Nat) (kn:Bool),hs.length<f->H32 hs->hs.length<1000000->0<m->m<=hs.length->
  ACallsP TC 119 [.vsl 32 (zo hs) ex,.int .i64 m,.bool kn] J (fun v J'=>OwnA 32 J J' v (zo (subS hs m kn))):=by
 intro f
 induction f with
 |zero=>intro J hs ex m kn h;omega
 |succ f ih=>
  intro J hs ex m kn hf hH hl h0 hm
  have hrl:=z2f hs
  by_cases h1:m=hs.length
  ·subst h1
   rw [zbk]
   cases kn with
   |true=>
    refine ACallsP.of_body qsok (by simp) fun hw _=> ?_
    repeat' (first|apply zs_|apply zb_|apply zc_|apply zt_ rfl|apply zf_ rfl|(refine zd_ rfl ?_ ?_<;>intro ht<;>try omega)|((first|apply zr_|apply zk_|apply ze_|apply zq_|(apply zG<;>intro ht));all_goals try simp (disch:=first|omega|(simp only [lens];first|done|omega)) only [go_sem,hrl]))
    exact⟨.nilsl,J,.inl ⟨[],by simp,.inl ⟨rfl,rfl⟩⟩,DownV.same hw (zz _ rfl)⟩
   |false=>
    have hR:=fun J=>zb3 J hs (.vsl 32 (zo hs) ex) (.inr ⟨ex,rfl⟩) hH (by omega)
    have hc:=zm (z13 hs)
    rw [z2l hH]at hc
    have hgo:zo (if false=true then []else [z13 hs])=[zj (z13 hs)]:=rfl
    rw [hgo]
    have hrr:=z2b (k:=J.length) (z13 hs)
    generalize zj (z13 hs)=row at*
    generalize zo hs=rows at*
    refine ACallsP.of_body qsok (by simp) fun hw _=> ?_
    repeat' (first|apply zs_|apply zb_|apply zc_|apply zt_ rfl|apply zf_ rfl|(refine zd_ rfl ?_ ?_<;>intro ht<;>try omega)|((first|apply zr_|apply zk_|apply ze_|apply zq_|(apply callW.mk_pu;(first|exact(fun _=>hR _)))|(apply callW.za;(first|exact(hR _)))|(apply zG<;>intro ht));all_goals try simp (disch:=first|omega|(simp only [lens];first|done|omega)) only [go_sem,hrl,hc]))
    exact⟨_,J,.inr ⟨rfl,by simp,[],by simp⟩,DownV.same hw (by simp only [RL,RLss];exact⟨hrr,trivial⟩)⟩
  ·obtain⟨s1,s2,s3⟩:=z3a (n:=hs.length) (by omega)
   have hsp:=fun J=>z9a J hs.length (by omega)
   obtain⟨k,hkd⟩:∃k,zu hs.length=k:=⟨_,rfl⟩
   have tk:=zcu hs k
   have dk:=zct hs k
   rw [hkd]at s1 s2 s3 hsp
   have hm1:¬(m:Int)=hs.length:=by omega
   have hrs:=z6i (k:=J.length) (subS hs m kn)
   by_cases h2:m<=k
   ·have e:=zen (l:=hs) (m:=m) (kn:=kn) h0 (by omega) (by rw [hkd];exact h2)
    rw [hkd]at e
    have i1:=fun b=>ih J (hs.take k) b m kn (by rw [List.length_take];omega) (hH.take _) (by rw [List.length_take];omega) (by omega) (by rw [List.length_take];omega)
    have hR:=fun J b=>zb3 J (hs.drop k) (.vsl 32 (zo (hs.drop k)) b) (.inr ⟨b,rfl⟩) (hH.drop _) (by rw [List.length_drop];omega)
    have hc:=zm (z13 (hs.drop k))
    rw [z2l (hH.drop _)]at hc
    have hcat:zo (subS hs m kn)=zo (subS (hs.take k) m kn)++ [zj (z13 (hs.drop k))]:=by rw [e];simp [zo]
    have hsl:=z9n (m:=m) (kn:=kn) (hH.take k)
    have hsr:=z2f (subS (hs.take k) m kn)
    rw [hcat]at hrs ⊢
    rw [List.length_take]at hsl
    generalize zj (z13 (hs.drop k))=row at*
    generalize zo (subS (hs.take k) m kn)=es1 at*
    generalize zo (hs.take k)=ra at*
    generalize zo (hs.drop k)=rb at*
    generalize zo hs=rows at*
    refine ACallsP.of_body qsok (by simp) fun hw _=> ?_
    repeat' (first|apply zs_|apply zb_|apply zc_|apply zt_ rfl|apply zf_ rfl|(refine zd_ rfl ?_ ?_<;>intro ht<;>try omega)|((first|apply zr_|apply zk_|apply ze_|apply zq_|(apply callW.mk_pu;(first|exact(fun _=>hsp _)))|(apply callW.za;(first|exact(hsp _)))|(apply zG<;>intro ht));all_goals try simp (disch:=first|omega|(simp only [lens];first|done|omega)) only [go_sem,hrl,hm1,tk,dk]))
    refine callW.mkP (i1 _) ⟨_,_,.inl (z4e J 32 es1)⟩ ?_
    rintro v1 J1 hO1
    obtain⟨v2,J2,he,hO2⟩:=hO1.app (ys:=[row]) (by simp) (by simp;omega)
    simp (disch:=first|omega|(simp only [lens];first|done|omega)) only [go_sem,hrl,tk,dk]
    repeat' (first|apply zs_|apply zb_|apply zc_|apply zt_ rfl|apply zf_ rfl|(refine zd_ rfl ?_ ?_<;>intro ht<;>try omega)|((first|apply zr_|apply zk_|apply ze_|apply zq_|(apply callW.mk_pu;(first|exact(fun _=>hR _ _)))|(apply callW.za;(first|exact(hR _ _)))|(apply zG<;>intro ht));all_goals try simp (disch:=first|omega|(simp only [lens];first|done|omega)) only [go_sem,hrl,he,hc,tk,dk]))
    obtain⟨v3,J3,h3,h4⟩:=OwnA.down hw (.inl hO2) hrs
    exact⟨v3,J3,h3,h4⟩
   ·have e:=zeo (l:=hs) (m:=m) (kn:=kn) (by omega) (by rw [hkd];exact h2)
    rw [hkd]at e
    have hms:(m:Int)-k=((m-k:Nat):Int):=by omega
    have i1:=fun b=>ih J (hs.drop k) b (m-k) false (by rw [List.length_drop];omega) (hH.drop _) (by rw [List.length_drop];omega) (by omega) (by rw [List.length_drop];omega)
    have hR:=fun J b=>zb3 J (hs.take k) (.vsl 32 (zo (hs.take k)) b) (.inr ⟨b,rfl⟩) (hH.take _) (by rw [List.length_take];omega)
    have hc:=zm (z13 (hs.take k))
    rw [z2l (hH.take _)]at hc
    have hcat:zo (subS hs m kn)=zo (subS (hs.drop k) (m-k) false)++ [zj (z13 (hs.take k))]:=by rw [e];simp [zo]
    have hsl:=z9n (m:=(m-k)) (kn:=false) (hH.drop k)
    have hsr:=z2f (subS (hs.drop k) (m-k) false)
    rw [hcat]at hrs ⊢
    rw [List.length_drop]at hsl
    generalize zj (z13 (hs.take k))=row at*
    generalize zo (subS (hs.drop k) (m-k) false)=es1 at*
    generalize zo (hs.take k)=ra at*
    generalize zo (hs.drop k)=rb at*
    generalize zo hs=rows at*
    refine ACallsP.of_body qsok (by simp) fun hw _=> ?_
    repeat' (first|apply zs_|apply zb_|apply zc_|apply zt_ rfl|apply zf_ rfl|(refine zd_ rfl ?_ ?_<;>intro ht<;>try omega)|((first|apply zr_|apply zk_|apply ze_|apply zq_|(apply callW.mk_pu;(first|exact(fun _=>hsp _)))|(apply callW.za;(first|exact(hsp _)))|(apply zG<;>intro ht));all_goals try simp (disch:=first|omega|(simp only [lens];first|done|omega)) only [go_sem,hrl,hm1,tk,dk,hms]))
    refine callW.mkP (i1 _) ⟨_,_,.inl (z4e J 32 es1)⟩ ?_
    rintro v1 J1 hO1
    obtain⟨v2,J2,he,hO2⟩:=hO1.app (ys:=[row]) (by simp) (by simp;omega)
    simp (disch:=first|omega|(simp only [lens];first|done|omega)) only [go_sem,hrl,tk,dk]
    repeat' (first|apply zs_|apply zb_|apply zc_|apply zt_ rfl|apply zf_ rfl|(refine zd_ rfl ?_ ?_<;>intro ht<;>try omega)|((first|apply zr_|apply zk_|apply ze_|apply zq_|(apply callW.mk_pu;(first|exact(fun _=>hR _ _)))|(apply callW.za;(first|exact(hR _ _)))|(apply zG<;>intro ht));all_goals try simp (disch:=first|omega|(simp only [lens];first|done|omega)) only [go_sem,hrl,he,hc,tk,dk]))
    obtain⟨v3,J3,h3,h4⟩:=OwnA.down hw (.inl hO2) hrs
    exact⟨v3,J3,h3,h4⟩
end
section
theorem zii{J:Store}{hs:List (List UInt8)}{m:Int}(h:z1s hs m=[]):OwnA 32 J J .nilsl (zo (z1s hs m)):=by rw [h];exact .inl ⟨[],by simp,.inl ⟨rfl,rfl⟩⟩
def RefP(J:Store)(hs:List (List UInt8))(m:Int)(v:AV)(J':Store):Prop:=∃v2,v= .tup [v2,.int .i64 (z2w hs m)]/\ OwnA 32 J J' v2 (zo (z1s hs m))
theorem zqo(J:Store)(hs:List (List UInt8))(x:AV)(m:Int)(hx:SlV 32 (zo hs) x)(hH:H32 hs)(hl:hs.length<1000000):
  ACallsP TC 89 [x,.int .i64 m] J (RefP J hs m):=by
 have r1:=hx.len
 rw [z2f]at r1
 unfold z1h at r1
 by_cases h1:m<0 \/(hs.length:Int)<m
 ·have e1:z2w hs m=2:=by unfold z2w;rw [if_pos h1]
  have e2:z1s hs m=[]:=by unfold z1s;rw [if_neg (by omega)]
  refine ACallsTo.toP (v:= .tup [.nilsl,.int .i64 2]) (J':=J) ?_ ⟨_,by rw [e1],zii e2⟩
  refine ACallsTo.of_body qook (by simp) fun hw _=> ?_
  repeat' (first|apply zs_|apply zb_|apply zc_|apply zt_ rfl|apply zf_ rfl|(refine zd_ rfl ?_ ?_<;>intro ht<;>try omega)|((first|apply zr_|apply zk_|apply ze_|apply zq_|(apply zG<;>intro ht));all_goals try simp (disch:=first|omega|(simp only [lens];first|done|omega)) only [go_sem,r1]))
  all_goals exact DownV.same hw (zz _ rfl)
 ·have e1:z2w hs m=0:=by unfold z2w;rw [if_neg h1]
  by_cases h2:m=0
  ·have e2:z1s hs m=[]:=by unfold z1s;rw [if_neg (by omega)]
   refine ACallsTo.toP (v:= .tup [.nilsl,.int .i64 0]) (J':=J) ?_ ⟨_,by rw [e1],zii e2⟩
   refine ACallsTo.of_body qook (by simp) fun hw _=> ?_
   repeat' (first|apply zs_|apply zb_|apply zc_|apply zt_ rfl|apply zf_ rfl|(refine zd_ rfl ?_ ?_<;>intro ht<;>try omega)|((first|apply zr_|apply zk_|apply ze_|apply zq_|(apply zG<;>intro ht));all_goals try simp (disch:=first|omega|(simp only [lens];first|done|omega)) only [go_sem,r1]))
   all_goals exact DownV.same hw (zz _ rfl)
  ·obtain⟨n,rfl⟩:∃n:Nat,m=n:=⟨m.toNat,by omega⟩
   obtain⟨ex,rfl⟩:=hx.vsl (by rw [z2f];omega)
   have e2:z1s hs n=subS hs n true:=by
    unfold z1s
    by_cases h3:n=hs.length
    ·subst h3;rw [if_neg (by omega),zbk];rfl
    ·rw [if_pos (by omega)];rfl
   have i1:=sub_to (hs.length+1) J hs ex n true (by omega) hH hl (by omega) (by omega)
   rw [<-e2]at i1
   have hrs:=z6i (k:=J.length) (z1s hs n)
   unfold RefP
   rw [e1]
   have hrl:=z2f hs
   generalize zo hs=rows at*
   generalize zo (z1s hs n)=es at*
   refine ACallsP.of_body qook (by simp) fun hw _=> ?_
   repeat' (first|apply zs_|apply zb_|apply zc_|apply zt_ rfl|apply zf_ rfl|(refine zd_ rfl ?_ ?_<;>intro ht<;>try omega)|((first|apply zr_|apply zk_|apply ze_|apply zq_|(apply zG<;>intro ht));all_goals try simp (disch:=first|omega|(simp only [lens];first|done|omega)) only [go_sem,r1,hrl]))
   refine callW.mkP i1 ⟨_,_,.inl (z4e J 32 _)⟩ ?_
   rintro v1 J1 hO
   repeat' (first|apply zs_|apply zb_|apply zc_|apply zt_ rfl|apply zf_ rfl|(refine zd_ rfl ?_ ?_<;>intro ht<;>try omega)|((first|apply zr_|apply zk_|apply ze_|apply zq_|(apply zG<;>intro ht));all_goals try simp (disch:=first|omega|(simp only [lens];first|done|omega)) only [go_sem]))
   obtain⟨v3,J3,h3,h4⟩:=OwnA.down hw hO hrs
   exact⟨_,_,⟨_,rfl,h3⟩,h4.tup2⟩
def st(i last:Nat):Nat × Nat:=if h:i%2=1 then st (i/2) (last/2)else(i,last)
termination_by i
decreasing_by omega
def lp(i last:Nat):List Bool:=
 if h:last=0 then []else if i%2=1 then true::lp (i/2) (last/2)else if i=last then lp (i/2) (last/2)else false::lp (i/2) (last/2)
termination_by last
decreasing_by all_goals omega
theorem z6m{i last:Nat}(h:i%2=1):st i last=st (i/2) (last/2):=by rw [st,dif_pos h]
theorem z4j{i last:Nat}(h:¬i%2=1):st i last=(i,last):=by rw [st,dif_neg h]
theorem z6d(i:Nat):lp i 0=[]:=by rw [lp,dif_pos rfl]
theorem z3v{i last:Nat}(h:i%2=1)(h0:last ≠ 0):lp i last=true::lp (i/2) (last/2):=by rw [lp,dif_neg h0,if_pos h]
theorem z7r{i:Nat}(h:¬i%2=1):lp i i=lp (i/2) (i/2):=by
 by_cases h0:i=0
 ·subst h0;rfl
 ·rw [lp,dif_neg h0,if_neg h,if_pos rfl]
theorem z6z{i last:Nat}(h:¬i%2=1)(h0:last ≠ 0)(h1:i ≠ last):lp i last=false::lp (i/2) (last/2):=by rw [lp,dif_neg h0,if_neg h,if_neg h1]
theorem zcy:∀(f i:Nat),i<f->i ≠ 0->∃P,lp i i=true::P
 | 0,_,h,_=>by omega
 |f+1,i,h,h0=>by
  by_cases h1:i%2=1
  ·exact⟨_,z3v h1 h0⟩
  ·obtain⟨P,hP⟩:=zcy f (i/2) (by omega) (by omega)
   exact⟨P,by rw [z7r h1,hP]⟩
def run:List Bool->List (List UInt8)->List UInt8->List UInt8->Option (List UInt8 × List UInt8)
 | [],[],a,b=>some (a,b)
 |true::p,h::ps,a,b=>run p ps (z1l h a) (z1l h b)
 |false::p,h::ps,a,b=>run p ps a (z1l b h)
 | _,_,_,_=>none
def chkG(i last:Nat)(o:List UInt8)(ps:List (List UInt8)):Option (List UInt8 × List UInt8):=
 if 0<i then match ps with
  | []=>none
  |h::ps=>run (lp i last) ps h h
 else run (lp i last) ps o o
def chkS(i last:Nat)(o:List UInt8)(ps:List (List UInt8)):Option (List UInt8 × List UInt8):=chkG (st i last).1 (st i last).2 o ps
def fitI(r:Option (List UInt8 × List UInt8))(o nw:List UInt8):Int:=
 match r with
 |some (a,b)=>if a=o/\ b=nw then 0 else 80
 |none=>80
def chkI(m n:Int)(o nw:List UInt8)(ps:List (List UInt8)):Int:=
 if n<0 \/4096<n \/m<0 \/n<m then 2
 else if m=0 then(if ps=[]/\ o=z13 []/\ (0<n \/nw=o)then 0 else 80)
 else if m=n then(if ps=[]/\ o=nw then 0 else 80)
 else fitI (chkS (m.toNat-1) (n.toNat-1) o ps) o nw
def z44:List UInt8:=List.replicate 32 0
theorem zho(p:Nat)(J:Store)(h:List UInt8)(ps:List (List UInt8))(ex:Bool)(hh:h.length=32)(hl:ps.length<1000000)(hp:J[p]? =some (some [[.vsl 32 (zo (h::ps)) ex]])):
  ACallsTo TC 95 [.ptr p 0 0] J (.tup [.agg (zj h),.bool true]) (J.set p (some [[.vsl 32 (zo ps) ex]])++ [some [zj h]]):=by
 have hc:=zm h
 rw [hh]at hc
 have hlt:=(List.getElem?_eq_some_iff.1 hp).1
 have hr:zo (h::ps)=zj h::zo ps:=rfl
 have hrl:=z2f ps
 rw [hr]at hp
 generalize zj h=row at*
 generalize zo ps=rows at*
 refine ACallsTo.of_body_keep quok (by simp) ?_
 repeat' (first|apply zs_|apply zb_|apply zc_|apply zt_ rfl|apply zf_ rfl|(refine zd_ rfl ?_ ?_<;>intro ht<;>try omega)|((first|apply zr_|apply zk_|apply ze_|apply zq_|(apply zG<;>intro ht));all_goals try simp (disch:=first|omega|(simp only [lens];first|done|omega)) only [go_sem,hp,hc,hrl]))
 rw [List.drop_of_length_le (by omega),List.append_nil,List.take_of_length_le (by omega)]
 exact⟨rfl,rfl⟩
theorem zhn(p:Nat)(J:Store)(x:AV)(hx:SlV 32 [] x)(hp:J[p]? =some (some [[x]])):
  ACallsTo TC 95 [.ptr p 0 0] J (.tup [.agg (zj z44),.bool false]) (J++ [some [zj z44]]):=by
 have hlt:=(List.getElem?_eq_some_iff.1 hp).1
 have r1:=hx.len
 unfold z1h at r1
 have hz:zj z44=List.replicate 32 (.int .u8 0):=rfl
 rw [hz]
 refine ACallsTo.of_body_keep quok (by simp) ?_
 repeat' (first|refine zs_ ?_|refine zb_ ?_|refine zc_ ?_|refine zt_ rfl ?_|refine zf_ rfl ?_|(refine zd_ rfl (fun ht=> ?_) (fun ht=> ?_)<;>try (exfalso;omega))|((first|refine zW.regS ?_|refine zk_ ?_|refine ze_ ?_|refine zq_ ?_|(apply zG<;>intro ht));all_goals try simp (disch:=first|omega|(simp only [lens];first|done|omega)) only [go_sem,hp,r1]))
 exact⟨rfl,rfl⟩
theorem z28(J:Store)(b:Bool):ACallsTo TC 94 [.bool b] J (.int .i64 (if b then 0 else 80)) J:=by
 refine ACallsTo.of_body qtok (by simp) fun hw _=> ?_
 cases b with
 |true=>
  repeat' (first|apply zs_|apply zb_|apply zc_|apply zt_ rfl|apply zf_ rfl|(refine zd_ rfl ?_ ?_<;>intro ht<;>try omega)|((first|apply zr_|apply zk_|apply ze_|apply zq_|(apply zG<;>intro ht));all_goals try simp (disch:=first|omega|(simp only [lens];first|done|omega)) only [go_sem]))
  exact DownV.same hw (zz _ rfl)
 |false=>
  repeat' (first|apply zs_|apply zb_|apply zc_|apply zt_ rfl|apply zf_ rfl|(refine zd_ rfl ?_ ?_<;>intro ht<;>try omega)|((first|apply zr_|apply zk_|apply ze_|apply zq_|(apply zG<;>intro ht));all_goals try simp (disch:=first|omega|(simp only [lens];first|done|omega)) only [go_sem]))
  exact DownV.same hw (zz _ rfl)
end
section
structure ChkM(ia ib:Nat)(J J':Store)(o nw:List UInt8)(pv:AV)(ps:List (List UInt8))(a b:List UInt8):Prop where
 hab:(ia=3/\ ib=4) \/(ia=4/\ ib=3)
 len:J.length+5<=J'.length
 keep:∀q,q<J.length->J'[q]? =J[q]?
 g0:J'[J.length]? =some (some [zj o])
 g1:J'[J.length+1]? =some (some [zj nw])
 g2:J'[J.length+2]? =some (some [[pv]])
 g3:J'[J.length+ia]? =some (some [zj a])
 g4:J'[J.length+ib]? =some (some [zj b])
 hp:SlV 32 (zo ps) pv
 ha:a.length=32
 hb:b.length=32
theorem ChkM.app{ia ib:Nat}{J J' y:Store}{o nw:List UInt8}{pv:AV}{ps:List (List UInt8)}{a b:List UInt8}(h:ChkM ia ib J J' o nw pv ps a b):ChkM ia ib J (J'++y) o nw pv ps a b:=by
 have hl:=h.len
 have hab:=h.hab
 refine⟨hab,by rw [List.length_append];omega,fun q hq=> ?_,?_,?_,?_,?_,?_,h.hp,h.ha,h.hb⟩
 ·rw [gapp (by omega)];exact h.keep q hq
 ·rw [gapp (by omega)];exact h.g0
 ·rw [gapp (by omega)];exact h.g1
 ·rw [gapp (by omega)];exact h.g2
 ·rw [gapp (by omega)];exact h.g3
 ·rw [gapp (by omega)];exact h.g4
theorem ChkM.setp{ia ib:Nat}{J J':Store}{o nw:List UInt8}{pv:AV}{ps:List (List UInt8)}{a b:List UInt8}(h:ChkM ia ib J J' o nw pv ps a b){qv:AV}{qs:List (List UInt8)}(hq:SlV 32 (zo qs) qv):ChkM ia ib J (J'.set (J.length+2) (some [[qv]])) o nw qv qs a b:=by
 have hl:=h.len
 have hab:=h.hab
 refine⟨hab,by rw [List.length_set];omega,fun q hq=> ?_,?_,?_,?_,?_,?_,hq,h.ha,h.hb⟩
 ·rw [z1c (by omega)];exact h.keep q hq
 ·rw [z1c (by omega)];exact h.g0
 ·rw [z1c (by omega)];exact h.g1
 ·rw [z2e (by omega)]
 ·rw [z1c (by omega)];exact h.g3
 ·rw [z1c (by omega)];exact h.g4
theorem ChkM.seta{ia ib:Nat}{J J':Store}{o nw:List UInt8}{pv:AV}{ps:List (List UInt8)}{a b:List UInt8}(h:ChkM ia ib J J' o nw pv ps a b){a':List UInt8}(ha:a'.length=32):ChkM ia ib J (J'.set (J.length+ia) (some [zj a'])) o nw pv ps a' b:=by
 have hl:=h.len
 have hab:=h.hab
 refine⟨hab,by rw [List.length_set];omega,fun q hq=> ?_,?_,?_,?_,?_,?_,h.hp,ha,h.hb⟩
 ·rw [z1c (by omega)];exact h.keep q hq
 ·rw [z1c (by omega)];exact h.g0
 ·rw [z1c (by omega)];exact h.g1
 ·rw [z1c (by omega)];exact h.g2
 ·rw [z2e (by omega)]
 ·rw [z1c (by omega)];exact h.g4
theorem ChkM.setb{ia ib:Nat}{J J':Store}{o nw:List UInt8}{pv:AV}{ps:List (List UInt8)}{a b:List UInt8}(h:ChkM ia ib J J' o nw pv ps a b){b':List UInt8}(hb:b'.length=32):ChkM ia ib J (J'.set (J.length+ib) (some [zj b'])) o nw pv ps a b':=by
 have hl:=h.len
 have hab:=h.hab
 refine⟨hab,by rw [List.length_set];omega,fun q hq=> ?_,?_,?_,?_,?_,?_,h.hp,h.ha,hb⟩
 ·rw [z1c (by omega)];exact h.keep q hq
 ·rw [z1c (by omega)];exact h.g0
 ·rw [z1c (by omega)];exact h.g1
 ·rw [z1c (by omega)];exact h.g2
 ·rw [z1c (by omega)];exact h.g3
 ·rw [z2e (by omega)]
theorem ChkM.fin{ia ib:Nat}{J J':Store}{o nw:List UInt8}{pv:AV}{ps:List (List UInt8)}{a b:List UInt8}(h:ChkM ia ib J J' o nw pv ps a b)(hw:Wf J.length J){i:Int}:DownV J.length (.int .i64 i) J' (.int .i64 i) J:=by
 have hl:=h.len
 have hab:=h.hab
 obtain⟨y,rfl⟩:=zcj (by omega) h.keep
 exact DownV.pure hw (zz _ rfl)
theorem SlV.cells{sz:Nat}{es:List (List AV)}{x:AV}(h:SlV sz es x):cellsOf x=some [x]:=by
 rcases h with⟨rfl,rfl⟩| ⟨ex,rfl⟩<;>rfl
theorem zn7:H32 []:=fun _ h=>by simp at h
theorem z4s{J J':Store}{i:Int}(hw:Wf J.length J)(h:J<+:J'):DownV J.length (.int .i64 i) J' (.int .i64 i) J:=by
 obtain⟨y,rfl⟩:=h
 exact DownV.pure hw (zz _ rfl)
theorem zjt(J:Store)(m n:Int)(o nw:List UInt8)(x:AV)(es:List (List AV))(hx:SlV 32 es x)(h:n<0 \/4096<n \/m<0 \/n<m):
  ACallsTo TC 46 [.int .i64 m,.int .i64 n,.agg (zj o),.agg (zj nw),x] J (.int .i64 2) J:=by
 have r0:=hx.cells
 unfold cellsOf at r0
 refine ACallsTo.of_body qpok (by simp) fun hw _=> ?_
 repeat' (first|apply zs_|apply zb_|apply zc_|apply zt_ rfl|apply zf_ rfl|(refine zd_ rfl ?_ ?_<;>intro ht<;>try omega)|((first|apply zr_|apply zk_|apply ze_|apply zq_|(apply zG<;>intro ht));all_goals try simp (disch:=first|omega|(simp only [lens];first|done|omega)) only [go_sem,r0]))
 all_goals (refine z4s hw ?_;simp)
theorem zjz(J:Store)(n:Int)(o nw:List UInt8)(x:AV)(ps:List (List UInt8))(hx:SlV 32 (zo ps) x)(ho:o.length=32)(hn:nw.length=32)(h0:0<=n)(h1:n<=4096)(hl:ps.length<1000000):
  ACallsTo TC 46 [.int .i64 0,.int .i64 n,.agg (zj o),.agg (zj nw),x] J (.int .i64 (if ps=[]/\ o=z13 []/\ (0<n \/nw=o)then 0 else 80)) J:=by
 have r0:=hx.cells
 unfold cellsOf at r0
 have r1:=hx.len
 rw [z2f]at r1
 unfold z1h at r1
 have c1:=zm o
 have c2:=zm nw
 rw [ho]at c1
 rw [hn]at c2
 have hR:∀J,ACallsTo TC 39 [.nilsl] J (.agg (zj (z13 []))) J:=fun J=>z9o J [] .nilsl (.inl ⟨rfl,rfl⟩) (fun _ h=>by simp at h) (by simp)
 have k1:=z4b ho
 have k2:=z4b hn
 have k3:=z4b (z2l (zn7))
 have e1:=z6w o (z13 [])
 have e2:=z6w nw o
 by_cases q1:ps=[]
 ·have q1':ps.length=0:=by rw [q1];rfl
  by_cases q2:o=z13 []
  ·rw [decide_eq_true q2]at e1
   by_cases q3:0<n
   ·rw [if_pos ⟨q1,q2,.inl q3⟩]
    generalize zj (z13 [])=rr at*
    generalize zj o=ro at*
    generalize zj nw=rn at*
    refine ACallsTo.of_body qpok (by simp) fun hw _=> ?_
    repeat' (first|apply zs_|apply zb_|apply zc_|apply zt_ rfl|apply zf_ rfl|(refine zd_ rfl ?_ ?_<;>intro ht<;>try omega)|((first|apply zr_|apply zk_|apply ze_|apply zq_|(apply callW.mk_pu;(first|exact(fun _=>hR _)|exact(fun _=>z28 _ true)))|(apply callW.za;(first|exact(hR _)|exact(z28 _ true)))|(apply zG<;>intro ht));all_goals try simp (disch:=first|omega|(simp only [lens];first|done|omega)) only [go_sem,r0,r1,c1,c2,k1,k2,k3,e1,q1']))
    all_goals (refine z4s hw ?_;simp)
   ·by_cases q4:nw=o
    ·rw [decide_eq_true q4]at e2
     rw [if_pos ⟨q1,q2,.inr q4⟩]
     generalize zj (z13 [])=rr at*
     generalize zj o=ro at*
     generalize zj nw=rn at*
     refine ACallsTo.of_body qpok (by simp) fun hw _=> ?_
     repeat' (first|apply zs_|apply zb_|apply zc_|apply zt_ rfl|apply zf_ rfl|(refine zd_ rfl ?_ ?_<;>intro ht<;>try omega)|((first|apply zr_|apply zk_|apply ze_|apply zq_|(apply callW.mk_pu;(first|exact(fun _=>hR _)|exact(fun _=>z28 _ true)))|(apply callW.za;(first|exact(hR _)|exact(z28 _ true)))|(apply zG<;>intro ht));all_goals try simp (disch:=first|omega|(simp only [lens];first|done|omega)) only [go_sem,r0,r1,c1,c2,k1,k2,k3,e1,e2,q1']))
     all_goals (refine z4s hw ?_;simp)
    ·rw [decide_eq_false q4]at e2
     rw [if_neg (fun h=>h.2.2.elim q3 q4)]
     generalize zj (z13 [])=rr at*
     generalize zj o=ro at*
     generalize zj nw=rn at*
     refine ACallsTo.of_body qpok (by simp) fun hw _=> ?_
     repeat' (first|apply zs_|apply zb_|apply zc_|apply zt_ rfl|apply zf_ rfl|(refine zd_ rfl ?_ ?_<;>intro ht<;>try omega)|((first|apply zr_|apply zk_|apply ze_|apply zq_|(apply callW.mk_pu;(first|exact(fun _=>hR _)|exact(fun _=>z28 _ false)))|(apply callW.za;(first|exact(hR _)|exact(z28 _ false)))|(apply zG<;>intro ht));all_goals try simp (disch:=first|omega|(simp only [lens];first|done|omega)) only [go_sem,r0,r1,c1,c2,k1,k2,k3,e1,e2,q1']))
     all_goals (refine z4s hw ?_;simp)
  ·rw [decide_eq_false q2]at e1
   rw [if_neg (fun h=>q2 h.2.1)]
   generalize zj (z13 [])=rr at*
   generalize zj o=ro at*
   generalize zj nw=rn at*
   refine ACallsTo.of_body qpok (by simp) fun hw _=> ?_
   repeat' (first|apply zs_|apply zb_|apply zc_|apply zt_ rfl|apply zf_ rfl|(refine zd_ rfl ?_ ?_<;>intro ht<;>try omega)|((first|apply zr_|apply zk_|apply ze_|apply zq_|(apply callW.mk_pu;(first|exact(fun _=>hR _)|exact(fun _=>z28 _ false)))|(apply callW.za;(first|exact(hR _)|exact(z28 _ false)))|(apply zG<;>intro ht));all_goals try simp (disch:=first|omega|(simp only [lens];first|done|omega)) only [go_sem,r0,r1,c1,c2,k1,k2,k3,e1,q1']))
   all_goals (refine z4s hw ?_;simp)
 ·have q1':¬(ps.length:Int)=0:=by intro e;exact q1 (List.eq_nil_of_length_eq_zero (by omega))
  have q1'':¬ps.length=0:=by omega
  rw [if_neg (fun h=>q1 h.1)]
  generalize zj (z13 [])=rr at*
  generalize zj o=ro at*
  generalize zj nw=rn at*
  refine ACallsTo.of_body qpok (by simp) fun hw _=> ?_
  repeat' (first|apply zs_|apply zb_|apply zc_|apply zt_ rfl|apply zf_ rfl|(refine zd_ rfl ?_ ?_<;>intro ht<;>try omega)|((first|apply zr_|apply zk_|apply ze_|apply zq_|(apply callW.mk_pu;(first|exact(fun _=>hR _)|exact(fun _=>z28 _ false)))|(apply callW.za;(first|exact(hR _)|exact(z28 _ false)))|(apply zG<;>intro ht));all_goals try simp (disch:=first|omega|(simp only [lens];first|done|omega)) only [go_sem,r0,r1,c1,c2,q1',q1'']))
  all_goals (refine z4s hw ?_;simp)
theorem zjw(J:Store)(n:Int)(o nw:List UInt8)(x:AV)(ps:List (List UInt8))(hx:SlV 32 (zo ps) x)(ho:o.length=32)(hn:nw.length=32)(h0:0<n)(h1:n<=4096)(hl:ps.length<1000000):
  ACallsTo TC 46 [.int .i64 n,.int .i64 n,.agg (zj o),.agg (zj nw),x] J (.int .i64 (if ps=[]/\ o=nw then 0 else 80)) J:=by
 have r0:=hx.cells
 unfold cellsOf at r0
 have r1:=hx.len
 rw [z2f]at r1
 unfold z1h at r1
 have c1:=zm o
 have c2:=zm nw
 rw [ho]at c1
 rw [hn]at c2
 have k1:=z4b ho
 have k2:=z4b hn
 have e2:=z6w o nw
 by_cases q1:ps=[]
 ·have q1':ps.length=0:=by rw [q1];rfl
  by_cases q2:o=nw
  ·rw [decide_eq_true q2]at e2
   rw [if_pos ⟨q1,q2⟩]
   generalize zj o=ro at*
   generalize zj nw=rn at*
   refine ACallsTo.of_body qpok (by simp) fun hw _=> ?_
   repeat' (first|apply zs_|apply zb_|apply zc_|apply zt_ rfl|apply zf_ rfl|(refine zd_ rfl ?_ ?_<;>intro ht<;>try omega)|((first|apply zr_|apply zk_|apply ze_|apply zq_|(apply callW.mk_pu;(first|exact(fun _=>z28 _ true)))|(apply callW.za;(first|exact(z28 _ true)))|(apply zG<;>intro ht));all_goals try simp (disch:=first|omega|(simp only [lens];first|done|omega)) only [go_sem,r0,r1,c1,c2,k1,k2,e2,q1']))
   all_goals (refine z4s hw ?_;simp)
  ·rw [decide_eq_false q2]at e2
   rw [if_neg (fun h=>q2 h.2)]
   generalize zj o=ro at*
   generalize zj nw=rn at*
   refine ACallsTo.of_body qpok (by simp) fun hw _=> ?_
   repeat' (first|apply zs_|apply zb_|apply zc_|apply zt_ rfl|apply zf_ rfl|(refine zd_ rfl ?_ ?_<;>intro ht<;>try omega)|((first|apply zr_|apply zk_|apply ze_|apply zq_|(apply callW.mk_pu;(first|exact(fun _=>z28 _ false)))|(apply callW.za;(first|exact(z28 _ false)))|(apply zG<;>intro ht));all_goals try simp (disch:=first|omega|(simp only [lens];first|done|omega)) only [go_sem,r0,r1,c1,c2,k1,k2,e2,q1']))
   all_goals (refine z4s hw ?_;simp)
 ·have q1':¬(ps.length:Int)=0:=by intro e;exact q1 (List.eq_nil_of_length_eq_zero (by omega))
  have q1'':¬ps.length=0:=by omega
  rw [if_neg (fun h=>q1 h.1)]
  generalize zj o=ro at*
  generalize zj nw=rn at*
  refine ACallsTo.of_body qpok (by simp) fun hw _=> ?_
  repeat' (first|apply zs_|apply zb_|apply zc_|apply zt_ rfl|apply zf_ rfl|(refine zd_ rfl ?_ ?_<;>intro ht<;>try omega)|((first|apply zr_|apply zk_|apply ze_|apply zq_|(apply callW.mk_pu;(first|exact(fun _=>z28 _ false)))|(apply callW.za;(first|exact(z28 _ false)))|(apply zG<;>intro ht));all_goals try simp (disch:=first|omega|(simp only [lens];first|done|omega)) only [go_sem,r0,r1,c1,c2,q1',q1'']))
  all_goals (refine z4s hw ?_;simp)
end
section
theorem lp_pos{i last:Nat}(h:last ≠ 0):∃t P,lp i last=t::P:=by
 by_cases h1:i%2=1
 ·exact⟨_,_,z3v h1 h⟩
 ·by_cases h2:i=last
  ·subst h2;obtain⟨P,hP⟩:=zcy (i+1) i (Nat.lt_succ_self _) h;exact⟨_,_,hP⟩
  ·exact⟨_,_,z6z h1 h h2⟩
theorem zr6{t:Bool}{P:List Bool}{a b:List UInt8}:run (t::P) [] a b=none:=by cases t<;>rfl
theorem z8x{h:List UInt8}(hh:h.length=32):(zj h).drop 32=[]:=by
 have:=zm h
 exact List.drop_of_length_le (by omega)
theorem z8y{h:List UInt8}(hh:h.length=32):(zj h).take 32=zj h:=by
 have:=zm h
 exact List.take_of_length_le (by omega)
theorem zew(ia ib:Nat)(J:Store)(hw:Wf J.length J)(o nw:List UInt8)(ho:o.length=32)(hn:nw.length=32)(R:Option (List UInt8 × List UInt8))(ρ:Env)(J':Store)(i last:Nat)(pv:AV)(ps:List (List UInt8))(a b:List UInt8)
  (hM:ChkM ia ib J J' o nw pv ps a b) (hH:H32 ps) (hi:i<4096) (hl:last<4096) (hpl:ps.length<1000000) (hR:run (lp i last) ps a b=R)
  (q7:ρ 7= .ptr J.length 0 0) (q8:ρ 8= .ptr (J.length+1) 0 0) (q9:ρ 9= .ptr (J.length+2) 0 0) (q11:ρ 11= .int .i64 i) (q12:ρ 12= .int .i64 last)
  (q13:ρ 13= .fn 95 [.ptr (J.length+2) 0 0]) (q14:ρ 14= .ptr (J.length+ia) 0 0) (q15:ρ 15= .ptr (J.length+ib) 0 0):
  zW TC 152 J.length zdk (endQ J.length [.t 10] (.int .i64 (fitI R o nw)) J) ρ J':=by
 repeat' (first|apply zs_|apply zb_|apply zc_|apply zt_ rfl|apply zf_ rfl|(refine zd_ rfl ?_ ?_<;>intro ht<;>try omega)|((first|apply zr_|apply zk_|apply ze_|apply zq_|(apply zG<;>intro ht));all_goals try simp (disch:=first|omega|(simp only [lens];first|done|omega)) only [go_sem]))
 refine zW.loop (fun m ρ J'=>∃(i last:Nat) (pv:AV) (ps:List (List UInt8)) (a b:List UInt8),m=last/\ ChkM ia ib J J' o nw pv ps a b/\ H32 ps/\ i<4096/\ last<4096/\ ps.length<1000000/\ run (lp i last) ps a b=R ∧
  ρ 7= .ptr J.length 0 0/\ ρ 8= .ptr (J.length+1) 0 0/\ ρ 9= .ptr (J.length+2) 0 0/\ ρ 11= .int .i64 i/\ ρ 12= .int .i64 last/\ ρ 13= .fn 95 [.ptr (J.length+2) 0 0]/\ ρ 14= .ptr (J.length+ia) 0 0/\ ρ 15= .ptr (J.length+ib) 0 0) last ?_ ?_
 ·exact⟨i,last,pv,ps,a,b,rfl,hM,hH,hi,hl,hpl,hR,q7,q8,q9,q11,q12,q13,q14,q15⟩
 clear hM hH hi hl hpl hR q7 q8 q9 q11 q12 q13 q14 q15 i last pv ps a b ρ J'
 rintro last ρ J' ⟨i,_,pv,ps,a,b,rfl,hM,hH,hi,hl,hpl,hR,q7,q8,q9,q11,q12,q13,q14,q15⟩
 have hlen:=hM.len
 have hab:=hM.hab
 have g0:=hM.g0
 have g1:=hM.g1
 have g2:=hM.g2
 have g3:=hM.g3
 have g4:=hM.g4
 have c0:=zm o
 have c1:=zm nw
 have ca:=zm a
 have cb:=zm b
 rw [ho]at c0
 rw [hn]at c1
 rw [hM.ha]at ca
 rw [hM.hb]at cb
 by_cases h0:last=0
 ·subst h0
  rw [z6d]at hR
  have r1:=hM.hp.len
  rw [z2f]at r1
  unfold z1h at r1
  have k0:=z4b ho
  have k1:=z4b hn
  have ka:=z4b hM.ha
  have kb:=z4b hM.hb
  have e1:=z6w a o
  have e2:=z6w b nw
  by_cases p1:ps=[]
  ·have p1':ps.length=0:=by rw [p1];rfl
   have hR':R=some (a,b):=by rw [<-hR,p1];rfl
   by_cases p2:a=o
   ·rw [decide_eq_true p2]at e1
    by_cases p3:b=nw
    ·rw [decide_eq_true p3]at e2
     have hf:fitI R o nw=0:=by rw [hR'];unfold fitI;simp only;rw [if_pos ⟨p2,p3⟩]
     rw [hf]
     repeat' (first|apply zs_|apply zb_|apply zc_|apply zt_ rfl|apply zf_ rfl|(refine zd_ rfl ?_ ?_<;>intro ht<;>try omega)|((first|apply zr_|apply zk_|apply ze_|apply zq_|(apply callW.mk_pu;(first|exact(fun _=>z28 _ true)))|(apply callW.za;(first|exact(z28 _ true)))|(apply zG<;>intro ht));all_goals try simp (disch:=first|omega|(simp only [lens];first|done|omega)) only [go_sem,q7,q8,q9,q12,q14,q15,r1,g0,g1,g2,g3,g4,c0,c1,ca,cb,k0,k1,ka,kb,e1,e2,p1']))
     exact hM.fin hw
    ·rw [decide_eq_false p3]at e2
     have hf:fitI R o nw=80:=by rw [hR'];unfold fitI;simp only;rw [if_neg (fun h=>p3 h.2)]
     rw [hf]
     repeat' (first|apply zs_|apply zb_|apply zc_|apply zt_ rfl|apply zf_ rfl|(refine zd_ rfl ?_ ?_<;>intro ht<;>try omega)|((first|apply zr_|apply zk_|apply ze_|apply zq_|(apply callW.mk_pu;(first|exact(fun _=>z28 _ false)))|(apply callW.za;(first|exact(z28 _ false)))|(apply zG<;>intro ht));all_goals try simp (disch:=first|omega|(simp only [lens];first|done|omega)) only [go_sem,q7,q8,q9,q12,q14,q15,r1,g0,g1,g2,g3,g4,c0,c1,ca,cb,k0,k1,ka,kb,e1,e2,p1']))
     exact hM.fin hw
   ·rw [decide_eq_false p2]at e1
    have hf:fitI R o nw=80:=by rw [hR'];unfold fitI;simp only;rw [if_neg (fun h=>p2 h.1)]
    rw [hf]
    repeat' (first|apply zs_|apply zb_|apply zc_|apply zt_ rfl|apply zf_ rfl|(refine zd_ rfl ?_ ?_<;>intro ht<;>try omega)|((first|apply zr_|apply zk_|apply ze_|apply zq_|(apply callW.mk_pu;(first|exact(fun _=>z28 _ false)))|(apply callW.za;(first|exact(z28 _ false)))|(apply zG<;>intro ht));all_goals try simp (disch:=first|omega|(simp only [lens];first|done|omega)) only [go_sem,q7,q8,q9,q12,q14,q15,r1,g0,g1,g2,g3,g4,c0,c1,ca,cb,k0,k1,ka,kb,e1,p1']))
    exact hM.fin hw
  ·have p1':¬(ps.length:Int)=0:=by intro e;exact p1 (List.eq_nil_of_length_eq_zero (by omega))
   have p1'':¬ps.length=0:=by omega
   have hf:fitI R o nw=80:=by
    have:R=none:=by
     rw [<-hR]
     cases ps with
     |nil=>exact absurd rfl p1
     |cons _ _=>rfl
    rw [this];rfl
   rw [hf]
   repeat' (first|apply zs_|apply zb_|apply zc_|apply zt_ rfl|apply zf_ rfl|(refine zd_ rfl ?_ ?_<;>intro ht<;>try omega)|((first|apply zr_|apply zk_|apply ze_|apply zq_|(apply callW.mk_pu;(first|exact(fun _=>z28 _ false)))|(apply callW.za;(first|exact(z28 _ false)))|(apply zG<;>intro ht));all_goals try simp (disch:=first|omega|(simp only [lens];first|done|omega)) only [go_sem,q7,q8,q9,q12,q14,q15,r1,g0,g1,g2,g3,g4,c0,c1,p1',p1'']))
   exact hM.fin hw
 ·cases ps with
  |nil=>
   have hf:fitI R o nw=80:=by
    obtain⟨t,P,e⟩:=lp_pos (i:=i) h0
    rw [e,zr6]at hR
    rw [<-hR];rfl
   rw [hf]
   have hnx:=zhn (J.length+2) J' pv hM.hp g2
   have dz:(zj z44).drop 32=[]:=rfl
   have hl0:(0:Int)<last:=by omega
   have cz:(zj z44).length=32:=by rw [zm];rfl
   repeat' (first|apply zs_|apply zb_|apply zc_|apply zt_ rfl|apply zf_ rfl|(refine zd_ rfl ?_ ?_<;>intro ht<;>try omega)|((first|apply zr_|apply zk_|apply ze_|apply zq_|(apply callW.mk_pu;(first|exact(fun _=>hnx)))|(apply callW.za;(first|exact(hnx)))|(apply zG<;>intro ht));all_goals try simp (disch:=first|omega|(simp only [lens];first|done|omega)) only [go_sem,q7,q8,q9,q12,q13,q14,q15,g0,g1,g2,g3,g4,cz,dz,hl0]))
   exact(hM.app (y:=[some [zj z44],some [zj z44]])).fin hw
  |cons h qs=>
   have hh:h.length=32:=hH h (by simp)
   have hq:H32 qs:=fun x hx=>hH x (by simp [hx])
   obtain⟨ex,rfl⟩:=hM.hp.vsl (by rw [z2f];simp)
   simp only [List.length_cons]at hpl
   have hnx:=zho (J.length+2) J' h qs ex hh (by omega) g2
   have ch:=zm h
   rw [hh]at ch
   have c7:=zm (z1l h a)
   have c8:=zm (z1l h b)
   have c9:=zm (z1l b h)
   rw [z3m]at c7 c8 c9
   have d0:=z8x hM.ha
   have d1:=z8x hM.hb
   have d2:=z8x hh
   have t0:=z8y hM.ha
   have t1:=z8y hM.hb
   have t2:=z8y hh
   by_cases hc:i%2=1 \/i=last
   ·have hl0:(0:Int)<last:=by omega
    obtain⟨P,hP⟩:∃P,lp i last=true::P:=by
     rcases hc with hc|rfl
     ·exact⟨_,z3v hc h0⟩
     ·exact zcy (i+1) i (Nat.lt_succ_self _) h0
    rw [hP]at hR
    rcases hc with hc|rfl
    ·have hc1:(i:Int)%2=1:=by omega
     repeat' (first|apply zs_|apply zb_|apply zc_|apply zt_ rfl|apply zf_ rfl|(refine zd_ rfl ?_ ?_<;>intro ht<;>try omega)|((first|apply zr_|apply zk_|apply ze_|apply zq_|(apply callW.mk_pu;(first|exact(fun _=>hnx)|exact(fun _=>z1z _ h a hh hM.ha)|exact(fun _=>z1z _ h b hh hM.hb)|exact(fun _=>z1z _ b h hM.hb hh)))|(apply callW.za;(first|exact(hnx)|exact(z1z _ h a hh hM.ha)|exact(z1z _ h b hh hM.hb)|exact(z1z _ b h hM.hb hh)))|(apply zG<;>intro ht));all_goals try simp (disch:=first|omega|(simp only [lens];first|done|omega)) only [go_sem,q7,q8,q9,q11,q12,q13,q14,q15,g0,g1,g2,g3,g4,ca,cb,ch,c7,c8,c9,d0,d1,d2,t0,t1,t2,hc1,hl0]))
     have hM2:=(((hM.setp (qs:=qs) (qv:= .vsl 32 (zo qs) ex) (.inr ⟨ex,rfl⟩)).seta (z3m h a)).setb (z3m h b)).app (y:=[some [zj h],some [zj h]])
     refine zW.loop (fun m ρ2 J2=>∃(i2 last2:Nat),m=i2/\ ChkM ia ib J J2 o nw (.vsl 32 (zo qs) ex) qs (z1l h a) (z1l h b)/\ lp i2 last2=true::P/\ 0<i2/\ (i2%2=1 \/i2=last2)/\ i2<4096/\ last2<=last ∧
      ρ2 7= .ptr J.length 0 0/\ ρ2 8= .ptr (J.length+1) 0 0/\ ρ2 9= .ptr (J.length+2) 0 0/\ ρ2 11= .int .i64 i2/\ ρ2 12= .int .i64 last2/\ ρ2 13= .fn 95 [.ptr (J.length+2) 0 0]/\ ρ2 14= .ptr (J.length+ia) 0 0/\ ρ2 15= .ptr (J.length+ib) 0 0) i ?_ ?_
     ·exact⟨i,last,rfl,hM2,hP,by omega,.inl hc,hi,by omega,by simp (disch:=first|omega|(simp only [lens];first|done|omega)) only [go_sem,q7],by simp (disch:=first|omega|(simp only [lens];first|done|omega)) only [go_sem,q8],by simp (disch:=first|omega|(simp only [lens];first|done|omega)) only [go_sem,q9],by simp (disch:=first|omega|(simp only [lens];first|done|omega)) only [go_sem,q11],by simp (disch:=first|omega|(simp only [lens];first|done|omega)) only [go_sem,q12],by simp (disch:=first|omega|(simp only [lens];first|done|omega)) only [go_sem,q13],by simp (disch:=first|omega|(simp only [lens];first|done|omega)) only [go_sem,q14],by simp (disch:=first|omega|(simp only [lens];first|done|omega)) only [go_sem,q15]⟩
     ·clear q7 q8 q9 q11 q12 q13 q14 q15 g0 g1 g2 g3 g4
      rintro i2 ρ2 J2 ⟨_,last2,rfl,hM3,hlp,hp0,hor,hb2,hl2,q7,q8,q9,q11,q12,q13,q14,q15⟩
      have hln:last2 ≠ 0:=by
       intro e;rw [e,z6d]at hlp;simp at hlp
      by_cases hodd:i2%2=1
      ·have hx1:(i2:Int)%2=1:=by omega
       rw [z3v hodd hln]at hlp
       have hP2:lp (i2/2) (last2/2)=P:=by simpa using hlp
       rw [<-hP2]at hR
       repeat' (first|apply zs_|apply zb_|apply zc_|apply zt_ rfl|apply zf_ rfl|(refine zd_ rfl ?_ ?_<;>intro ht<;>try omega)|((first|apply zr_|apply zk_|apply ze_|apply zq_|(apply zG<;>intro ht));all_goals try simp (disch:=first|omega|(simp only [lens];first|done|omega)) only [go_sem,q7,q8,q9,q11,q12,q13,q14,q15,hx1]))
       exact⟨last2/2,by omega,i2/2,last2/2,_,qs,_,_,rfl,hM3,hq,by omega,by omega,by omega,hR,by simp,by simp⟩
      ·have hx1:(i2:Int)%2=0:=by omega
       have hx2:(0:Int)<i2:=by omega
       obtain rfl:i2=last2:=hor.resolve_left hodd
       rw [z7r hodd]at hlp
       repeat' (first|apply zs_|apply zb_|apply zc_|apply zt_ rfl|apply zf_ rfl|(refine zd_ rfl ?_ ?_<;>intro ht<;>try omega)|((first|apply zr_|apply zk_|apply ze_|apply zq_|(apply zG<;>intro ht));all_goals try simp (disch:=first|omega|(simp only [lens];first|done|omega)) only [go_sem,q7,q8,q9,q11,q12,q13,q14,q15,hx1,hx2]))
       exact⟨i2/2,by omega,i2/2,i2/2,rfl,hM3,hlp,by omega,.inr rfl,by omega,by omega,by simp,by simp⟩
    ·by_cases hc:i%2=1
     ·have hc1:(i:Int)%2=1:=by omega
      repeat' (first|apply zs_|apply zb_|apply zc_|apply zt_ rfl|apply zf_ rfl|(refine zd_ rfl ?_ ?_<;>intro ht<;>try omega)|((first|apply zr_|apply zk_|apply ze_|apply zq_|(apply callW.mk_pu;(first|exact(fun _=>hnx)|exact(fun _=>z1z _ h a hh hM.ha)|exact(fun _=>z1z _ h b hh hM.hb)|exact(fun _=>z1z _ b h hM.hb hh)))|(apply callW.za;(first|exact(hnx)|exact(z1z _ h a hh hM.ha)|exact(z1z _ h b hh hM.hb)|exact(z1z _ b h hM.hb hh)))|(apply zG<;>intro ht));all_goals try simp (disch:=first|omega|(simp only [lens];first|done|omega)) only [go_sem,q7,q8,q9,q11,q12,q13,q14,q15,g0,g1,g2,g3,g4,ca,cb,ch,c7,c8,c9,d0,d1,d2,t0,t1,t2,hc1,hl0]))
      have hM2:=(((hM.setp (qs:=qs) (qv:= .vsl 32 (zo qs) ex) (.inr ⟨ex,rfl⟩)).seta (z3m h a)).setb (z3m h b)).app (y:=[some [zj h],some [zj h]])
      refine zW.loop (fun m ρ2 J2=>∃(i2 last2:Nat),m=i2/\ ChkM ia ib J J2 o nw (.vsl 32 (zo qs) ex) qs (z1l h a) (z1l h b)/\ lp i2 last2=true::P/\ 0<i2/\ (i2%2=1 \/i2=last2)/\ i2<4096/\ last2<=i ∧
       ρ2 7= .ptr J.length 0 0/\ ρ2 8= .ptr (J.length+1) 0 0/\ ρ2 9= .ptr (J.length+2) 0 0/\ ρ2 11= .int .i64 i2/\ ρ2 12= .int .i64 last2/\ ρ2 13= .fn 95 [.ptr (J.length+2) 0 0]/\ ρ2 14= .ptr (J.length+ia) 0 0/\ ρ2 15= .ptr (J.length+ib) 0 0) i ?_ ?_
      ·exact⟨i,i,rfl,hM2,hP,by omega,.inr rfl,hi,by omega,by simp (disch:=first|omega|(simp only [lens];first|done|omega)) only [go_sem,q7],by simp (disch:=first|omega|(simp only [lens];first|done|omega)) only [go_sem,q8],by simp (disch:=first|omega|(simp only [lens];first|done|omega)) only [go_sem,q9],by simp (disch:=first|omega|(simp only [lens];first|done|omega)) only [go_sem,q11],by simp (disch:=first|omega|(simp only [lens];first|done|omega)) only [go_sem,q12],by simp (disch:=first|omega|(simp only [lens];first|done|omega)) only [go_sem,q13],by simp (disch:=first|omega|(simp only [lens];first|done|omega)) only [go_sem,q14],by simp (disch:=first|omega|(simp only [lens];first|done|omega)) only [go_sem,q15]⟩
      ·clear q7 q8 q9 q11 q12 q13 q14 q15 g0 g1 g2 g3 g4
       rintro i2 ρ2 J2 ⟨_,last2,rfl,hM3,hlp,hp0,hor,hb2,hl2,q7,q8,q9,q11,q12,q13,q14,q15⟩
       have hln:last2 ≠ 0:=by
        intro e;rw [e,z6d]at hlp;simp at hlp
       by_cases hodd:i2%2=1
       ·have hx1:(i2:Int)%2=1:=by omega
        rw [z3v hodd hln]at hlp
        have hP2:lp (i2/2) (last2/2)=P:=by simpa using hlp
        rw [<-hP2]at hR
        repeat' (first|apply zs_|apply zb_|apply zc_|apply zt_ rfl|apply zf_ rfl|(refine zd_ rfl ?_ ?_<;>intro ht<;>try omega)|((first|apply zr_|apply zk_|apply ze_|apply zq_|(apply zG<;>intro ht));all_goals try simp (disch:=first|omega|(simp only [lens];first|done|omega)) only [go_sem,q7,q8,q9,q11,q12,q13,q14,q15,hx1]))
        exact⟨last2/2,by omega,i2/2,last2/2,_,qs,_,_,rfl,hM3,hq,by omega,by omega,by omega,hR,by simp,by simp⟩
       ·have hx1:(i2:Int)%2=0:=by omega
        have hx2:(0:Int)<i2:=by omega
        obtain rfl:i2=last2:=hor.resolve_left hodd
        rw [z7r hodd]at hlp
        repeat' (first|apply zs_|apply zb_|apply zc_|apply zt_ rfl|apply zf_ rfl|(refine zd_ rfl ?_ ?_<;>intro ht<;>try omega)|((first|apply zr_|apply zk_|apply ze_|apply zq_|(apply zG<;>intro ht));all_goals try simp (disch:=first|omega|(simp only [lens];first|done|omega)) only [go_sem,q7,q8,q9,q11,q12,q13,q14,q15,hx1,hx2]))
        exact⟨i2/2,by omega,i2/2,i2/2,rfl,hM3,hlp,by omega,.inr rfl,by omega,by omega,by simp,by simp⟩
     ·have hc1:(i:Int)%2=0:=by omega
      repeat' (first|apply zs_|apply zb_|apply zc_|apply zt_ rfl|apply zf_ rfl|(refine zd_ rfl ?_ ?_<;>intro ht<;>try omega)|((first|apply zr_|apply zk_|apply ze_|apply zq_|(apply callW.mk_pu;(first|exact(fun _=>hnx)|exact(fun _=>z1z _ h a hh hM.ha)|exact(fun _=>z1z _ h b hh hM.hb)|exact(fun _=>z1z _ b h hM.hb hh)))|(apply callW.za;(first|exact(hnx)|exact(z1z _ h a hh hM.ha)|exact(z1z _ h b hh hM.hb)|exact(z1z _ b h hM.hb hh)))|(apply zG<;>intro ht));all_goals try simp (disch:=first|omega|(simp only [lens];first|done|omega)) only [go_sem,q7,q8,q9,q11,q12,q13,q14,q15,g0,g1,g2,g3,g4,ca,cb,ch,c7,c8,c9,d0,d1,d2,t0,t1,t2,hc1,hl0]))
      have hM2:=(((hM.setp (qs:=qs) (qv:= .vsl 32 (zo qs) ex) (.inr ⟨ex,rfl⟩)).seta (z3m h a)).setb (z3m h b)).app (y:=[some [zj h],some [zj h]])
      refine zW.loop (fun m ρ2 J2=>∃(i2 last2:Nat),m=i2/\ ChkM ia ib J J2 o nw (.vsl 32 (zo qs) ex) qs (z1l h a) (z1l h b)/\ lp i2 last2=true::P/\ 0<i2/\ (i2%2=1 \/i2=last2)/\ i2<4096/\ last2<=i ∧
       ρ2 7= .ptr J.length 0 0/\ ρ2 8= .ptr (J.length+1) 0 0/\ ρ2 9= .ptr (J.length+2) 0 0/\ ρ2 11= .int .i64 i2/\ ρ2 12= .int .i64 last2/\ ρ2 13= .fn 95 [.ptr (J.length+2) 0 0]/\ ρ2 14= .ptr (J.length+ia) 0 0/\ ρ2 15= .ptr (J.length+ib) 0 0) i ?_ ?_
      ·exact⟨i,i,rfl,hM2,hP,by omega,.inr rfl,hi,by omega,by simp (disch:=first|omega|(simp only [lens];first|done|omega)) only [go_sem,q7],by simp (disch:=first|omega|(simp only [lens];first|done|omega)) only [go_sem,q8],by simp (disch:=first|omega|(simp only [lens];first|done|omega)) only [go_sem,q9],by simp (disch:=first|omega|(simp only [lens];first|done|omega)) only [go_sem,q11],by simp (disch:=first|omega|(simp only [lens];first|done|omega)) only [go_sem,q12],by simp (disch:=first|omega|(simp only [lens];first|done|omega)) only [go_sem,q13],by simp (disch:=first|omega|(simp only [lens];first|done|omega)) only [go_sem,q14],by simp (disch:=first|omega|(simp only [lens];first|done|omega)) only [go_sem,q15]⟩
      ·clear q7 q8 q9 q11 q12 q13 q14 q15 g0 g1 g2 g3 g4
       rintro i2 ρ2 J2 ⟨_,last2,rfl,hM3,hlp,hp0,hor,hb2,hl2,q7,q8,q9,q11,q12,q13,q14,q15⟩
       have hln:last2 ≠ 0:=by
        intro e;rw [e,z6d]at hlp;simp at hlp
       by_cases hodd:i2%2=1
       ·have hx1:(i2:Int)%2=1:=by omega
        rw [z3v hodd hln]at hlp
        have hP2:lp (i2/2) (last2/2)=P:=by simpa using hlp
        rw [<-hP2]at hR
        repeat' (first|apply zs_|apply zb_|apply zc_|apply zt_ rfl|apply zf_ rfl|(refine zd_ rfl ?_ ?_<;>intro ht<;>try omega)|((first|apply zr_|apply zk_|apply ze_|apply zq_|(apply zG<;>intro ht));all_goals try simp (disch:=first|omega|(simp only [lens];first|done|omega)) only [go_sem,q7,q8,q9,q11,q12,q13,q14,q15,hx1]))
        exact⟨last2/2,by omega,i2/2,last2/2,_,qs,_,_,rfl,hM3,hq,by omega,by omega,by omega,hR,by simp,by simp⟩
       ·have hx1:(i2:Int)%2=0:=by omega
        have hx2:(0:Int)<i2:=by omega
        obtain rfl:i2=last2:=hor.resolve_left hodd
        rw [z7r hodd]at hlp
        repeat' (first|apply zs_|apply zb_|apply zc_|apply zt_ rfl|apply zf_ rfl|(refine zd_ rfl ?_ ?_<;>intro ht<;>try omega)|((first|apply zr_|apply zk_|apply ze_|apply zq_|(apply zG<;>intro ht));all_goals try simp (disch:=first|omega|(simp only [lens];first|done|omega)) only [go_sem,q7,q8,q9,q11,q12,q13,q14,q15,hx1,hx2]))
        exact⟨i2/2,by omega,i2/2,i2/2,rfl,hM3,hlp,by omega,.inr rfl,by omega,by omega,by simp,by simp⟩
   ·have hc1:(i:Int)%2=0:=by omega
    have hc2:¬(i:Int)=last:=by omega
    have hl0:(0:Int)<last:=by omega
    rw [z6z (by omega) h0 (by omega)]at hR
    repeat' (first|apply zs_|apply zb_|apply zc_|apply zt_ rfl|apply zf_ rfl|(refine zd_ rfl ?_ ?_<;>intro ht<;>try omega)|((first|apply zr_|apply zk_|apply ze_|apply zq_|(apply callW.mk_pu;(first|exact(fun _=>hnx)|exact(fun _=>z1z _ h a hh hM.ha)|exact(fun _=>z1z _ h b hh hM.hb)|exact(fun _=>z1z _ b h hM.hb hh)))|(apply callW.za;(first|exact(hnx)|exact(z1z _ h a hh hM.ha)|exact(z1z _ h b hh hM.hb)|exact(z1z _ b h hM.hb hh)))|(apply zG<;>intro ht));all_goals try simp (disch:=first|omega|(simp only [lens];first|done|omega)) only [go_sem,q7,q8,q9,q11,q12,q13,q14,q15,g0,g1,g2,g3,g4,ca,cb,ch,c7,c8,c9,d0,d1,d2,t0,t1,t2,hc1,hc2,hl0]))
    exact⟨last/2,by omega,i/2,last/2,_,qs,a,z1l b h,rfl,((hM.setp (qs:=qs) (qv:= .vsl 32 (zo qs) ex) (.inr ⟨ex,rfl⟩)).setb (z3m b h)).app,hq,by omega,by omega,by omega,hR,by simp,by simp⟩
end
section
attribute [local irreducible] zdk
theorem zju(J:Store)(m n:Nat)(o nw:List UInt8)(x:AV)(ps:List (List UInt8))(hx:SlV 32 (zo ps) x)(hH:H32 ps)(ho:o.length=32)(hn:nw.length=32)(h0:0<m)(h1:m<n)(h2:n<=4096)(hl:ps.length<1000000):
  ACallsTo TC 46 [.int .i64 m,.int .i64 n,.agg (zj o),.agg (zj nw),x] J (.int .i64 (fitI (chkS (m-1) (n-1) o ps) o nw)) J:=by
 have r0:=hx.cells
 unfold cellsOf at r0
 have c1:=zm o
 have c2:=zm nw
 rw [ho]at c1
 rw [hn]at c2
 have d1:=z8x ho
 have t1:=z8y ho
 obtain⟨R,hR⟩:∃R,R=chkS (m-1) (n-1) o ps:=⟨_,rfl⟩
 rw [<-hR]
 refine ACallsTo.of_body qpok (by simp) fun hw _=> ?_
 have hm1:(m:Int)-1=((m-1:Nat):Int):=by omega
 have hn1:(n:Int)-1=((n-1:Nat):Int):=by omega
 repeat' (first|apply zs_|apply zb_|apply zc_|apply zt_ rfl|apply zf_ rfl|(refine zd_ rfl ?_ ?_<;>intro ht<;>try omega)|((first|apply zr_|apply zk_|apply ze_|apply zq_|(apply zG<;>intro ht));all_goals try simp (disch:=first|omega|(simp only [lens];first|done|omega)) only [go_sem,r0,hm1,hn1]))
 refine zW.loop (fun k ρ J'=>∃(i last:Nat),k=i/\ J'=J++ [some [zj o],some [zj nw],some [[x]]]/\ R=chkG (st i last).1 (st i last).2 o ps/\ i<4096/\ last<4096 ∧
  ρ 7= .ptr J.length 0 0/\ ρ 8= .ptr (J.length+1) 0 0/\ ρ 9= .ptr (J.length+2) 0 0/\ ρ 11= .int .i64 i/\ ρ 12= .int .i64 last) (m-1) ?_ ?_
 ·exact⟨m-1,n-1,rfl,by simp,hR,by omega,by omega,by simp (disch:=first|omega|(simp only [lens];first|done|omega)) only [go_sem],by simp (disch:=first|omega|(simp only [lens];first|done|omega)) only [go_sem],by simp (disch:=first|omega|(simp only [lens];first|done|omega)) only [go_sem],by simp (disch:=first|omega|(simp only [lens];first|done|omega)) only [go_sem],by simp (disch:=first|omega|(simp only [lens];first|done|omega)) only [go_sem]⟩
 ·clear hm1 hn1 hR h0 h1 h2
  rintro i ρ J' ⟨_,last,rfl,rfl,hR,hi,hla,q7,q8,q9,q11,q12⟩
  by_cases ho1:i%2=1
  ·have hx1:(i:Int)%2=1:=by omega
   rw [z6m ho1]at hR
   repeat' (first|apply zs_|apply zb_|apply zc_|apply zt_ rfl|apply zf_ rfl|(refine zd_ rfl ?_ ?_<;>intro ht<;>try omega)|((first|apply zr_|apply zk_|apply ze_|apply zq_|(apply zG<;>intro ht));all_goals try simp (disch:=first|omega|(simp only [lens];first|done|omega)) only [go_sem,q7,q8,q9,q11,q12,hx1]))
   exact⟨i/2,by omega,i/2,last/2,rfl,hR,by omega,by omega,by simp,by simp⟩
  ·have hx1:(i:Int)%2=0:=by omega
   rw [z4j ho1]at hR
   simp only [chkG]at hR
   have hM:∀ia ib:Nat,((ia=3/\ ib=4) \/(ia=4/\ ib=3))->ChkM ia ib J (J++ [some [zj o],some [zj nw],some [[x]],some [zj o],some [zj o]]) o nw x ps o o:=fun ia ib hab=>
    ⟨hab,by simp,fun q hq=>gapp hq,by simp,by simp,by simp,by rcases hab with⟨rfl,rfl⟩| ⟨rfl,rfl⟩<;>simp,by rcases hab with⟨rfl,rfl⟩| ⟨rfl,rfl⟩<;>simp,hx,ho,ho⟩
   have key:∀(ia ib:Nat),((ia=3/\ ib=4) \/(ia=4/\ ib=3))->∀ρ1:Env,ρ1 7= .ptr J.length 0 0->ρ1 8= .ptr (J.length+1) 0 0->ρ1 9= .ptr (J.length+2) 0 0->ρ1 11= .int .i64 i->ρ1 12= .int .i64 last->
     ρ1 13= .fn 95 [.ptr (J.length+2) 0 0]->ρ1 14= .ptr (J.length+ia) 0 0->ρ1 15= .ptr (J.length+ib) 0 0->
     zW TC 152 J.length qpc72 (endQ J.length [.t 10] (.int .i64 (fitI R o nw)) J) ρ1 (J++ [some [zj o],some [zj nw],some [[x]],some [zj o],some [zj o]]):=by
    clear q7 q8 q9 q11 q12
    intro ia ib hab ρ1 q7 q8 q9 q11 q12 q13 q14 q15
    have hM1:=hM ia ib hab
    by_cases hi0:i=0
    ·subst hi0
     rw [if_neg (by omega)]at hR
     repeat' (first|apply zs_|apply zb_|apply zc_|apply zt_ rfl|apply zf_ rfl|(refine zd_ rfl ?_ ?_<;>intro ht<;>try omega)|((first|apply zr_|apply zk_|apply ze_|apply zq_|(apply zG<;>intro ht));all_goals try simp (disch:=first|omega|(simp only [lens];first|done|omega)) only [go_sem,q7,q8,q9,q11,q12,c1,c2,d1,t1]))
     refine zew ia ib J hw o nw ho hn R _ _ 0 last x ps o o hM1 hH (by omega) hla hl hR.symm ?_ ?_ ?_ ?_ ?_ ?_ ?_ ?_<;>simp (disch:=first|omega|(simp only [lens];first|done|omega)) only [go_sem,q7,q8,q9,q11,q12,q13,q14,q15]
    ·have hi1:(0:Int)<i:=by omega
     rw [if_pos (by omega)]at hR
     have g2:=hM1.g2
     have g3:=hM1.g3
     have g4:=hM1.g4
     have hlen:=hM1.len
     cases ps with
     |nil=>
      have hnx:=zhn (J.length+2) _ x hx g2
      have cz:(zj z44).length=32:=by rw [zm];rfl
      have dz:(zj z44).drop 32=[]:=rfl
      have hf:fitI R o nw=80:=by rw [hR];rfl
      rw [hf]
      have hM2:=hM1.app (y:=[some [zj z44],some [zj z44]])
      generalize (J++ [some [zj o],some [zj nw],some [[x]],some [zj o],some [zj o]])=J1 at*
      repeat' (first|apply zs_|apply zb_|apply zc_|apply zt_ rfl|apply zf_ rfl|(refine zd_ rfl ?_ ?_<;>intro ht<;>try omega)|((first|apply zr_|apply zk_|apply ze_|apply zq_|(apply callW.mk_pu;(first|exact(fun _=>hnx)))|(apply callW.za;(first|exact(hnx)))|(apply zG<;>intro ht));all_goals try simp (disch:=first|omega|(simp only [lens];first|done|omega)) only [go_sem,q7,q8,q9,q11,q12,q13,q14,q15,c1,c2,d1,t1,hi1,cz,dz]))
      exact hM2.fin hw
     |cons h qs=>
      have hh:h.length=32:=hH h (by simp)
      have hq:H32 qs:=fun x hx=>hH x (by simp [hx])
      obtain⟨ex,rfl⟩:=hx.vsl (by rw [z2f];simp)
      simp only [List.length_cons]at hl
      have hnx:=zho (J.length+2) _ h qs ex hh (by omega) g2
      have ch:=zm h
      rw [hh]at ch
      have d2:=z8x hh
      have t2:=z8y hh
      have hM2:=((((hM1.setp (qs:=qs) (qv:= .vsl 32 (zo qs) ex) (.inr ⟨ex,rfl⟩)).seta hh).setb hh).app (y:=[some [zj h],some [zj h]]))
      generalize (J++ [some [zj o],some [zj nw],some [[AV.vsl 32 (zo (h::qs)) ex]],some [zj o],some [zj o]])=J1 at*
      repeat' (first|apply zs_|apply zb_|apply zc_|apply zt_ rfl|apply zf_ rfl|(refine zd_ rfl ?_ ?_<;>intro ht<;>try omega)|((first|apply zr_|apply zk_|apply ze_|apply zq_|(apply callW.mk_pu;(first|exact(fun _=>hnx)))|(apply callW.za;(first|exact(hnx)))|(apply zG<;>intro ht));all_goals try simp (disch:=first|omega|(simp only [lens];first|done|omega)) only [go_sem,q7,q8,q9,q11,q12,q13,q14,q15,g2,g3,g4,c1,c2,ch,d1,d2,t1,t2,hi1]))
      refine zew ia ib J hw o nw ho hn R _ _ i last (.vsl 32 (zo qs) ex) qs h h hM2 hq hi hla (by omega) hR.symm ?_ ?_ ?_ ?_ ?_ ?_ ?_ ?_<;>simp (disch:=first|omega|(simp only [lens];first|done|omega)) only [go_sem,q7,q8,q9,q11,q12,q13,q14,q15]
   clear hM
   repeat' (first|apply zs_|apply zb_|apply zc_|apply zt_ rfl|apply zf_ rfl|(refine zd_ rfl ?_ ?_<;>intro ht<;>try omega)|((first|apply zr_|apply zk_|apply ze_|apply zq_|(apply zG<;>intro ht));all_goals try simp (disch:=first|omega|(simp only [lens];first|done|omega)) only [go_sem,q7,q8,q9,q11,q12,hx1]))
   refine zW.reg2 ?_ ?_
   ·simp (disch:=first|omega|(simp only [lens];first|done|omega)) only [go_sem,q7,q8,q9,q11,q12,c1,c2,d1,t1]
    refine key 3 4 (.inl ⟨rfl,rfl⟩) _ ?_ ?_ ?_ ?_ ?_ ?_ ?_ ?_<;>simp (disch:=first|omega|(simp only [lens];first|done|omega)) only [go_sem,q7,q8,q9,q11,q12]
   ·simp (disch:=first|omega|(simp only [lens];first|done|omega)) only [go_sem,q7,q8,q9,q11,q12,c1,c2,d1,t1]
    refine key 4 3 (.inr ⟨rfl,rfl⟩) _ ?_ ?_ ?_ ?_ ?_ ?_ ?_ ?_<;>simp (disch:=first|omega|(simp only [lens];first|done|omega)) only [go_sem,q7,q8,q9,q11,q12]
theorem zjx(J:Store)(m n:Int)(o nw:List UInt8)(x:AV)(ps:List (List UInt8))(hx:SlV 32 (zo ps) x)(hH:H32 ps)(ho:o.length=32)(hn:nw.length=32)(hl:ps.length<1000000):
  ACallsTo TC 46 [.int .i64 m,.int .i64 n,.agg (zj o),.agg (zj nw),x] J (.int .i64 (chkI m n o nw ps)) J:=by
 unfold chkI
 by_cases h1:n<0 \/4096<n \/m<0 \/n<m
 ·rw [if_pos h1];exact zjt J m n o nw x _ hx h1
 ·rw [if_neg h1]
  by_cases h2:m=0
  ·subst h2;rw [if_pos rfl];exact zjz J n o nw x ps hx ho hn (by omega) (by omega) hl
  ·rw [if_neg h2]
   by_cases h3:m=n
   ·subst h3;rw [if_pos rfl];exact zjw J m o nw x ps hx ho hn (by omega) (by omega) hl
   ·rw [if_neg h3]
    obtain⟨m,rfl⟩:∃k:Nat,m=k:=⟨m.toNat,by omega⟩
    obtain⟨n,rfl⟩:∃k:Nat,n=k:=⟨n.toNat,by omega⟩
    exact zju J m n o nw x ps hx hH ho hn (by omega) (by omega) (by omega) hl
theorem zjv(J:Store)(m n:Int)(o nw:List UInt8)(x:AV)(ps:List (List UInt8))(hx:RdSl J 32 (zo ps) x)(hH:H32 ps)(ho:o.length=32)(hn:nw.length=32)(hl:ps.length<1000000):
  ACallsTo TC 46 [.int .i64 m,.int .i64 n,.agg (zj o),.agg (zj nw),x] J (.int .i64 (chkI m n o nw ps)) J:=by
 obtain⟨x0,h0,hd⟩:=hx.lend (z6i ps)
 have hi:∀i:Int,RL 0 (.int .i64 i):=fun i=>by simp [RL]
 have:=ACallsTo.lend glok (zjx [] m n o nw x0 ps h0 hH ho hn hl) (drsc (rl0 (hi m) J) (drsc (rl0 (hi n) J) (drsc (rl0 (z2k (z2b _)) J) (drsc (rl0 (z2k (z2b _)) J) (drs1 hd)))))
 rwa [show sh J.length (.int .i64 (chkI m n o nw ps))= .int .i64 (chkI m n o nw ps)from rfl,z6k,List.append_nil]at this
end
section
theorem split2:zu 2=1:=by decide
theorem split4:zu 4=2:=by decide
theorem ProofP.is{J J':Store}{hs:List (List UInt8)}{m:Int}{v:AV}(h:ProofP J hs m v J'):∃v2,v= .tup [v2,.int .i64 (z2w hs m)]/\ OwnN 32 J J' v2 (zo (z1s hs m)):=h
end
section
def z8w:Ty:= .row (List.replicate 32 (.int .u8))
theorem zft:∀(n:Nat) (cs:List AV),z3p (List.replicate n (.int .u8)) cs->∃h:List UInt8,cs=zj h/\ h.length=n
 | 0,cs,h=>⟨[],by simpa only [List.replicate_zero,z3p,zj,List.map_nil]using h,rfl⟩
 |n+1,cs,h=>by
  simp only [List.replicate_succ,z3p,ShC]at h
  obtain⟨_,b,rfl,⟨x,rfl,h1,h2⟩,h3⟩:=h
  obtain⟨l,rfl,hl⟩:=zft n b h3
  simp only [IntKind.min,IntKind.max,IntKind.signed,IntKind.bits]at h1 h2
  simp at h1 h2
  refine⟨UInt8.ofNat x.toNat::l,?_,by simp [hl]⟩
  have:((UInt8.ofNat x.toNat).toNat:Int)=x:=by rw [UInt8.toNat_ofNat'];omega
  simp only [zj,List.map_cons,List.singleton_append,this]
theorem zn8{cs:List AV}(h:ShC z8w cs):∃l:List UInt8,cs=zj l/\ l.length=32:=zft 32 cs (by simpa only [z8w,ShC]using h)
theorem zh2:∀(es:List (List AV)),(∀x ∈ es,ShC z8w x)->∃hs,es=zo hs/\ H32 hs
 | [],_=>⟨[],rfl,fun _ h=>by simp at h⟩
 |e::es,h=>by
  obtain⟨l,rfl,hl⟩:=zn8 (h e (by simp))
  obtain⟨hs,rfl,hH⟩:=zh2 es (fun x hx=>h x (by simp [hx]))
  refine⟨l::hs,rfl,fun x hx=> ?_⟩
  rcases List.mem_cons.1 hx with rfl|hx
  ·exact hl
  ·exact hH x hx
theorem RefP.ex(J:Store)(hs:List (List UInt8))(m:Int):∃v J',RefP J hs m v J':=⟨_,_,_,rfl,.inl (z4e J 32 _)⟩
end
section
abbrev Hash:={l:List UInt8//l.length=32}
def hc(h:Hash):List AV:=zj h.1
def hr(l:List Hash):List (List AV):=l.map hc
def hb(l:List Hash):List (List UInt8):=l.map (·.1)
theorem hb_H(l:List Hash):H32 (hb l):=fun x hx=>by
 simp only [hb,List.mem_map]at hx
 obtain⟨h,_,rfl⟩:=hx
 exact h.2
theorem z35(l:List Hash):(hb l).length=l.length:=by simp [hb]
theorem zh3(l:List Hash)(n:Nat):(hb l).take n=hb (l.take n):=by simp [hb,List.map_take]
theorem zn9(l:List Hash)(n:Nat):(hb l).drop n=hb (l.drop n):=by simp [hb,List.map_drop]
theorem z4u(l:List Hash):zo (hb l)=hr l:=by simp [zo,hb,hr,hc]
theorem hb_of:∀{l:List (List UInt8)},H32 l->∃m:List Hash,l=hb m
 | [],_=>⟨[],rfl⟩
 |x::l,h=>by
  obtain⟨m,hm⟩:=hb_of (l:=l) fun y hy=>h y (by simp [hy])
  exact⟨⟨x,h x (by simp)⟩::m,by simp [hb,hm]⟩
@[go_sem] theorem z6 (h:Hash):(hc h).length=32:=by rw [hc,zm,h.2]
@[go_sem] theorem znc (h:Hash):(hc h).drop 32=[]:=List.drop_of_length_le (by rw [z6];decide)
@[go_sem] theorem znd (h:Hash):(hc h).take 32=hc h:=List.take_of_length_le (by rw [z6];decide)
@[go_sem] theorem z6x (h:Hash) (l:List AV):(hc h++l).take 32=hc h:=by
 have:=z6 h
 rw [List.take_append_of_le_length (by omega),znd]
@[go_sem] theorem z8z (h:Hash) (l:List AV):(hc h++l).drop 32=l:=by
 have:=z6 h
 rw [List.drop_append_of_le_length (by omega),znc,List.nil_append]
@[go_sem] theorem hc_eq (a b:Hash):z23 (hc a) (hc b)=decide (a=b):=by
 rw [hc,hc,z6w,Bool.eq_iff_iff]
 simp [Subtype.ext_iff]
@[go_sem] theorem hc_kinds (h:Hash):(hc h).map z1e=(List.replicate 32 (LK.i .u8)).map some:=z4b h.2
@[go_sem] theorem z7 (l:List Hash):(hr l).length=l.length:=by simp [hr]
@[go_sem] theorem hr_take (l:List Hash) (n:Nat):(hr l).take n=hr (l.take n):=by simp [hr,List.map_take]
@[go_sem] theorem hr_drop (l:List Hash) (n:Nat):(hr l).drop n=hr (l.drop n):=by simp [hr,List.map_drop]
@[go_sem] theorem hr_set (l:List Hash) (i:Nat) (h:Hash):(hr l).set i (hc h)=hr (l.set i h):=by simp [hr,List.map_set]
theorem zh8:hr []=[]:=rfl
theorem z91(h:Hash)(l:List Hash):hr (h::l)=hc h::hr l:=rfl
theorem hr_nil_iff{l:List Hash}:hr l=[] ↔ l=[]:=by simp [hr]
def zeroH:Hash:=⟨List.replicate 32 0,by simp⟩
def hd(l:List Hash)(i:Nat):Hash:=l.getD i zeroH
@[go_sem] theorem z6y {l:List Hash} {i:Nat} (h:i<l.length):(hr l)[i]? =some (hc (hd l i)):=by
 simp [hr,hd,List.getElem?_map,List.getElem?_eq_getElem h]
theorem z90{l:List Hash}{i:Nat}(h:i<l.length):hd l i=l[i]:=by simp [hd,h]
theorem z6h{k:Nat}(h:Hash):RLs k (hc h):=z2b _
theorem z1w{k:Nat}(l:List Hash):RLss k (hr l):=by rw [<-z4u];exact z6i _
theorem ze9(k:Nat)(h:Hash):shs k (hc h)=hc h:=ze8 k _
def z11(a b:Hash):Hash:=⟨z1l a.1 b.1,z3m _ _⟩
def z1b(l:List Hash):Hash:=⟨z13 (hb l),z2l (hb_H l)⟩
def shaH(s:List UInt8):Hash:=⟨shaS s,ze7 s⟩
theorem zdv(h:Hash):z1b [h]=h:=rfl
theorem zdw{l:List Hash}(h:2<=l.length):z1b l=z11 (z1b (l.take (zu l.length))) (z1b (l.drop (zu l.length))):=by
 apply Subtype.ext
 show z13 (hb l)=z1l (z13 (hb _)) (z13 (hb _))
 rw [<-zh3,<-zn9]
 have:=z7w (l:=hb l) (by rw [z35];exact h)
 rwa [z35]at this
theorem zjf(J:Store)(a b:Hash):ACallsTo TC 88 [.agg (hc a),.agg (hc b)] J (.agg (hc (z11 a b))) J:=z1z J a.1 b.1 a.2 b.2
theorem z99(J:Store)(a b:Hash):ACallsTo TC 99 [.agg (hc a),.agg (hc b)] J (.agg (hc (z11 a b))) J:=zdt J a.1 b.1 a.2 b.2
theorem zbl(J:Store)(l:List Hash)(x:AV)(hx:RdSl J 32 (hr l) x)(hl:l.length<1000000000):ACallsTo TC 39 [x] J (.agg (hc (z1b l))) J:=
 zso J (hb l) x (by rw [z4u];exact hx) (hb_H l) (by rw [z35];exact hl)
theorem zb2(J:Store)(l:List Hash)(x:AV)(hx:RdSl J 32 (hr l) x)(hl:l.length<1000000000):ACallsTo TC 50 [x] J (.agg (hc (z1b l))) J:=
 zqu J (hb l) x (by rw [z4u];exact hx) (hb_H l) (by rw [z35];exact hl)
def unb(l:List (List UInt8)):List Hash:=l.filterMap fun x=>if h:x.length=32 then some ⟨x,h⟩else none
theorem zjm:∀{l:List (List UInt8)},H32 l->hb (unb l)=l
 | [],_=>rfl
 |x::l,h=>by
  have h1:x.length=32:=h x (by simp)
  have ih:=zjm (l:=l) fun y hy=>h y (by simp [hy])
  simp only [unb,List.filterMap_cons,dif_pos h1]
  show x::hb (unb l)=_
  rw [ih]
theorem zkw(a:Int)(j:Nat)(hj:j<63):z16 .and .i64 a ((2^j-1:Nat):Int)=some (.int .i64 (a%2^j)):=by
 have hp:0<2^j:=Nat.pow_pos (by decide)
 have hlt:2^j<2^63:=Nat.pow_lt_pow_right (by decide) hj
 have e64:(2:Nat)^64=2^j*2^(64-j):=by rw [<-Nat.pow_add];congr 1;omega
 have h:(BitVec.ofInt IntKind.i64.bits a &&& BitVec.ofInt IntKind.i64.bits ((2^j-1:Nat):Int)).toNat=(a%2^j).toNat:=by
  rw [BitVec.toNat_and,BitVec.toNat_ofInt,BitVec.toNat_ofInt]
  simp only [IntKind.bits]
  have e1:(((2^j-1:Nat):Int)%((2^64:Nat):Int)).toNat=2^j-1:=by
   rw [Int.emod_eq_of_lt (by omega) (by omega)];simp
  rw [e1,Nat.and_two_pow_sub_one_eq_mod]
  have e2:0<=a%((2^64:Nat):Int):=Int.emod_nonneg _ (by decide)
  have e3:((a%((2^64:Nat):Int)).toNat:Int)=a%((2^64:Nat):Int):=Int.toNat_of_nonneg e2
  have e4:(((a%((2^64:Nat):Int)).toNat%2^j:Nat):Int)=a%2^j:=by
   rw [Int.natCast_emod,e3,e64,Int.natCast_mul,Int.natCast_pow]
   exact Int.emod_emod_of_dvd _ ⟨_,rfl⟩
  rw [<-e4,Int.toNat_natCast]
 have n0:(2:Int)^j ≠ 0:=by
  have h0:((2^j:Nat):Int) ≠ 0:=by omega
  rwa [Int.natCast_pow]at h0
 have n1:0<=a%2^j:=Int.emod_nonneg _ n0
 have n2:a%2^j<((2^j:Nat):Int):=by
  have:=Int.emod_lt_of_pos a (b:=((2^j:Nat):Int)) (by omega)
  simpa using this
 simp only [z16]
 rw [h,Int.toNat_of_nonneg n1,z9u ⟨by omega,by omega⟩]
end
section
def pushR:Nat->List Hash->Hash->List Hash
 | _,[],h=>[h]
 |m,x::rs,h=>if m%2=1 then pushR (m/2) rs (z11 x h)else h::x::rs
def extR:Nat->List Hash->List Hash->List Hash
 | _,rs,[]=>rs
 |n,rs,x::l=>extR (n+1) (pushR n rs x) l
def ofR(l:List Hash):List Hash:=extR 0 [] l
theorem zbg(j:Nat):zu (2^(j+1))=2^j:=by
 have:0<2^j:=Nat.pow_pos (by decide)
 exact zbh (by rw [Nat.pow_succ];omega) (Nat.le_refl _)
def rootR:List Hash->Hash
 | []=>shaH []
 |x::rs=>rs.foldl (fun o h=>z11 h o) x
end
section

end
section
set_option maxRecDepth 10000
@[go_sem] def qwr0:List AIns:=[
 yI 2 (.mv (.v .nilsl))]
@[go_sem] def qwr1:List AIns:=[
 yM 3 0,
 yI 4 (.bin .eql .slc (.t 3) (.v .nilsl))]
@[go_sem] def qwr2:List AIns:=[
 yI 2 (.mv (.v .nilsl))]
def qwc3:ACode:= .seq (.reg qwr2) .ret
def qwc4:ACode:= .cond (.t 4) qwc3 .skip
def qwc5:ACode:= .seq (.reg qwr1) qwc4
@[go_sem] def qwr6:List AIns:=[
 yI 5 (.lit 32 []),
 yM 6 0,
 yI 7 (.app 32 (.t 5) (.t 6)),
 yM 2 7]
def qwc7:ACode:= .seq (.reg qwr6) .ret
def qwc8:ACode:= .seq qwc5 qwc7
def qwc9:ACode:= .seq (.reg qwr0) qwc8
theorem qwok:cFn TC 93=some (8,[.t 2],qwc9):=by kernel_rfl
end
end Am
end Go.Proofs.YtfldkpghggbdkaaGreatDoor
