import Derived.Test.YtkiimfgjimoffaaGreatDoorK2df7945c6
import Derived.Shelf.Strings.Builder1
import Derived.Shelf.Strings.Builder2
import Derived.Shelf.Strings.BuilderF
import Derived.Shelf.Strings.BuilderK
import Derived.Shelf.Strings.Builder2Cap
import Derived.Shelf.Strings.Prefix
import Derived.Shelf.Bits.Mul64
import Derived.Shelf.Strings.Repeat
import Derived.Shelf.Slices.Equal
import Derived.Shelf.Slices.Empties2
import Derived.Test.YtkiimfgjimoffaaGreatDoorProg
set_option linter.unusedSimpArgs false
set_option linter.unusedVariables false
open Nat (reduceEqDiff reduceAdd reduceMul reduceSub reduceLeDiff)
open Int (reduceToNat reducePow)
open Nat renaming reduceEqDiff -> nQ1, reduceBEq -> nQ2, reduceAdd -> nQ3, reduceMul -> nQ4, reduceSub -> nQ5, reduceLeDiff -> nQ6
open Int renaming reduceToNat -> nQ7, reducePow -> nQ8
open List renaming length_reverse -> lQr, length_map -> lQm, length_take -> lQt, length_drop -> lQd, length_set -> lQs
set_option maxHeartbeats 16000000
attribute [local go_sem_proc] Nat.reduceEqDiff Nat.reduceBEq Nat.reduceAdd Nat.reduceMul Nat.reduceSub Nat.reduceLeDiff Int.reduceToNat Int.reducePow
namespace Go.Proofs.YtkiimfgjimoffaaGreatDoor
namespace Am
section
set_option maxRecDepth 10000
def qar0:yW:=[
 yI 2 (.alloc zZ0)]
def qar1:yW:=[
 yI 26 (.build [(.int .u32 0),(.int .u32 0),(.int .u32 0),(.int .u32 0),(.int .u32 0),(.int .u32 0),(.int .u32 0),(.int .u32 0),(.int .u32 0),(.int .u32 0),(.int .u32 0),(.int .u32 0),(.int .u32 0),(.int .u32 0),(.int .u32 0),(.int .u32 0),(.int .u32 0),(.int .u32 0),(.int .u32 0),(.int .u32 0),(.int .u32 0),(.int .u32 0),(.int .u32 0),(.int .u32 0),(.int .u32 0),(.int .u32 0),(.int .u32 0),(.int .u32 0),(.int .u32 0),(.int .u32 0),(.int .u32 0),(.int .u32 0),(.int .u32 0),(.int .u32 0),(.int .u32 0),(.int .u32 0),(.int .u32 0),(.int .u32 0),(.int .u32 0),(.int .u32 0),(.int .u32 0),(.int .u32 0),(.int .u32 0),(.int .u32 0),(.int .u32 0),(.int .u32 0),(.int .u32 0),(.int .u32 0),(.int .u32 0),(.int .u32 0),(.int .u32 0),(.int .u32 0),(.int .u32 0),(.int .u32 0),(.int .u32 0),(.int .u32 0),(.int .u32 0),(.int .u32 0),(.int .u32 0),(.int .u32 0),(.int .u32 0),(.int .u32 0),(.int .u32 0),(.int .u32 0)] [(0,1,(.v (.int .u32 1116352408))),(1,1,(.v (.int .u32 1899447441))),(2,1,(.v (.int .u32 3049323471))),(3,1,(.v (.int .u32 3921009573))),(4,1,(.v (.int .u32 961987163))),(5,1,(.v (.int .u32 1508970993))),(6,1,(.v (.int .u32 2453635748))),(7,1,(.v (.int .u32 2870763221))),(8,1,(.v (.int .u32 3624381080))),(9,1,(.v (.int .u32 310598401))),(10,1,(.v (.int .u32 607225278))),(11,1,(.v (.int .u32 1426881987))),(12,1,(.v (.int .u32 1925078388))),(13,1,(.v (.int .u32 2162078206))),(14,1,(.v (.int .u32 2614888103))),(15,1,(.v (.int .u32 3248222580))),(16,1,(.v (.int .u32 3835390401))),(17,1,(.v (.int .u32 4022224774))),(18,1,(.v (.int .u32 264347078))),(19,1,(.v (.int .u32 604807628))),(20,1,(.v (.int .u32 770255983))),(21,1,(.v (.int .u32 1249150122))),(22,1,(.v (.int .u32 1555081692))),(23,1,(.v (.int .u32 1996064986))),(24,1,(.v (.int .u32 2554220882))),(25,1,(.v (.int .u32 2821834349))),(26,1,(.v (.int .u32 2952996808))),(27,1,(.v (.int .u32 3210313671))),(28,1,(.v (.int .u32 3336571891))),(29,1,(.v (.int .u32 3584528711))),(30,1,(.v (.int .u32 113926993))),(31,1,(.v (.int .u32 338241895))),(32,1,(.v (.int .u32 666307205))),(33,1,(.v (.int .u32 773529912))),(34,1,(.v (.int .u32 1294757372))),(35,1,(.v (.int .u32 1396182291))),(36,1,(.v (.int .u32 1695183700))),(37,1,(.v (.int .u32 1986661051))),(38,1,(.v (.int .u32 2177026350))),(39,1,(.v (.int .u32 2456956037))),(40,1,(.v (.int .u32 2730485921))),(41,1,(.v (.int .u32 2820302411))),(42,1,(.v (.int .u32 3259730800))),(43,1,(.v (.int .u32 3345764771))),(44,1,(.v (.int .u32 3516065817))),(45,1,(.v (.int .u32 3600352804))),(46,1,(.v (.int .u32 4094571909))),(47,1,(.v (.int .u32 275423344))),(48,1,(.v (.int .u32 430227734))),(49,1,(.v (.int .u32 506948616))),(50,1,(.v (.int .u32 659060556))),(51,1,(.v (.int .u32 883997877))),(52,1,(.v (.int .u32 958139571))),(53,1,(.v (.int .u32 1322822218))),(54,1,(.v (.int .u32 1537002063))),(55,1,(.v (.int .u32 1747873779))),(56,1,(.v (.int .u32 1955562222))),(57,1,(.v (.int .u32 2024104815))),(58,1,(.v (.int .u32 2227730452))),(59,1,(.v (.int .u32 2361852424))),(60,1,(.v (.int .u32 2428436474))),(61,1,(.v (.int .u32 2756734187))),(62,1,(.v (.int .u32 3204031479))),(63,1,(.v (.int .u32 3329325298)))]),
 yI 3 (.alloc [(.int .u32 0),(.int .u32 0),(.int .u32 0),(.int .u32 0),(.int .u32 0),(.int .u32 0),(.int .u32 0),(.int .u32 0),(.int .u32 0),(.int .u32 0),(.int .u32 0),(.int .u32 0),(.int .u32 0),(.int .u32 0),(.int .u32 0),(.int .u32 0),(.int .u32 0),(.int .u32 0),(.int .u32 0),(.int .u32 0),(.int .u32 0),(.int .u32 0),(.int .u32 0),(.int .u32 0),(.int .u32 0),(.int .u32 0),(.int .u32 0),(.int .u32 0),(.int .u32 0),(.int .u32 0),(.int .u32 0),(.int .u32 0),(.int .u32 0),(.int .u32 0),(.int .u32 0),(.int .u32 0),(.int .u32 0),(.int .u32 0),(.int .u32 0),(.int .u32 0),(.int .u32 0),(.int .u32 0),(.int .u32 0),(.int .u32 0),(.int .u32 0),(.int .u32 0),(.int .u32 0),(.int .u32 0),(.int .u32 0),(.int .u32 0),(.int .u32 0),(.int .u32 0),(.int .u32 0),(.int .u32 0),(.int .u32 0),(.int .u32 0),(.int .u32 0),(.int .u32 0),(.int .u32 0),(.int .u32 0),(.int .u32 0),(.int .u32 0),(.int .u32 0),(.int .u32 0)]),
 yS 64 3 26]
def qar2:yW:=[
 yI 27 (.build [(.int .u32 0),(.int .u32 0),(.int .u32 0),(.int .u32 0),(.int .u32 0),(.int .u32 0),(.int .u32 0),(.int .u32 0)] [(0,1,(.v (.int .u32 1779033703))),(1,1,(.v (.int .u32 3144134277))),(2,1,(.v (.int .u32 1013904242))),(3,1,(.v (.int .u32 2773480762))),(4,1,(.v (.int .u32 1359893119))),(5,1,(.v (.int .u32 2600822924))),(6,1,(.v (.int .u32 528734635))),(7,1,(.v (.int .u32 1541459225)))]),
 yI 4 (.alloc [(.int .u32 0),(.int .u32 0),(.int .u32 0),(.int .u32 0),(.int .u32 0),(.int .u32 0),(.int .u32 0),(.int .u32 0)]),
 yS 8 4 27]
def qar3:yW:=[
 yM 28 0,
 yC 29 78 28,
 yM 5 29]
def qar4:yW:=[
 yI 6 (.alloc [(.int .u32 0),(.int .u32 0),(.int .u32 0),(.int .u32 0),(.int .u32 0),(.int .u32 0),(.int .u32 0),(.int .u32 0),(.int .u32 0),(.int .u32 0),(.int .u32 0),(.int .u32 0),(.int .u32 0),(.int .u32 0),(.int .u32 0),(.int .u32 0),(.int .u32 0),(.int .u32 0),(.int .u32 0),(.int .u32 0),(.int .u32 0),(.int .u32 0),(.int .u32 0),(.int .u32 0),(.int .u32 0),(.int .u32 0),(.int .u32 0),(.int .u32 0),(.int .u32 0),(.int .u32 0),(.int .u32 0),(.int .u32 0),(.int .u32 0),(.int .u32 0),(.int .u32 0),(.int .u32 0),(.int .u32 0),(.int .u32 0),(.int .u32 0),(.int .u32 0),(.int .u32 0),(.int .u32 0),(.int .u32 0),(.int .u32 0),(.int .u32 0),(.int .u32 0),(.int .u32 0),(.int .u32 0),(.int .u32 0),(.int .u32 0),(.int .u32 0),(.int .u32 0),(.int .u32 0),(.int .u32 0),(.int .u32 0),(.int .u32 0),(.int .u32 0),(.int .u32 0),(.int .u32 0),(.int .u32 0),(.int .u32 0),(.int .u32 0),(.int .u32 0),(.int .u32 0)])]
def qar5:yW:=[
 yK 7 .i64 0]
def qar6:yW:=[
 yM 30 7,
 yM 31 5,
 yI 32 (.lenSl (.t 31)),
 yB 33 .lss 30 32]
def qac7:yX:=.cond (.t 33) .skip (.exit 0)
def qac8:yX:=yq qar6 qac7
def qar9:yW:=[
 yK 8 .i64 0]
def qar10:yW:=[
 yM 36 8,
 yJ 37 .lss 36 .i64 16]
def qac11:yX:=.cond (.t 37) .skip (.exit 2)
def qac12:yX:=yq qar10 qac11
def qar13:yW:=[
 yM 40 7,
 yM 41 8,
 yI 42 (.bin .mul .none (.v (.int .i64 4)) (.t 41)),
 yB 43 .add 40 42,
 yM 9 43]
def qar14:yW:=[
 yM 44 8,
 yM 45 5,
 yM 46 9,
 yI 47 (.iaSl 1 (.t 45) (.t 46)),
 ⟨some 48,none,.rd,.load false 1 (.t 47)⟩,
 yI 49 (.conv (.int .u32) (.t 48)),
 yJ 50 .shl 49 .u64 24,
 yM 51 5,
 yM 52 9,
 yJ 53 .add 52 .i64 1,
 yI 54 (.iaSl 1 (.t 51) (.t 53)),
 ⟨some 55,none,.rd,.load false 1 (.t 54)⟩,
 yI 56 (.conv (.int .u32) (.t 55)),
 yJ 57 .shl 56 .u64 16,
 yB 58 .add 50 57,
 yM 59 5,
 yM 60 9,
 yJ 61 .add 60 .i64 2,
 yI 62 (.iaSl 1 (.t 59) (.t 61)),
 ⟨some 63,none,.rd,.load false 1 (.t 62)⟩,
 yI 64 (.conv (.int .u32) (.t 63)),
 yJ 65 .shl 64 .u64 8,
 yB 66 .add 58 65,
 yM 67 5,
 yM 68 9,
 yJ 69 .add 68 .i64 3,
 yI 70 (.iaSl 1 (.t 67) (.t 69)),
 ⟨some 71,none,.rd,.load false 1 (.t 70)⟩,
 yI 72 (.conv (.int .u32) (.t 71)),
 yB 73 .add 66 72,
 yI 74 (.iaArr 64 1 (.t 6) (.t 44)),
 yS 1 74 73]
def qac15:yX:=yq qar13 (.reg qar14)
def qar16:yW:=[
 yM 38 8,
 yJ 39 .add 38 .i64 1,
 yM 8 39]
def qac17:yX:=.seq (.block 3 qac15) (.reg qar16)
def qac18:yX:=.seq qac12 qac17
def qac19:yX:=.loop qac18
def qac20:yX:=.block 2 qac19
def qac21:yX:=yq qar9 qac20
def qar22:yW:=[
 yK 10 .i64 16]
def qar23:yW:=[
 yM 75 10,
 yJ 76 .lss 75 .i64 64]
def qac24:yX:=.cond (.t 76) .skip (.exit 4)
def qac25:yX:=yq qar23 qac24
def qar26:yW:=[
 yM 79 10,
 yJ 80 .sub 79 .i64 15,
 yI 81 (.iaArr 64 1 (.t 6) (.t 80)),
 ⟨some 82,none,.rd,.load false 1 (.t 81)⟩,
 yM 83 10,
 yJ 84 .sub 83 .i64 2,
 yI 85 (.iaArr 64 1 (.t 6) (.t 84)),
 ⟨some 86,none,.rd,.load false 1 (.t 85)⟩,
 yM 11 82,
 yM 12 86]
def qar27:yW:=[
 yM 87 10,
 yM 88 10,
 yJ 89 .sub 88 .i64 16,
 yI 90 (.iaArr 64 1 (.t 6) (.t 89)),
 ⟨some 91,none,.rd,.load false 1 (.t 90)⟩,
 yM 92 11,
 ⟨some 93,none,.ef,.call (.v (.fn 79 [])) [(.t 92),(.v (.int .u32 7))]⟩,
 yM 94 11,
 ⟨some 95,none,.ef,.call (.v (.fn 79 [])) [(.t 94),(.v (.int .u32 18))]⟩,
 yB 96 .xor 93 95,
 yM 97 11,
 yJ 98 .shr 97 .u64 3,
 yB 99 .xor 96 98,
 yB 100 .add 91 99,
 yM 101 10,
 yJ 102 .sub 101 .i64 7,
 yI 103 (.iaArr 64 1 (.t 6) (.t 102)),
 ⟨some 104,none,.rd,.load false 1 (.t 103)⟩,
 yB 105 .add 100 104,
 yM 106 12,
 ⟨some 107,none,.ef,.call (.v (.fn 79 [])) [(.t 106),(.v (.int .u32 17))]⟩,
 yM 108 12,
 ⟨some 109,none,.ef,.call (.v (.fn 79 [])) [(.t 108),(.v (.int .u32 19))]⟩,
 yB 110 .xor 107 109,
 yM 111 12,
 yJ 112 .shr 111 .u64 10,
 yB 113 .xor 110 112,
 yB 114 .add 105 113,
 yI 115 (.iaArr 64 1 (.t 6) (.t 87)),
 yS 1 115 114]
def qac28:yX:=yq qar26 (.reg qar27)
def qar29:yW:=[
 yM 77 10,
 yJ 78 .add 77 .i64 1,
 yM 10 78]
def qac30:yX:=.seq (.block 5 qac28) (.reg qar29)
def qac31:yX:=.seq qac25 qac30
def qac32:yX:=.loop qac31
def qac33:yX:=.block 4 qac32
def qac34:yX:=yq qar22 qac33
def qar35:yW:=[
 yI 116 (.iaArr 8 1 (.t 4) (.v (.int .i64 0))),
 ⟨some 117,none,.rd,.load false 1 (.t 116)⟩,
 yI 118 (.iaArr 8 1 (.t 4) (.v (.int .i64 1))),
 ⟨some 119,none,.rd,.load false 1 (.t 118)⟩,
 yI 120 (.iaArr 8 1 (.t 4) (.v (.int .i64 2))),
 ⟨some 121,none,.rd,.load false 1 (.t 120)⟩,
 yI 122 (.iaArr 8 1 (.t 4) (.v (.int .i64 3))),
 ⟨some 123,none,.rd,.load false 1 (.t 122)⟩,
 yI 124 (.iaArr 8 1 (.t 4) (.v (.int .i64 4))),
 ⟨some 125,none,.rd,.load false 1 (.t 124)⟩,
 yI 126 (.iaArr 8 1 (.t 4) (.v (.int .i64 5))),
 ⟨some 127,none,.rd,.load false 1 (.t 126)⟩,
 yI 128 (.iaArr 8 1 (.t 4) (.v (.int .i64 6))),
 ⟨some 129,none,.rd,.load false 1 (.t 128)⟩,
 yI 130 (.iaArr 8 1 (.t 4) (.v (.int .i64 7))),
 ⟨some 131,none,.rd,.load false 1 (.t 130)⟩,
 yM 13 117,
 yM 14 119,
 yM 15 121,
 yM 16 123,
 yM 17 125,
 yM 18 127,
 yM 19 129,
 yM 20 131]
def qar36:yW:=[
 yK 21 .i64 0]
def qar37:yW:=[
 yM 132 21,
 yJ 133 .lss 132 .i64 64]
def qac38:yX:=.cond (.t 133) .skip (.exit 6)
def qac39:yX:=yq qar37 qac38
def qar40:yW:=[
 yM 136 20,
 yM 137 17,
 ⟨some 138,none,.ef,.call (.v (.fn 79 [])) [(.t 137),(.v (.int .u32 6))]⟩,
 yM 139 17,
 ⟨some 140,none,.ef,.call (.v (.fn 79 [])) [(.t 139),(.v (.int .u32 11))]⟩,
 yB 141 .xor 138 140,
 yM 142 17,
 ⟨some 143,none,.ef,.call (.v (.fn 79 [])) [(.t 142),(.v (.int .u32 25))]⟩,
 yB 144 .xor 141 143,
 yB 145 .add 136 144,
 yM 146 17,
 yM 147 18,
 yB 148 .and 146 147,
 yM 149 17,
 yI 150 (.un .xor (.t 149)),
 yM 151 19,
 yB 152 .and 150 151,
 yB 153 .xor 148 152,
 yB 154 .add 145 153,
 yM 155 21,
 yI 156 (.iaArr 64 1 (.t 3) (.t 155)),
 ⟨some 157,none,.rd,.load false 1 (.t 156)⟩,
 yB 158 .add 154 157,
 yM 159 21,
 yI 160 (.iaArr 64 1 (.t 6) (.t 159)),
 ⟨some 161,none,.rd,.load false 1 (.t 160)⟩,
 yB 162 .add 158 161,
 yM 22 162]
def qar41:yW:=[
 yM 163 13,
 yI 164 (.call (.v (.fn 79 [])) [(.t 163),(.v (.int .u32 2))]),
 yM 165 13,
 yI 166 (.call (.v (.fn 79 [])) [(.t 165),(.v (.int .u32 13))]),
 yB 167 .xor 164 166,
 yM 168 13,
 yI 169 (.call (.v (.fn 79 [])) [(.t 168),(.v (.int .u32 22))]),
 yB 170 .xor 167 169,
 yM 171 13,
 yM 172 14,
 yB 173 .and 171 172,
 yM 174 13,
 yM 175 15,
 yB 176 .and 174 175,
 yB 177 .xor 173 176,
 yM 178 14,
 yM 179 15,
 yB 180 .and 178 179,
 yB 181 .xor 177 180,
 yB 182 .add 170 181,
 yM 23 182]
def qar42:yW:=[
 yM 183 19,
 yM 184 18,
 yM 185 17,
 yM 186 16,
 yM 187 22,
 yB 188 .add 186 187,
 yM 189 15,
 yM 190 14,
 yM 191 13,
 yM 192 22,
 yM 193 23,
 yB 194 .add 192 193,
 yM 20 183,
 yM 19 184,
 yM 18 185,
 yM 17 188,
 yM 16 189,
 yM 15 190,
 yM 14 191,
 yM 13 194]
def qac43:yX:=yq qar41 (.reg qar42)
def qac44:yX:=yq qar40 qac43
def qar45:yW:=[
 yM 134 21,
 yJ 135 .add 134 .i64 1,
 yM 21 135]
def qac46:yX:=.seq (.block 7 qac44) (.reg qar45)
def qac47:yX:=.seq qac39 qac46
def qac48:yX:=.loop qac47
def qac49:yX:=.block 6 qac48
def qac50:yX:=yq qar36 qac49
def qar51:yW:=[
 yI 195 (.iaArr 8 1 (.t 4) (.v (.int .i64 0))),
 yL 196 false 1 195,
 yM 197 13,
 yB 198 .add 196 197,
 yI 199 (.iaArr 8 1 (.t 4) (.v (.int .i64 1))),
 yL 200 false 1 199,
 yM 201 14,
 yB 202 .add 200 201,
 yI 203 (.iaArr 8 1 (.t 4) (.v (.int .i64 2))),
 yL 204 false 1 203,
 yM 205 15,
 yB 206 .add 204 205,
 yI 207 (.iaArr 8 1 (.t 4) (.v (.int .i64 3))),
 yL 208 false 1 207,
 yM 209 16,
 yB 210 .add 208 209,
 yI 211 (.iaArr 8 1 (.t 4) (.v (.int .i64 4))),
 yL 212 false 1 211,
 yM 213 17,
 yB 214 .add 212 213,
 yI 215 (.iaArr 8 1 (.t 4) (.v (.int .i64 5))),
 yL 216 false 1 215,
 yM 217 18,
 yB 218 .add 216 217,
 yI 219 (.iaArr 8 1 (.t 4) (.v (.int .i64 6))),
 yL 220 false 1 219,
 yM 221 19,
 yB 222 .add 220 221,
 yI 223 (.iaArr 8 1 (.t 4) (.v (.int .i64 7))),
 yL 224 false 1 223,
 yM 225 20,
 yB 226 .add 224 225,
 yI 227 (.iaArr 8 1 (.t 4) (.v (.int .i64 0))),
 yS 1 227 198,
 yI 228 (.iaArr 8 1 (.t 4) (.v (.int .i64 1))),
 yS 1 228 202,
 yI 229 (.iaArr 8 1 (.t 4) (.v (.int .i64 2))),
 yS 1 229 206,
 yI 230 (.iaArr 8 1 (.t 4) (.v (.int .i64 3))),
 yS 1 230 210,
 yI 231 (.iaArr 8 1 (.t 4) (.v (.int .i64 4))),
 yS 1 231 214,
 yI 232 (.iaArr 8 1 (.t 4) (.v (.int .i64 5))),
 yS 1 232 218,
 yI 233 (.iaArr 8 1 (.t 4) (.v (.int .i64 6))),
 yS 1 233 222,
 yI 234 (.iaArr 8 1 (.t 4) (.v (.int .i64 7))),
 yS 1 234 226]
def qac52:yX:=.seq qac50 (.reg qar51)
def qac53:yX:=yq qar35 qac52
def qac54:yX:=.seq qac34 qac53
def qac55:yX:=.seq qac21 qac54
def qar56:yW:=[
 yM 34 7,
 yJ 35 .add 34 .i64 64,
 yM 7 35]
def qac57:yX:=.seq (.block 1 qac55) (.reg qar56)
def qac58:yX:=.seq qac8 qac57
def qac59:yX:=.loop qac58
def qac60:yX:=.block 0 qac59
def qac61:yX:=yq qar5 qac60
def qar62:yW:=[
 yI 24 (.alloc zZ0)]
def qar63:yW:=[
 yK 25 .i64 0]
def qar64:yW:=[
 yM 235 25,
 yJ 236 .lss 235 .i64 32]
def qac65:yX:=.cond (.t 236) .skip (.exit 8)
def qac66:yX:=yq qar64 qac65
def qar67:yW:=[
 yM 239 25,
 yM 240 25,
 yJ 241 .quo 240 .i64 4,
 yI 242 (.iaArr 8 1 (.t 4) (.t 241)),
 yL 243 false 1 242,
 yM 244 25,
 yJ 245 .rem 244 .i64 4,
 yI 246 (.bin .mul .none (.v (.int .i64 8)) (.t 245)),
 yI 247 (.bin .sub .none (.v (.int .i64 24)) (.t 246)),
 yB 248 .shr 243 247,
 yI 249 (.conv (.int .u8) (.t 248)),
 yI 250 (.iaArr 32 1 (.t 24) (.t 239)),
 yS 1 250 249]
def qar68:yW:=[
 yM 237 25,
 yJ 238 .add 237 .i64 1,
 yM 25 238]
def qac69:yX:=.seq (.block 9 (.reg qar67)) (.reg qar68)
def qac70:yX:=.seq qac66 qac69
def qac71:yX:=.loop qac70
def qac72:yX:=.block 8 qac71
def qac73:yX:=yq qar63 qac72
def qar74:yW:=[
 yL 251 true 32 24,
 yS 32 2 251]
def qac75:yX:=yq qar74 .ret
def qac76:yX:=.seq qac73 qac75
def qac77:yX:=yq qar62 qac76
def qac78:yX:=.seq qac61 qac77
def qac79:yX:=yq qar4 qac78
def qac80:yX:=yq qar3 qac79
def qac81:yX:=yq qar2 qac80
def qac82:yX:=yq qar1 qac81
def qac83:yX:=yq qar0 qac82
attribute [go_sem] qar0 qar1 qar2 qar3 qar4 qar5 qar6 qar9 qar10 qar13 qar14 qar16 qar22 qar23 qar26 qar27 qar29 qar35 qar36 qar37 qar40 qar41 qar42 qar45 qar51 qar56 qar62 qar63 qar64 qar67 qar68 qar74
theorem qaok:cFn TC 54=some (252,[.c 2 true 32],qac83):=by kernel_rfl
def qbr0:yW:=[
 yI 2 (.alloc zZ0)]
def qbr1:yW:=[
 yI 8 (.load true 8 (.v (.vp zcn))),
 yI 3 (.alloc [(.int .u32 0),(.int .u32 0),(.int .u32 0),(.int .u32 0),(.int .u32 0),(.int .u32 0),(.int .u32 0),(.int .u32 0)]),
 yS 8 3 8]
def qbr2:yW:=[
 yM 9 0,
 yC 10 39 9,
 yM 4 10]
def qbr3:yW:=[
 yM 11 4,
 yI 12 (.bin .neq .none (.t 11) (.v (.str [])))]
def qbc4:yX:=.cond (.t 12) .skip (.exit 0)
def qbc5:yX:=yq qbr3 qbc4
def qbr6:yW:=[
 yL 15 true 8 3,
 yM 16 4,
 yI 17 (.slice .str (.t 16) none (some (.v (.int .i64 64))) none),
 yD 18 40 15 17,
 yS 8 3 18]
def qbr7:yW:=[
 yM 13 4,
 yI 14 (.slice .str (.t 13) (some (.v (.int .i64 64))) none none),
 yM 4 14]
def qbc8:yX:=.seq (.block 1 (.reg qbr6)) (.reg qbr7)
def qbc9:yX:=.seq qbc5 qbc8
def qbc10:yX:=.loop qbc9
def qbc11:yX:=.block 0 qbc10
def qbc12:yX:=yq qbr2 qbc11
def qbr13:yW:=[
 yI 5 (.alloc zZ0)]
def qbr14:yW:=[
 yL 19 true 8 3,
 yK 20 .i64 0]
def qbr15:yW:=[
 yJ 21 .lss 20 .i64 8]
def qbr16:yW:=[
 yM 22 20,
 yI 23 (.ixArr 8 false 1 (.t 19) (.t 20)),
 yM 6 22,
 yM 7 23]
def qbr17:yW:=[
 yM 24 6,
 yI 25 (.bin .mul .none (.v (.int .i64 4)) (.t 24)),
 yI 26 (.slice (.arr 32 1) (.t 5) (some (.t 25)) none none),
 yM 27 7,
 yI 28 (.conv (.int .u64) (.t 27)),
 yI 29 (.call (.v (.fn 41 [])) [(.t 28),(.v (.int .i64 4))]),
 yI 30 (.copy 1 (.t 26) (.t 29))]
def qbc18:yX:=yq qbr16 (.reg qbr17)
def qbr19:yW:=[
 yJ 31 .add 20 .i64 1,
 yM 20 31]
def qbc20:yX:=.seq (.block 3 qbc18) (.reg qbr19)
def qbc21:yX:=.seq (.cond (.t 21) .skip (.exit 2)) qbc20
def qbc22:yX:=yq qbr15 qbc21
def qbc23:yX:=.loop qbc22
def qbc24:yX:=.block 2 qbc23
def qbc25:yX:=yq qbr14 qbc24
def qbr26:yW:=[
 yL 32 true 32 5,
 yS 32 2 32]
def qbc27:yX:=yq qbr26 .ret
def qbc28:yX:=.seq qbc25 qbc27
def qbc29:yX:=yq qbr13 qbc28
def qbc30:yX:=.seq qbc12 qbc29
def qbc31:yX:=yq qbr1 qbc30
def qbc32:yX:=yq qbr0 qbc31
attribute [go_sem] qbr0 qbr1 qbr2 qbr3 qbr6 qbr7 qbr13 qbr14 qbr15 qbr16 qbr17 qbr19 qbr26
theorem qbok:cFn TC 21=some (33,[.c 2 true 32],qbc32):=by kernel_rfl
def qcr0:yW:=[
 yI 2 (.mv (.v .nilsl))]
def qcr1:yW:=[
 yM 6 0,
 yI 7 (.conv .bytes (.t 6)),
 yI 8 (.lit 1 [(.v (.int .u8 128))]),
 yI 9 (.appB (.t 7) (.t 8)),
 yM 3 9]
def qcr2:yW:=[
 yM 10 3,
 yI 11 (.lenSl (.t 10)),
 yJ 12 .rem 11 .i64 64,
 yJ 13 .neq 12 .i64 56]
def qcc3:yX:=.cond (.t 13) .skip (.exit 0)
def qcc4:yX:=yq qcr2 qcc3
def qcr5:yW:=[
 yM 14 3,
 yI 15 (.lit 1 [(.v (.int .u8 0))]),
 yI 16 (.appB (.t 14) (.t 15)),
 yM 3 16]
def qcc6:yX:=.block 1 (.reg qcr5)
def qcc7:yX:=.seq qcc4 qcc6
def qcc8:yX:=.loop qcc7
def qcr9:yW:=[
 yM 17 0,
 yI 18 (.lenStr (.t 17)),
 yI 19 (.conv (.int .u64) (.t 18)),
 yJ 20 .mul 19 .u64 8,
 yM 4 20]
def qcr10:yW:=[
 yK 5 .i64 7]
def qcr11:yW:=[
 yM 21 5,
 yJ 22 .geq 21 .i64 0]
def qcc12:yX:=.cond (.t 22) .skip (.exit 2)
def qcc13:yX:=yq qcr11 qcc12
def qcr14:yW:=[
 yM 25 3,
 yM 26 4,
 yM 27 5,
 yI 28 (.bin .mul .none (.v (.int .i64 8)) (.t 27)),
 yB 29 .shr 26 28,
 yI 30 (.conv (.int .u8) (.t 29)),
 yI 31 (.lit 1 [(.t 30)]),
 yI 32 (.appB (.t 25) (.t 31)),
 yM 3 32]
def qcr15:yW:=[
 yM 23 5,
 yJ 24 .sub 23 .i64 1,
 yM 5 24]
def qcc16:yX:=.seq (.block 3 (.reg qcr14)) (.reg qcr15)
def qcc17:yX:=.seq qcc13 qcc16
def qcc18:yX:=.loop qcc17
def qcc19:yX:=.block 2 qcc18
def qcc20:yX:=yq qcr10 qcc19
def qcr21:yW:=[
 yM 33 3,
 yM 2 33]
def qcc22:yX:=yq qcr21 .ret
def qcc23:yX:=.seq qcc20 qcc22
def qcc24:yX:=yq qcr9 qcc23
def qcc25:yX:=.seq (.block 0 qcc8) qcc24
def qcc26:yX:=yq qcr1 qcc25
def qcc27:yX:=yq qcr0 qcc26
attribute [go_sem] qcr0 qcr1 qcr2 qcr5 qcr9 qcr10 qcr11 qcr14 qcr15 qcr21
theorem qcok:cFn TC 78=some (34,[.t 2],qcc27):=by kernel_rfl
def qdr0:yW:=[
 yK 4 .u32 0]
def qdr1:yW:=[
 yM 5 0,
 yM 6 1,
 yB 7 .shr 5 6,
 yM 8 0,
 yM 9 1,
 yI 10 (.bin .sub .none (.v (.int .u32 32)) (.t 9)),
 yB 11 .shl 8 10,
 yB 12 .or 7 11,
 yM 4 12]
def qdc2:yX:=yq qdr1 .ret
def qdc3:yX:=yq qdr0 qdc2
attribute [go_sem] qdr0 qdr1
theorem qdok:cFn TC 79=some (13,[.t 4],qdc3):=by kernel_rfl
def qer0:yW:=[
 yI 2 (.mv (.v (.str [])))]
def qer1:yW:=[
 yM 4 0,
 yI 5 (.lenStr (.t 4)),
 yJ 6 .rem 5 .i64 64,
 yI 7 (.bin .sub .none (.v (.int .i64 119)) (.t 6)),
 yJ 8 .rem 7 .i64 64,
 yM 3 8]
def qer2:yW:=[
 yM 9 0,
 yI 10 (.bin .add .none (.t 9) (.v (.str [128]))),
 yM 11 3,
 yI 12 (.call (.v (.fn 59 [])) [(.v (.str [0])),(.t 11)]),
 yB 13 .add 10 12,
 yM 14 0,
 yI 15 (.lenStr (.t 14)),
 yI 16 (.conv (.int .u64) (.t 15)),
 yJ 17 .mul 16 .u64 8,
 yI 18 (.call (.v (.fn 41 [])) [(.t 17),(.v (.int .i64 8))]),
 yB 19 .add 13 18,
 yM 2 19]
def qec3:yX:=yq qer2 .ret
def qec4:yX:=yq qer1 qec3
def qec5:yX:=yq qer0 qec4
attribute [go_sem] qer0 qer1 qer2
theorem qeok:cFn TC 39=some (20,[.t 2],qec5):=by kernel_rfl
def qfr0:yW:=[
 yI 2 (.box (.t 0)),
 yI 4 (.alloc [(.int .u32 0),(.int .u32 0),(.int .u32 0),(.int .u32 0),(.int .u32 0),(.int .u32 0),(.int .u32 0),(.int .u32 0)])]
def qfr1:yW:=[
 yL 13 true 8 2,
 yI 5 (.alloc [(.int .u32 0),(.int .u32 0),(.int .u32 0),(.int .u32 0),(.int .u32 0),(.int .u32 0),(.int .u32 0),(.int .u32 0)]),
 yS 8 5 13]
def qfr2:yW:=[
 yM 14 1,
 yC 15 60 14,
 yK 16 .i64 0]
def qfr3:yW:=[
 yJ 17 .lss 16 .i64 64]
def qfr4:yW:=[
 yM 18 16,
 yI 19 (.ixArr 64 false 1 (.t 15) (.t 16)),
 yM 6 18,
 yM 7 19]
def qfr5:yW:=[
 yI 20 (.iaArr 8 1 (.t 5) (.v (.int .i64 0))),
 ⟨some 21,none,.rd,.load false 1 (.t 20)⟩,
 yI 22 (.iaArr 8 1 (.t 5) (.v (.int .i64 4))),
 ⟨some 23,none,.rd,.load false 1 (.t 22)⟩,
 yM 8 21,
 yM 9 23]
def qfr6:yW:=[
 yI 24 (.iaArr 8 1 (.t 5) (.v (.int .i64 7))),
 ⟨some 25,none,.rd,.load false 1 (.t 24)⟩,
 yM 26 9,
 ⟨some 27,none,.ef,.call (.v (.fn 61 [])) [(.t 26),(.v (.int .i64 6))]⟩,
 yM 28 9,
 ⟨some 29,none,.ef,.call (.v (.fn 61 [])) [(.t 28),(.v (.int .i64 11))]⟩,
 yB 30 .xor 27 29,
 yM 31 9,
 ⟨some 32,none,.ef,.call (.v (.fn 61 [])) [(.t 31),(.v (.int .i64 25))]⟩,
 yB 33 .xor 30 32,
 yB 34 .add 25 33,
 yM 35 9,
 yI 36 (.iaArr 8 1 (.t 5) (.v (.int .i64 5))),
 ⟨some 37,none,.rd,.load false 1 (.t 36)⟩,
 yB 38 .and 35 37,
 yM 39 9,
 yI 40 (.un .xor (.t 39)),
 yI 41 (.iaArr 8 1 (.t 5) (.v (.int .i64 6))),
 ⟨some 42,none,.rd,.load false 1 (.t 41)⟩,
 yB 43 .and 40 42,
 yB 44 .xor 38 43,
 yB 45 .add 34 44,
 yM 46 6,
 yI 47 (.iaArr 64 1 (.v (.vp gl_sha_rounds)) (.t 46)),
 ⟨some 48,none,.rd,.load false 1 (.t 47)⟩,
 yB 49 .add 45 48,
 yM 50 7,
 yB 51 .add 49 50,
 yM 10 51]
def qfr7:yW:=[
 yM 52 8,
 ⟨some 53,none,.ef,.call (.v (.fn 61 [])) [(.t 52),(.v (.int .i64 2))]⟩,
 yM 54 8,
 ⟨some 55,none,.ef,.call (.v (.fn 61 [])) [(.t 54),(.v (.int .i64 13))]⟩,
 yB 56 .xor 53 55,
 yM 57 8,
 ⟨some 58,none,.ef,.call (.v (.fn 61 [])) [(.t 57),(.v (.int .i64 22))]⟩,
 yB 59 .xor 56 58,
 yM 60 8,
 yI 61 (.iaArr 8 1 (.t 5) (.v (.int .i64 1))),
 ⟨some 62,none,.rd,.load false 1 (.t 61)⟩,
 yB 63 .and 60 62,
 yM 64 8,
 yI 65 (.iaArr 8 1 (.t 5) (.v (.int .i64 2))),
 ⟨some 66,none,.rd,.load false 1 (.t 65)⟩,
 yB 67 .and 64 66,
 yB 68 .xor 63 67,
 yI 69 (.iaArr 8 1 (.t 5) (.v (.int .i64 1))),
 ⟨some 70,none,.rd,.load false 1 (.t 69)⟩,
 yI 71 (.iaArr 8 1 (.t 5) (.v (.int .i64 2))),
 ⟨some 72,none,.rd,.load false 1 (.t 71)⟩,
 yB 73 .and 70 72,
 yB 74 .xor 68 73,
 yB 75 .add 59 74,
 yM 11 75]
def qfr8:yW:=[
 yM 76 10,
 yM 77 11,
 yB 78 .add 76 77,
 yM 79 8,
 yI 80 (.iaArr 8 1 (.t 5) (.v (.int .i64 1))),
 yL 81 false 1 80,
 yI 82 (.iaArr 8 1 (.t 5) (.v (.int .i64 2))),
 yL 83 false 1 82,
 yI 84 (.iaArr 8 1 (.t 5) (.v (.int .i64 3))),
 yL 85 false 1 84,
 yM 86 10,
 yB 87 .add 85 86,
 yM 88 9,
 yI 89 (.iaArr 8 1 (.t 5) (.v (.int .i64 5))),
 yL 90 false 1 89,
 yI 91 (.iaArr 8 1 (.t 5) (.v (.int .i64 6))),
 yL 92 false 1 91,
 yI 93 (.build [(.int .u32 0),(.int .u32 0),(.int .u32 0),(.int .u32 0),(.int .u32 0),(.int .u32 0),(.int .u32 0),(.int .u32 0)] [(0,1,(.t 78)),(1,1,(.t 79)),(2,1,(.t 81)),(3,1,(.t 83)),(4,1,(.t 87)),(5,1,(.t 88)),(6,1,(.t 90)),(7,1,(.t 92))]),
 yS 8 5 93]
def qfc9:yX:=yq qfr7 (.reg qfr8)
def qfc10:yX:=yq qfr6 qfc9
def qfc11:yX:=yq qfr5 qfc10
def qfc12:yX:=yq qfr4 qfc11
def qfr13:yW:=[
 yJ 94 .add 16 .i64 1,
 yM 16 94]
def qfc14:yX:=.seq (.block 1 qfc12) (.reg qfr13)
def qfc15:yX:=.seq (.cond (.t 17) .skip (.exit 0)) qfc14
def qfc16:yX:=yq qfr3 qfc15
def qfc17:yX:=.loop qfc16
def qfc18:yX:=.block 0 qfc17
def qfc19:yX:=yq qfr2 qfc18
def qfr20:yW:=[
 yK 95 .i64 0]
def qfr21:yW:=[
 yJ 96 .lss 95 .i64 8]
def qfr22:yW:=[
 yM 97 95,
 yM 12 97]
def qfr23:yW:=[
 yM 98 12,
 yI 99 (.iaArr 8 1 (.t 5) (.t 98)),
 ⟨some 100,none,.rd,.load false 1 (.t 99)⟩,
 yM 101 12,
 yI 102 (.iaArr 8 1 (.t 2) (.t 101)),
 ⟨some 103,none,.rd,.load false 1 (.t 102)⟩,
 yB 104 .add 100 103,
 yI 105 (.iaArr 8 1 (.t 5) (.t 98)),
 yS 1 105 104]
def qfc24:yX:=yq qfr22 (.reg qfr23)
def qfr25:yW:=[
 yJ 106 .add 95 .i64 1,
 yM 95 106]
def qfc26:yX:=.seq (.block 3 qfc24) (.reg qfr25)
def qfc27:yX:=.seq (.cond (.t 96) .skip (.exit 2)) qfc26
def qfc28:yX:=yq qfr21 qfc27
def qfc29:yX:=.loop qfc28
def qfc30:yX:=.block 2 qfc29
def qfc31:yX:=yq qfr20 qfc30
def qfr32:yW:=[
 yL 107 true 8 5,
 yS 8 4 107]
def qfc33:yX:=yq qfr32 .ret
def qfc34:yX:=.seq qfc31 qfc33
def qfc35:yX:=.seq qfc19 qfc34
def qfc36:yX:=yq qfr1 qfc35
def qfc37:yX:=yq qfr0 qfc36
attribute [go_sem] qfr0 qfr1 qfr2 qfr3 qfr4 qfr5 qfr6 qfr7 qfr8 qfr13 qfr20 qfr21 qfr22 qfr23 qfr25 qfr32
theorem qfok:cFn TC 40=some (108,[.c 4 true 8],qfc37):=by kernel_rfl
def qgr0:yW:=[
 yI 2 (.alloc [(.int .u32 0),(.int .u32 0),(.int .u32 0),(.int .u32 0),(.int .u32 0),(.int .u32 0),(.int .u32 0),(.int .u32 0),(.int .u32 0),(.int .u32 0),(.int .u32 0),(.int .u32 0),(.int .u32 0),(.int .u32 0),(.int .u32 0),(.int .u32 0),(.int .u32 0),(.int .u32 0),(.int .u32 0),(.int .u32 0),(.int .u32 0),(.int .u32 0),(.int .u32 0),(.int .u32 0),(.int .u32 0),(.int .u32 0),(.int .u32 0),(.int .u32 0),(.int .u32 0),(.int .u32 0),(.int .u32 0),(.int .u32 0),(.int .u32 0),(.int .u32 0),(.int .u32 0),(.int .u32 0),(.int .u32 0),(.int .u32 0),(.int .u32 0),(.int .u32 0),(.int .u32 0),(.int .u32 0),(.int .u32 0),(.int .u32 0),(.int .u32 0),(.int .u32 0),(.int .u32 0),(.int .u32 0),(.int .u32 0),(.int .u32 0),(.int .u32 0),(.int .u32 0),(.int .u32 0),(.int .u32 0),(.int .u32 0),(.int .u32 0),(.int .u32 0),(.int .u32 0),(.int .u32 0),(.int .u32 0),(.int .u32 0),(.int .u32 0),(.int .u32 0),(.int .u32 0)])]
def qgr1:yW:=[
 yK 6 .i64 0]
def qgr2:yW:=[
 yJ 7 .lss 6 .i64 64]
def qgr3:yW:=[
 yM 8 6,
 yM 3 8]
def qgr4:yW:=[
 yM 9 3,
 yJ 10 .lss 9 .i64 16]
def qgr5:yW:=[
 yM 11 3,
 yM 12 0,
 yM 13 3,
 yI 14 (.bin .mul .none (.v (.int .i64 4)) (.t 13)),
 yM 15 3,
 yI 16 (.bin .mul .none (.v (.int .i64 4)) (.t 15)),
 yJ 17 .add 16 .i64 4,
 yI 18 (.slice .str (.t 12) (some (.t 14)) (some (.t 17)) none),
 yC 19 85 18,
 yI 20 (.conv (.int .u32) (.t 19)),
 yI 21 (.iaArr 64 1 (.t 2) (.t 11)),
 yS 1 21 20]
def qgc6:yX:=yq qgr5 (.exit 1)
def qgc7:yX:=.cond (.t 10) qgc6 .skip
def qgc8:yX:=yq qgr4 qgc7
def qgr9:yW:=[
 yM 22 3,
 yJ 23 .sub 22 .i64 15,
 yI 24 (.iaArr 64 1 (.t 2) (.t 23)),
 ⟨some 25,none,.rd,.load false 1 (.t 24)⟩,
 yM 26 3,
 yJ 27 .sub 26 .i64 2,
 yI 28 (.iaArr 64 1 (.t 2) (.t 27)),
 ⟨some 29,none,.rd,.load false 1 (.t 28)⟩,
 yM 4 25,
 yM 5 29]
def qgr10:yW:=[
 yM 30 3,
 yM 31 3,
 yJ 32 .sub 31 .i64 16,
 yI 33 (.iaArr 64 1 (.t 2) (.t 32)),
 ⟨some 34,none,.rd,.load false 1 (.t 33)⟩,
 yM 35 3,
 yJ 36 .sub 35 .i64 7,
 yI 37 (.iaArr 64 1 (.t 2) (.t 36)),
 ⟨some 38,none,.rd,.load false 1 (.t 37)⟩,
 yB 39 .add 34 38,
 yM 40 4,
 ⟨some 41,none,.ef,.call (.v (.fn 61 [])) [(.t 40),(.v (.int .i64 7))]⟩,
 yM 42 4,
 ⟨some 43,none,.ef,.call (.v (.fn 61 [])) [(.t 42),(.v (.int .i64 18))]⟩,
 yB 44 .xor 41 43,
 yM 45 4,
 yJ 46 .shr 45 .u64 3,
 yB 47 .xor 44 46,
 yB 48 .add 39 47,
 yM 49 5,
 ⟨some 50,none,.ef,.call (.v (.fn 61 [])) [(.t 49),(.v (.int .i64 17))]⟩,
 yM 51 5,
 ⟨some 52,none,.ef,.call (.v (.fn 61 [])) [(.t 51),(.v (.int .i64 19))]⟩,
 yB 53 .xor 50 52,
 yM 54 5,
 yJ 55 .shr 54 .u64 10,
 yB 56 .xor 53 55,
 yB 57 .add 48 56,
 yI 58 (.iaArr 64 1 (.t 2) (.t 30)),
 yS 1 58 57]
def qgc11:yX:=yq qgr9 (.reg qgr10)
def qgc12:yX:=.seq qgc8 qgc11
def qgc13:yX:=yq qgr3 qgc12
def qgr14:yW:=[
 yJ 59 .add 6 .i64 1,
 yM 6 59]
def qgc15:yX:=.seq (.block 1 qgc13) (.reg qgr14)
def qgc16:yX:=.seq (.cond (.t 7) .skip (.exit 0)) qgc15
def qgc17:yX:=yq qgr2 qgc16
def qgc18:yX:=.loop qgc17
def qgc19:yX:=.block 0 qgc18
def qgc20:yX:=yq qgr1 qgc19
def qgr21:yW:=[
 yL 60 true 64 2,
 yS 64 2 60]
def qgc22:yX:=yq qgr21 .ret
def qgc23:yX:=.seq qgc20 qgc22
def qgc24:yX:=yq qgr0 qgc23
attribute [go_sem] qgr0 qgr1 qgr2 qgr3 qgr4 qgr5 qgr9 qgr10 qgr14 qgr21
theorem qgok:cFn TC 60=some (61,[.c 2 true 64],qgc24):=by kernel_rfl
end
section
abbrev W:=BitVec 32
def wc(x:W):AV:=.int .u32 x.toNat
def ws(l:List W):List AV:=l.map wc
def ss0(x:W):W:=(x.rotateLeft 25^^^x.rotateLeft 14)^^^x>>>3
def ss1(y:W):W:=(y.rotateLeft 15^^^y.rotateLeft 13)^^^y>>>10
def bs1(e:W):W:=(e.rotateLeft 26^^^e.rotateLeft 21)^^^e.rotateLeft 7
def bs0(a:W):W:=(a.rotateLeft 30^^^a.rotateLeft 19)^^^a.rotateLeft 10
def chW(e f g:W):W:=(e &&& f)^^^(~~~e &&& g)
def majW(a b c:W):W:=((a &&& b)^^^(a &&& c))^^^(b &&& c)
def zj(s:List UInt8)(i:Nat):W:=BitVec.ofNat 32 (getS ((s.drop (4*i)).take 4))
def wat(w:List W)(i:Nat):W:=w.getD i 0
def z2p(s:List UInt8)(w:List W):W:=
 if w.length<16 then zj s w.length else wat w (w.length-16)+wat w (w.length-7)+ss0 (wat w (w.length-15))+ss1 (wat w (w.length-2))
def z12(s:List UInt8):Nat->List W
 | 0=>[]
 |n+1=>z12 s n++ [z2p s (z12 s n)]
structure V8 where
 a:W
 b:W
 c:W
 d:W
 e:W
 f:W
 g:W
 h:W
def V8.l(v:V8):List W:=[v.a,v.b,v.c,v.d,v.e,v.f,v.g,v.h]
def rnd(v:V8)(k w:W):V8:=
 ⟨(v.h+bs1 v.e+chW v.e v.f v.g+k+w)+(bs0 v.a+majW v.a v.b v.c),v.a,v.b,v.c,v.d+(v.h+bs1 v.e+chW v.e v.f v.g+k+w),v.e,v.f,v.g⟩
def kAt(n:Nat):W:=BitVec.ofInt 32 (shaRounds.getD n 0)
def rnds(s:List UInt8)(v:V8):Nat->V8
 | 0=>v
 |n+1=>rnd (rnds s v n) (kAt n) (wat (z12 s 64) n)
def V8.add(v u:V8):V8:=⟨v.a+u.a,v.b+u.b,v.c+u.c,v.d+u.d,v.e+u.e,v.f+u.f,v.g+u.g,v.h+u.h⟩
def mixS(v:V8)(s:List UInt8):V8:=(rnds s v 64).add v
def blocks:Nat->V8->List UInt8->V8
 | 0,v,_=>v
 |n+1,v,s=>blocks n (mixS v (s.take 64)) (s.drop 64)
def v0:V8:=⟨1779033703#32,3144134277#32,1013904242#32,2773480762#32,1359893119#32,2600822924#32,528734635#32,1541459225#32⟩
def padS(s:List UInt8):List UInt8:=s++128::(List.replicate ((119-s.length%64)%64) 0++be 8 (s.length*8))
def outV(v:V8):List UInt8:=v.l.flatMap fun x=>be 4 x.toNat
def shaS(s:List UInt8):List UInt8:=outV (blocks ((padS s).length/64) v0 (padS s))
theorem z45(s:List UInt8):∀n,(z12 s n).length=n
 | 0=>rfl
 |n+1=>by simp [z12,z45 s n]
theorem z7u{w:List W}{i:Nat}(h:i<w.length):(ws w)[i]? =some (.int .u32 (wat w i).toNat):=by
 simp [ws,wc,wat,List.getElem?_map,List.getD_eq_getElem?_getD,List.getElem?_eq_getElem h]
theorem z3v(w:List W):(ws w).length=w.length:=by simp [ws]
section
theorem wr32(x:BitVec 32):IntKind.u32.wrap (x.toNat:Int)=x.toNat:=z9i ⟨by omega,by have:=x.isLt;omega⟩
theorem bw_add(a b:BitVec 32):z14 .add .u32 (a.toNat:Int) (b.toNat:Int)=some (.int .u32 ((a+b).toNat:Int)):=by
 rw [zgq,z9j,BitVec.toNat_add];rfl
theorem bw_xor(a b:BitVec 32):z14 .xor .u32 (a.toNat:Int) (b.toNat:Int)=some (.int .u32 ((a^^^b).toNat:Int)):=by
 rw [zgt ⟨by omega,by have:=a.isLt;omega⟩ ⟨by omega,by have:=b.isLt;omega⟩,BitVec.toNat_xor];rfl
theorem bw_and(a b:BitVec 32):z14 .and .u32 (a.toNat:Int) (b.toNat:Int)=some (.int .u32 ((a &&& b).toNat:Int)):=by
 rw [zgr ⟨by omega,by have:=a.isLt;omega⟩ ⟨by omega,by have:=b.isLt;omega⟩,BitVec.toNat_and];rfl
theorem bw_or(a b:BitVec 32):z14 .or .u32 (a.toNat:Int) (b.toNat:Int)=some (.int .u32 ((a |||b).toNat:Int)):=by
 rw [zgs ⟨by omega,by have:=a.isLt;omega⟩ ⟨by omega,by have:=b.isLt;omega⟩,BitVec.toNat_or];rfl
theorem bw_shr{a:BitVec 32}{n:Int}(h:0<=n/\ n<32):z1e .shr .u32 (a.toNat:Int) n=some (.int .u32 ((a>>>n.toNat).toNat:Int)):=by
 rw [zj2 h,BitVec.toNat_ushiftRight,Nat.shiftRight_eq_div_pow,Int.natCast_ediv,Int.natCast_pow];rfl
theorem bw_shl{a:BitVec 32}{n:Int}(h:0<=n/\ n<32):z1e .shl .u32 (a.toNat:Int) n=some (.int .u32 ((a<<<n.toNat).toNat:Int)):=by
 rw [ziz h,BitVec.toNat_shiftLeft,Nat.shiftLeft_eq,z9j]
 rw [Int.natCast_emod,Int.natCast_mul,Int.natCast_pow];rfl
theorem bw_not(a:BitVec 32):aUn .xor (.int .u32 (a.toNat:Int))=some (.int .u32 ((~~~a).toNat:Int)):=by
 have e1:BitVec.ofInt IntKind.u32.bits (a.toNat:Int)=a:=by
  apply BitVec.eq_of_toNat_eq
  have:=a.isLt
  rw [BitVec.toNat_ofInt]
  simp only [IntKind.bits]
  omega
 have e2:BitVec.ofInt IntKind.u32.bits (if IntKind.u32.signed=true then-1 else IntKind.u32.max)=BitVec.allOnes 32:=by rfl
 have e3:aUn .xor (.int .u32 (a.toNat:Int))=some (.int .u32 (IntKind.u32.wrap (((BitVec.ofInt IntKind.u32.bits (if IntKind.u32.signed=true then-1 else IntKind.u32.max)^^^BitVec.ofInt IntKind.u32.bits (a.toNat:Int)).toNat:Nat):Int))):=rfl
 rw [e3,e1,e2]
 have e4:BitVec.allOnes 32^^^a= ~~~a:=BitVec.allOnes_xor
 show some (AV.int .u32 (IntKind.u32.wrap ((BitVec.allOnes 32^^^a).toNat:Int)))=_
 rw [e4,wr32]
end
attribute [go_sem high] bw_add bw_xor bw_and bw_or bw_shr bw_shl bw_not
end
end Am
end Go.Proofs.YtkiimfgjimoffaaGreatDoor
section
/- Packed words: lanes of 64 bits in one number. -/
namespace Go.Proofs.YtkiimfgjimoffaaGreatDoor
namespace Pk
def pkN:List Nat->Nat
 | []=>0
 |x::l=>2^64*pkN l+x
def lane(l:List Nat)(q:Nat):Nat:=l.getD q 0
theorem zhu:∀(l:List Nat) (i:Nat),(∀x ∈ l,x<2^64)->(pkN l).testBit i=(lane l (i/64)).testBit (i%64)
 | [],i,_=>by simp [pkN,lane]
 |x::l,i,h=>by
  rw [pkN,Nat.testBit_two_pow_mul_add _ (h x (by simp))]
  by_cases hi:i<64
  ·rw [if_pos hi,show i/64=0 by omega,show i%64=i by omega];rfl
  ·rw [if_neg hi,zhu l (i-64) (fun y hy=>h y (by simp [hy])),show i/64=(i-64)/64+1 by omega,show i%64=(i-64)%64 by omega]
   rfl
theorem pk_at{l:List Nat}(hl:∀x ∈ l,x<2^64)(q r:Nat)(hr:r<64):(pkN l).testBit (64*q+r)=(lane l q).testBit r:=by
 rw [zhu l _ hl,show (64*q+r)/64=q by omega,show (64*q+r)%64=r by omega]
section
variable {ι:Type} (L:List ι)
def P(f:ι->Nat):Nat:=pkN (L.map f)
theorem P_add(f g:ι->Nat):P L f+P L g=P L (fun i=>f i+g i):=by
 unfold P
 induction L with
 |nil=>rfl
 |cons x l ih=>simp only [List.map_cons,pkN]at ih ⊢;rw [<-ih];omega
theorem P_mul(f:ι->Nat)(c:Nat):P L f*c=P L (fun i=>f i*c):=by
 unfold P
 induction L with
 |nil=>simp [pkN]
 |cons x l ih=>simp only [List.map_cons,pkN]at ih ⊢;rw [<-ih,Nat.add_mul,Nat.mul_assoc]
theorem zo4(f:ι->Nat)(q:Nat):lane (L.map f) q=((L[q]?).map f).getD 0:=by
 simp [lane,List.getD_eq_getElem?_getD]
theorem z80{f:ι->Nat}(h:∀i,f i<2^64)(q r:Nat)(hr:r<64):(P L f).testBit (64*q+r)=((L[q]?).map f).any (·.testBit r):=by
 unfold P
 rw [pk_at (by simp only [List.mem_map];rintro x ⟨i,_,rfl⟩;exact h i) q r hr,zo4]
 cases L[q]? <;>simp
theorem P_ext{f:ι->Nat}(h:∀i,f i<2^64){N:Nat}(hN:∀q r,r<64->N.testBit (64*q+r)=((L[q]?).map f).any (·.testBit r)):N=P L f:=by
 apply Nat.eq_of_testBit_eq
 intro i
 have e:i=64*(i/64)+i%64:=(Nat.div_add_mod i 64).symm
 rw [e,hN _ _ (Nat.mod_lt _ (by omega)),z80 L h _ _ (Nat.mod_lt _ (by omega))]
abbrev W:=BitVec 32
def Q(f:ι->W):Nat:=P L (fun i=>(f i).toNat)
def M:Nat:=P L (fun _=>4294967295)
def one:Nat:=P L (fun _=>1)
theorem w64(x:W):x.toNat<2^64:=by have:=x.isLt;omega
theorem Q_bit{f:ι->W}(q r:Nat)(hr:r<64):(Q L f).testBit (64*q+r)=(L[q]?).any (fun i=>(f i).getLsbD r):=by
 unfold Q
 rw [z80 L (fun i=>w64 _) q r hr]
 cases L[q]? <;>simp [BitVec.getLsbD]
theorem Q_ext{f:ι->W}{N:Nat}(hN:∀q r,r<64->N.testBit (64*q+r)=(L[q]?).any (fun i=>(f i).getLsbD r)):N=Q L f:=by
 apply P_ext L (fun i=>w64 _)
 intro q r hr
 rw [hN q r hr]
 cases L[q]? <;>simp [BitVec.getLsbD]
theorem M_bit(q r:Nat)(hr:r<64):(M L).testBit (64*q+r)=(L[q]?).any (fun _=>decide (r<32)):=by
 unfold M
 rw [z80 L (fun i=>by omega) q r hr]
 cases L[q]? with
 |none=>simp
 |some x=>
  simp only [Option.map_some,Option.any_some]
  rw [show (4294967295:Nat)=2^32-1 from rfl,Nat.testBit_two_pow_sub_one]
theorem Q_xor(f g:ι->W):Q L f^^^Q L g=Q L (fun i=>f i^^^g i):=by
 apply Q_ext
 intro q r hr
 rw [Nat.testBit_xor,Q_bit L q r hr,Q_bit L q r hr]
 cases L[q]? <;>simp
theorem Q_and(f g:ι->W):Q L f &&& Q L g=Q L (fun i=>f i &&& g i):=by
 apply Q_ext
 intro q r hr
 rw [Nat.testBit_and,Q_bit L q r hr,Q_bit L q r hr]
 cases L[q]? <;>simp
theorem Q_not(f:ι->W):M L^^^Q L f=Q L (fun i=> ~~~ f i):=by
 apply Q_ext
 intro q r hr
 rw [Nat.testBit_xor,Q_bit L q r hr,M_bit L q r hr]
 cases L[q]? with
 |none=>simp
 |some x=>
  simp only [Option.any_some,BitVec.getLsbD_not]
  by_cases h:r<32
  ·simp [h]
  ·simp [h,BitVec.getLsbD_of_ge _ _ (show 32<=r by omega)]
theorem P_mask{f:ι->Nat}(h:∀i,f i<2^64):P L f &&& M L=Q L (fun i=>BitVec.ofNat 32 (f i)):=by
 apply Q_ext
 intro q r hr
 rw [Nat.testBit_and,z80 L h q r hr,M_bit L q r hr]
 cases L[q]? with
 |none=>simp
 |some x=>simp [BitVec.getLsbD_ofNat];exact Bool.and_comm _ _
def cD:Nat:=2^32+1
theorem cD_is(x:Nat):x*cD=2^32*x+x:=by rw [cD,Nat.mul_add,Nat.mul_comm,Nat.mul_one]
def dbl(x:Nat):Nat:=x*cD
theorem zlw(x:W)(r:Nat):(x.toNat*cD).testBit r=if r<32 then x.getLsbD r else x.getLsbD (r-32):=by
 rw [cD_is,Nat.testBit_two_pow_mul_add _ x.isLt]
 rfl
theorem dbl_lt(x:W):x.toNat*cD<2^64:=by have:=x.isLt;rw [cD_is];omega
theorem D_bit{f:ι->W}(q r:Nat)(hr:r<64):(dbl (Q L f)).testBit (64*q+r)=(L[q]?).any (fun i=>if r<32 then(f i).getLsbD r else(f i).getLsbD (r-32)):=by
 have e:dbl (Q L f)=P L (fun i=>(f i).toNat*cD):=by unfold dbl Q;rw [P_mul]
 rw [e,z80 L (fun i=>dbl_lt (f i)) q r hr]
 cases L[q]? with
 |none=>rfl
 |some x=>rw [Option.map_some,Option.any_some,Option.any_some,zlw]
theorem rl_bit(x:W)(r k:Nat)(h0:0<k)(hk:k<32)(h:r<32):(x.rotateLeft (32-k)).getLsbD r=if k+r<32 then x.getLsbD (k+r)else x.getLsbD (k+r-32):=by
 rw [BitVec.getLsbD_rotateLeft,Nat.mod_eq_of_lt (show 32-k<32 by omega)]
 by_cases h1:r<32-k
 ·rw [if_pos (by omega),decide_eq_true h1,cond_true,show 32-(32-k)+r=k+r by omega]
 ·rw [if_neg (by omega),decide_eq_false h1,cond_false,decide_eq_true h,Bool.true_and,show k+r-32=r-(32-k)by omega]
theorem z7x{f:ι->W}(q r k:Nat)(h:r<32)(h0:0<k)(hk:k<32):(dbl (Q L f)>>>k).testBit (64*q+r)=(L[q]?).any (fun i=>((f i).rotateLeft (32-k)).getLsbD r):=by
 rw [Nat.testBit_shiftRight,show k+(64*q+r)=64*q+(k+r)by omega,D_bit L q (k+r) (by omega)]
 cases L[q]? with
 |none=>rfl
 |some x=>simp only [Option.any_some];rw [rl_bit _ _ _ h0 hk h]
theorem Q_rot3(f:ι->W)(a b c:Nat)(ha:0<a/\ a<32)(hb:0<b/\ b<32)(hc:0<c/\ c<32):
  ((dbl (Q L f)>>>a^^^dbl (Q L f)>>>b)^^^dbl (Q L f)>>>c) &&& M L=Q L (fun i=>((f i).rotateLeft (32-a)^^^(f i).rotateLeft (32-b))^^^(f i).rotateLeft (32-c)):=by
 apply Q_ext
 intro q r hr
 rw [Nat.testBit_and,M_bit L q r hr]
 by_cases h:r<32
 ·rw [Nat.testBit_xor,Nat.testBit_xor,z7x L q r a h ha.1 ha.2,z7x L q r b h hb.1 hb.2,z7x L q r c h hc.1 hc.2]
  cases L[q]? <;>simp [h]
 ·cases L[q]? with
  |none=>simp
  |some x=>simp [h,BitVec.getLsbD_of_ge _ _ (show 32<=r by omega)]
theorem Q_rot2(f:ι->W)(a b c:Nat)(ha:0<a/\ a<32)(hb:0<b/\ b<32)(hc:0<c/\ c<32):
  ((dbl (Q L f)>>>a^^^dbl (Q L f)>>>b)^^^Q L f>>>c) &&& M L=Q L (fun i=>((f i).rotateLeft (32-a)^^^(f i).rotateLeft (32-b))^^^(f i)>>>c):=by
 apply Q_ext
 intro q r hr
 rw [Nat.testBit_and,M_bit L q r hr]
 by_cases h:r<32
 ·rw [Nat.testBit_xor,Nat.testBit_xor,z7x L q r a h ha.1 ha.2,z7x L q r b h hb.1 hb.2,Nat.testBit_shiftRight,show c+(64*q+r)=64*q+(c+r)by omega,Q_bit L q (c+r) (by omega)]
  cases L[q]? <;>simp [h]
 ·cases L[q]? with
  |none=>simp
  |some x=>simp [h,BitVec.getLsbD_of_ge _ _ (show 32<=r by omega)]
end
end Pk
end Go.Proofs.YtkiimfgjimoffaaGreatDoor
end
namespace Go.Proofs.YtkiimfgjimoffaaGreatDoor
namespace Am
section
set_option maxRecDepth 4000
open Pk (P Q M one pkN dbl cD)
noncomputable def frc{α:Type}(n:Nat)(f:Nat->α):α:=Nat.rec (f 0) (fun k _=>f (Nat.succ k)) n
theorem zl{α:Type}(n:Nat)(f:Nat->α):frc n f=f n:=by cases n<;>rfl
structure S8 where
 a:Nat
 b:Nat
 c:Nat
 d:Nat
 e:Nat
 f:Nat
 g:Nat
 h:Nat
noncomputable def rot3(m x a b c:Nat):Nat:=frc (Nat.mul x 4294967297) fun y=>Nat.land (Nat.xor (Nat.xor (Nat.shiftRight y a) (Nat.shiftRight y b)) (Nat.shiftRight y c)) m
noncomputable def rot2(m x a b c:Nat):Nat:=frc (Nat.mul x 4294967297) fun y=>Nat.land (Nat.xor (Nat.xor (Nat.shiftRight y a) (Nat.shiftRight y b)) (Nat.shiftRight x c)) m
noncomputable def t1N(m o e f g h k w:Nat):Nat:=
 Nat.add (Nat.add (Nat.add (Nat.add h (rot3 m e 6 11 25)) (Nat.xor (Nat.land e f) (Nat.land (Nat.xor m e) g))) (Nat.mul o k)) w
noncomputable def t2N(m a b c:Nat):Nat:=Nat.add (rot3 m a 2 13 22) (Nat.xor (Nat.xor (Nat.land a b) (Nat.land a c)) (Nat.land b c))
noncomputable def nwN(m w0 w1 w9 w14:Nat):Nat:=Nat.land (Nat.add (Nat.add (Nat.add w0 w9) (rot2 m w1 7 18 3)) (rot2 m w14 17 19 10)) m
noncomputable def goN(m o:Nat)(ks:List Nat):Nat->Nat->Nat->Nat->Nat->Nat->Nat->Nat->Nat->Nat->Nat->Nat->Nat->Nat->Nat->Nat->Nat->Nat->Nat->Nat->Nat->Nat->Nat->Nat->S8:=
 List.rec (motive:=fun _=>Nat->Nat->Nat->Nat->Nat->Nat->Nat->Nat->Nat->Nat->Nat->Nat->Nat->Nat->Nat->Nat->Nat->Nat->Nat->Nat->Nat->Nat->Nat->Nat->S8)
  (fun a b c d e f g h _ _ _ _ _ _ _ _ _ _ _ _ _ _ _ _=>⟨a,b,c,d,e,f,g,h⟩)
  (fun k _ ih a b c d e f g h w0 w1 w2 w3 w4 w5 w6 w7 w8 w9 w10 w11 w12 w13 w14 w15=>
   frc (t1N m o e f g h k w0) fun t=>frc (Nat.land (Nat.add t (t2N m a b c)) m) fun a'=>frc (Nat.land (Nat.add d t) m) fun e'=>frc (nwN m w0 w1 w9 w14) fun w'=>
    ih a' a b c e' e f g w1 w2 w3 w4 w5 w6 w7 w8 w9 w10 w11 w12 w13 w14 w15 w') ks
theorem zmx(m o a b c d e f g h w0 w1 w2 w3 w4 w5 w6 w7 w8 w9 w10 w11 w12 w13 w14 w15:Nat):goN m o [] a b c d e f g h w0 w1 w2 w3 w4 w5 w6 w7 w8 w9 w10 w11 w12 w13 w14 w15=⟨a,b,c,d,e,f,g,h⟩:=rfl
theorem zmw(m o k:Nat)(ks:List Nat)(a b c d e f g h w0 w1 w2 w3 w4 w5 w6 w7 w8 w9 w10 w11 w12 w13 w14 w15:Nat):goN m o (k::ks) a b c d e f g h w0 w1 w2 w3 w4 w5 w6 w7 w8 w9 w10 w11 w12 w13 w14 w15=
  goN m o ks (Nat.land (Nat.add (t1N m o e f g h k w0) (t2N m a b c)) m) a b c (Nat.land (Nat.add d (t1N m o e f g h k w0)) m) e f g w1 w2 w3 w4 w5 w6 w7 w8 w9 w10 w11 w12 w13 w14 w15 (nwN m w0 w1 w9 w14):=by
 unfold goN
 dsimp only
 rw [zl,zl,zl,zl]
theorem zfd:(4294967297:Nat)=cD:=by decide
section
variable {ι:Type} (L:List ι)
theorem zil(f:ι->W)(a b c:Nat)(ha:0<a/\ a<32)(hb:0<b/\ b<32)(hc:0<c/\ c<32):
  rot3 (M L) (Q L f) a b c=Q L (fun i=>((f i).rotateLeft (32-a)^^^(f i).rotateLeft (32-b))^^^(f i).rotateLeft (32-c)):=by
 unfold rot3
 rw [zl,zfd]
 exact Pk.Q_rot3 L f a b c ha hb hc
theorem zik(f:ι->W)(a b c:Nat)(ha:0<a/\ a<32)(hb:0<b/\ b<32)(hc:0<c/\ c<32):
  rot2 (M L) (Q L f) a b c=Q L (fun i=>((f i).rotateLeft (32-a)^^^(f i).rotateLeft (32-b))^^^(f i)>>>c):=by
 unfold rot2
 rw [zl,zfd]
 exact Pk.Q_rot2 L f a b c ha hb hc
theorem t1_ok(e f g h w:ι->W)(k:W):t1N (M L) (one L) (Q L e) (Q L f) (Q L g) (Q L h) k.toNat (Q L w)=P L (fun i=>(h i).toNat+(bs1 (e i)).toNat+(chW (e i) (f i) (g i)).toNat+k.toNat+(w i).toNat):=by
 unfold t1N
 rw [zil L e 6 11 25 (by omega) (by omega) (by omega)]
 have h1:Nat.xor (Nat.land (Q L e) (Q L f)) (Nat.land (Nat.xor (M L) (Q L e)) (Q L g))=Q L (fun i=>chW (e i) (f i) (g i)):=by
  have a1:Nat.land (Q L e) (Q L f)=Q L (fun i=>e i &&& f i):=Pk.Q_and L e f
  have a2:Nat.xor (M L) (Q L e)=Q L (fun i=> ~~~ e i):=Pk.Q_not L e
  have a3:Nat.land (Q L (fun i=> ~~~ e i)) (Q L g)=Q L (fun i=> ~~~ e i &&& g i):=Pk.Q_and L _ g
  rw [a1,a2,a3]
  exact Pk.Q_xor L _ _
 have h2:Nat.mul (one L) k.toNat=P L (fun _=>k.toNat):=by
  have:=Pk.P_mul L (fun _=>1) k.toNat
  simpa [one]using this
 rw [h1,h2]
 have add:∀f g:ι->Nat,Nat.add (P L f) (P L g)=P L (fun i=>f i+g i):=Pk.P_add L
 unfold Q
 rw [add,add,add,add]
 rfl
theorem t2_ok(a b c:ι->W):t2N (M L) (Q L a) (Q L b) (Q L c)=P L (fun i=>(bs0 (a i)).toNat+(majW (a i) (b i) (c i)).toNat):=by
 unfold t2N
 rw [zil L a 2 13 22 (by omega) (by omega) (by omega)]
 have h1:Nat.xor (Nat.xor (Nat.land (Q L a) (Q L b)) (Nat.land (Q L a) (Q L c))) (Nat.land (Q L b) (Q L c))=Q L (fun i=>majW (a i) (b i) (c i)):=by
  have a1:∀f g:ι->W,Nat.land (Q L f) (Q L g)=Q L (fun i=>f i &&& g i):=Pk.Q_and L
  have a2:∀f g:ι->W,Nat.xor (Q L f) (Q L g)=Q L (fun i=>f i^^^g i):=Pk.Q_xor L
  rw [a1,a1,a1,a2,a2]
  rfl
 rw [h1]
 have add:∀f g:ι->Nat,Nat.add (P L f) (P L g)=P L (fun i=>f i+g i):=Pk.P_add L
 unfold Q
 rw [add]
 rfl
theorem z7d{f:ι->Nat}(g:ι->W)(h:∀i,f i<2^64)(hg:∀i,BitVec.ofNat 32 (f i)=g i):Nat.land (P L f) (M L)=Q L g:=by
 have:=Pk.P_mask L h
 rw [show (fun i=>BitVec.ofNat 32 (f i))=g from funext hg]at this
 exact this
theorem nw_ok(w0 w1 w9 w14:ι->W):nwN (M L) (Q L w0) (Q L w1) (Q L w9) (Q L w14)=Q L (fun i=>w0 i+w9 i+ss0 (w1 i)+ss1 (w14 i)):=by
 unfold nwN
 rw [zik L w1 7 18 3 (by omega) (by omega) (by omega),zik L w14 17 19 10 (by omega) (by omega) (by omega)]
 have add:∀f g:ι->Nat,Nat.add (P L f) (P L g)=P L (fun i=>f i+g i):=Pk.P_add L
 have e:Nat.add (Nat.add (Nat.add (Q L w0) (Q L w9)) (Q L (fun i=>ss0 (w1 i)))) (Q L (fun i=>ss1 (w14 i)))=P L (fun i=>(w0 i).toNat+(w9 i).toNat+(ss0 (w1 i)).toNat+(ss1 (w14 i)).toNat):=by
  unfold Q
  rw [add,add,add]
 show Nat.land (Nat.add (Nat.add (Nat.add (Q L w0) (Q L w9)) (Q L (fun i=>ss0 (w1 i)))) (Q L (fun i=>ss1 (w14 i)))) (M L)=_
 rw [e]
 refine z7d L _ (fun i=> ?_) fun i=> ?_
 ·have:=(w0 i).isLt;have:=(w9 i).isLt;have:=(ss0 (w1 i)).isLt;have:=(ss1 (w14 i)).isLt;omega
 ·apply BitVec.eq_of_toNat_eq;simp only [BitVec.toNat_ofNat,BitVec.toNat_add];omega
end
def wx(s:List UInt8)(t:Nat):W:=z2p s (z12 s t)
theorem z6r(s:List UInt8):∀n,(z12 s n).length=n
 | 0=>rfl
 |n+1=>by simp [z12,z6r s n]
theorem z7v(s:List UInt8):∀(n t:Nat),t<n->wat (z12 s n) t=wx s t
 |n+1,t,h=>by
  unfold wat
  rw [z12,List.getD_eq_getElem?_getD]
  by_cases h1:t<n
  ·rw [List.getElem?_append_left (by rw [z6r];exact h1),<-List.getD_eq_getElem?_getD]
   exact z7v s n t h1
  ·obtain rfl:t=n:=by omega
   rw [List.getElem?_append_right (by rw [z6r];omega),z6r,Nat.sub_self]
   rfl
theorem wx_lo(s:List UInt8)(t:Nat)(h:t<16):wx s t=zj s t:=by
 unfold wx z2p
 rw [z6r,if_pos h]
theorem wx_hi(s:List UInt8)(t:Nat):wx s (t+16)=wx s t+wx s (t+9)+ss0 (wx s (t+1))+ss1 (wx s (t+14)):=by
 conv=>lhs;unfold wx z2p
 rw [z6r,if_neg (by omega),z7v s _ _ (by omega),z7v s _ _ (by omega),z7v s _ _ (by omega),z7v s _ _ (by omega)]
 rw [show t+16-16=t by omega,show t+16-7=t+9 by omega,show t+16-15=t+1 by omega,show t+16-2=t+14 by omega]
theorem zih(s:List UInt8)(v:V8)(n:Nat)(h:n<64):rnds s v (n+1)=rnd (rnds s v n) (kAt n) (wx s n):=by
 rw [rnds,z7v s 64 n h]
def kN(t:Nat):Nat:=(kAt t).toNat
section
variable {ι:Type} (L:List ι)
theorem zgg(s:ι->List UInt8)(v:ι->V8):∀(n t:Nat),t+n=64->
  goN (M L) (one L) ((List.range' t n).map kN) (Q L fun i=>(rnds (s i) (v i) t).a) (Q L fun i=>(rnds (s i) (v i) t).b) (Q L fun i=>(rnds (s i) (v i) t).c) (Q L fun i=>(rnds (s i) (v i) t).d)
   (Q L fun i=>(rnds (s i) (v i) t).e) (Q L fun i=>(rnds (s i) (v i) t).f) (Q L fun i=>(rnds (s i) (v i) t).g) (Q L fun i=>(rnds (s i) (v i) t).h)
   (Q L fun i=>wx (s i) t) (Q L fun i=>wx (s i) (t+1)) (Q L fun i=>wx (s i) (t+2)) (Q L fun i=>wx (s i) (t+3)) (Q L fun i=>wx (s i) (t+4)) (Q L fun i=>wx (s i) (t+5)) (Q L fun i=>wx (s i) (t+6)) (Q L fun i=>wx (s i) (t+7))
   (Q L fun i=>wx (s i) (t+8)) (Q L fun i=>wx (s i) (t+9)) (Q L fun i=>wx (s i) (t+10)) (Q L fun i=>wx (s i) (t+11)) (Q L fun i=>wx (s i) (t+12)) (Q L fun i=>wx (s i) (t+13)) (Q L fun i=>wx (s i) (t+14)) (Q L fun i=>wx (s i) (t+15))=
  ⟨Q L fun i=>(rnds (s i) (v i) 64).a,Q L fun i=>(rnds (s i) (v i) 64).b,Q L fun i=>(rnds (s i) (v i) 64).c,Q L fun i=>(rnds (s i) (v i) 64).d,Q L fun i=>(rnds (s i) (v i) 64).e,Q L fun i=>(rnds (s i) (v i) 64).f,Q L fun i=>(rnds (s i) (v i) 64).g,Q L fun i=>(rnds (s i) (v i) 64).h⟩
 | 0,t,h=>by
  obtain rfl:t=64:=by omega
  exact zmx ..
 |n+1,t,h=>by
  have ih:=zgg s v n (t+1) (by omega)
  rw [List.range'_succ,List.map_cons,zmw]
  have e1:t1N (M L) (one L) (Q L fun i=>(rnds (s i) (v i) t).e) (Q L fun i=>(rnds (s i) (v i) t).f) (Q L fun i=>(rnds (s i) (v i) t).g) (Q L fun i=>(rnds (s i) (v i) t).h) (kN t) (Q L fun i=>wx (s i) t)=_:=t1_ok L _ _ _ _ _ (kAt t)
  rw [e1,t2_ok L,nw_ok L]
  have add:∀f g:ι->Nat,Nat.add (P L f) (P L g)=P L (fun i=>f i+g i):=Pk.P_add L
  rw [add]
  have e2:Nat.add (Q L fun i=>(rnds (s i) (v i) t).d) (P L fun i=>((rnds (s i) (v i) t).h).toNat+(bs1 (rnds (s i) (v i) t).e).toNat+(chW (rnds (s i) (v i) t).e (rnds (s i) (v i) t).f (rnds (s i) (v i) t).g).toNat+(kAt t).toNat+(wx (s i) t).toNat)=P L _:=add _ _
  rw [e2]
  rw [z7d L (fun i=>(rnds (s i) (v i) (t+1)).a) ?_ ?_,z7d L (fun i=>(rnds (s i) (v i) (t+1)).e) ?_ ?_]
  ·have hw:(fun i=>wx (s i) t+wx (s i) (t+9)+ss0 (wx (s i) (t+1))+ss1 (wx (s i) (t+14)))=fun i=>wx (s i) (t+1+15):=by
    funext i
    rw [show t+1+15=t+16 by omega,wx_hi]
   have hs:∀i,rnds (s i) (v i) (t+1)=rnd (rnds (s i) (v i) t) (kAt t) (wx (s i) t):=fun i=>zih _ _ _ (by omega)
   rw [hw]
   rw [<-ih]
   simp only [hs,rnd,Nat.add_assoc,Nat.reduceAdd]
  all_goals intro i
  all_goals (try dsimp only)
  all_goals (have hs:rnds (s i) (v i) (t+1)=rnd (rnds (s i) (v i) t) (kAt t) (wx (s i) t):=zih _ _ _ (by omega))
  all_goals (try rw [hs])
  all_goals (generalize rnds (s i) (v i) t=r;generalize wx (s i) t=w;generalize kAt t=k)
  all_goals try simp only [rnd]
  all_goals (generalize bs1 r.e=p1;generalize chW r.e r.f r.g=p2;generalize bs0 r.a=p3;generalize majW r.a r.b r.c=p4)
  all_goals (have:=r.a.isLt;have:=r.d.isLt;have:=r.h.isLt;have:=w.isLt;have:=k.isLt;have:=p1.isLt;have:=p2.isLt;have:=p3.isLt;have:=p4.isLt)
  all_goals first|omega|(simp only [BitVec.ofNat_add,BitVec.ofNat_toNat,BitVec.setWidth_eq])
end
end
section
set_option maxRecDepth 4000
open Pk (P Q M one pkN)
def k64:List Nat:=[1116352408,1899447441,3049323471,3921009573,961987163,1508970993,2453635748,2870763221,3624381080,310598401,607225278,1426881987,1925078388,2162078206,2614888103,3248222580,3835390401,4022224774,264347078,604807628,770255983,1249150122,1555081692,1996064986,2554220882,2821834349,2952996808,3210313671,3336571891,3584528711,113926993,338241895,666307205,773529912,1294757372,1396182291,1695183700,1986661051,2177026350,2456956037,2730485921,2820302411,3259730800,3345764771,3516065817,3600352804,4094571909,275423344,430227734,506948616,659060556,883997877,958139571,1322822218,1537002063,1747873779,1955562222,2024104815,2227730452,2361852424,2428436474,2756734187,3204031479,3329325298]
theorem k64_is:(List.range' 0 64).map kN=k64:=by decide+kernel
noncomputable def finN{α:Type}(m a b c d e f g h:Nat)(k:Nat->Nat->Nat->Nat->Nat->Nat->Nat->Nat->α)(r:S8):α:=
 S8.rec (motive:=fun _=>α) (fun ra rb rc rd re rf rg rh=>
  frc (Nat.land (Nat.add ra a) m) fun a'=>frc (Nat.land (Nat.add rb b) m) fun b'=>frc (Nat.land (Nat.add rc c) m) fun c'=>frc (Nat.land (Nat.add rd d) m) fun d'=>
  frc (Nat.land (Nat.add re e) m) fun e'=>frc (Nat.land (Nat.add rf f) m) fun f'=>frc (Nat.land (Nat.add rg g) m) fun g'=>frc (Nat.land (Nat.add rh h) m) fun h'=>k a' b' c' d' e' f' g' h') r
def r64(v:V8)(s:List UInt8):V8:=rnds s v 64
theorem zmk{α:Type}(m a b c d e f g h:Nat)(k:Nat->Nat->Nat->Nat->Nat->Nat->Nat->Nat->α)(ra rb rc rd re rf rg rh:Nat):
  finN m a b c d e f g h k ⟨ra,rb,rc,rd,re,rf,rg,rh⟩=
   k (Nat.land (Nat.add ra a) m) (Nat.land (Nat.add rb b) m) (Nat.land (Nat.add rc c) m) (Nat.land (Nat.add rd d) m) (Nat.land (Nat.add re e) m) (Nat.land (Nat.add rf f) m) (Nat.land (Nat.add rg g) m) (Nat.land (Nat.add rh h) m):=by
 unfold finN
 dsimp only
 rw [zl,zl,zl,zl,zl,zl,zl,zl]
theorem mix_a(v:V8)(s:List UInt8):(mixS v s).a=(r64 v s).a+v.a:=by unfold r64 mixS V8.add;exact Eq.refl _
theorem mix_b(v:V8)(s:List UInt8):(mixS v s).b=(r64 v s).b+v.b:=by unfold r64 mixS V8.add;exact Eq.refl _
theorem mix_c(v:V8)(s:List UInt8):(mixS v s).c=(r64 v s).c+v.c:=by unfold r64 mixS V8.add;exact Eq.refl _
theorem mix_d(v:V8)(s:List UInt8):(mixS v s).d=(r64 v s).d+v.d:=by unfold r64 mixS V8.add;exact Eq.refl _
theorem mix_e(v:V8)(s:List UInt8):(mixS v s).e=(r64 v s).e+v.e:=by unfold r64 mixS V8.add;exact Eq.refl _
theorem mix_f(v:V8)(s:List UInt8):(mixS v s).f=(r64 v s).f+v.f:=by unfold r64 mixS V8.add;exact Eq.refl _
theorem mix_g(v:V8)(s:List UInt8):(mixS v s).g=(r64 v s).g+v.g:=by unfold r64 mixS V8.add;exact Eq.refl _
theorem mix_h(v:V8)(s:List UInt8):(mixS v s).h=(r64 v s).h+v.h:=by unfold r64 mixS V8.add;exact Eq.refl _
section
variable {ι:Type} (L:List ι)
theorem zmv(s:ι->List UInt8)(v:ι->V8):
  goN (M L) (one L) k64 (Q L fun i=>(v i).a) (Q L fun i=>(v i).b) (Q L fun i=>(v i).c) (Q L fun i=>(v i).d) (Q L fun i=>(v i).e) (Q L fun i=>(v i).f) (Q L fun i=>(v i).g) (Q L fun i=>(v i).h)
   (Q L fun i=>zj (s i) 0) (Q L fun i=>zj (s i) 1) (Q L fun i=>zj (s i) 2) (Q L fun i=>zj (s i) 3) (Q L fun i=>zj (s i) 4) (Q L fun i=>zj (s i) 5) (Q L fun i=>zj (s i) 6) (Q L fun i=>zj (s i) 7)
   (Q L fun i=>zj (s i) 8) (Q L fun i=>zj (s i) 9) (Q L fun i=>zj (s i) 10) (Q L fun i=>zj (s i) 11) (Q L fun i=>zj (s i) 12) (Q L fun i=>zj (s i) 13) (Q L fun i=>zj (s i) 14) (Q L fun i=>zj (s i) 15)=
  ⟨Q L fun i=>(r64 (v i) (s i)).a,Q L fun i=>(r64 (v i) (s i)).b,Q L fun i=>(r64 (v i) (s i)).c,Q L fun i=>(r64 (v i) (s i)).d,Q L fun i=>(r64 (v i) (s i)).e,Q L fun i=>(r64 (v i) (s i)).f,Q L fun i=>(r64 (v i) (s i)).g,Q L fun i=>(r64 (v i) (s i)).h⟩:=by
 have g:=zgg L s v 64 0 rfl
 rw [k64_is]at g
 have hw:∀j,j<16->(fun i=>wx (s i) (0+j))=fun i=>zj (s i) j:=fun j hj=>by funext i;rw [Nat.zero_add,wx_lo _ _ hj]
 have hw0:(fun i=>wx (s i) 0)=fun i=>zj (s i) 0:=by funext i;rw [wx_lo _ _ (by omega)]
 rw [hw0,hw 1 (by omega),hw 2 (by omega),hw 3 (by omega),hw 4 (by omega),hw 5 (by omega),hw 6 (by omega),hw 7 (by omega),hw 8 (by omega),hw 9 (by omega),hw 10 (by omega),hw 11 (by omega),hw 12 (by omega),hw 13 (by omega),hw 14 (by omega),hw 15 (by omega)]at g
 have r0:∀s v,rnds s v 0=v:=fun _ _=>rfl
 have e64:∀s v,rnds s v 64=r64 v s:=fun s v=>by unfold r64;exact Eq.refl _
 simp only [r0,e64]at g
 exact g
attribute [local irreducible] r64 k64
theorem z5l(f g:ι->W):Nat.land (Nat.add (Q L f) (Q L g)) (M L)=Q L (fun i=>f i+g i):=by
 have add:∀f g:ι->Nat,Nat.add (P L f) (P L g)=P L (fun i=>f i+g i):=Pk.P_add L
 have e:Nat.add (Q L f) (Q L g)=P L (fun i=>(f i).toNat+(g i).toNat):=by
  unfold Q
  rw [add]
 rw [e]
 refine z7d L _ (fun i=> ?_) fun i=> ?_
 ·have:=(f i).isLt;have:=(g i).isLt;omega
 ·simp only [BitVec.ofNat_add,BitVec.ofNat_toNat,BitVec.setWidth_eq]
theorem zaa{α:Type}(s:ι->List UInt8)(v:ι->V8)(w0 w1 w2 w3 w4 w5 w6 w7 w8 w9 w10 w11 w12 w13 w14 w15:Nat)(k:Nat->Nat->Nat->Nat->Nat->Nat->Nat->Nat->α)
  (h0:w0=Q L fun i=>zj (s i) 0) (h1:w1=Q L fun i=>zj (s i) 1) (h2:w2=Q L fun i=>zj (s i) 2) (h3:w3=Q L fun i=>zj (s i) 3) (h4:w4=Q L fun i=>zj (s i) 4) (h5:w5=Q L fun i=>zj (s i) 5) (h6:w6=Q L fun i=>zj (s i) 6) (h7:w7=Q L fun i=>zj (s i) 7)
  (h8:w8=Q L fun i=>zj (s i) 8) (h9:w9=Q L fun i=>zj (s i) 9) (h10:w10=Q L fun i=>zj (s i) 10) (h11:w11=Q L fun i=>zj (s i) 11) (h12:w12=Q L fun i=>zj (s i) 12) (h13:w13=Q L fun i=>zj (s i) 13) (h14:w14=Q L fun i=>zj (s i) 14) (h15:w15=Q L fun i=>zj (s i) 15):
  finN (M L) (Q L fun i=>(v i).a) (Q L fun i=>(v i).b) (Q L fun i=>(v i).c) (Q L fun i=>(v i).d) (Q L fun i=>(v i).e) (Q L fun i=>(v i).f) (Q L fun i=>(v i).g) (Q L fun i=>(v i).h) k
   (goN (M L) (one L) k64 (Q L fun i=>(v i).a) (Q L fun i=>(v i).b) (Q L fun i=>(v i).c) (Q L fun i=>(v i).d) (Q L fun i=>(v i).e) (Q L fun i=>(v i).f) (Q L fun i=>(v i).g) (Q L fun i=>(v i).h) w0 w1 w2 w3 w4 w5 w6 w7 w8 w9 w10 w11 w12 w13 w14 w15)=
  k (Q L fun i=>(mixS (v i) (s i)).a) (Q L fun i=>(mixS (v i) (s i)).b) (Q L fun i=>(mixS (v i) (s i)).c) (Q L fun i=>(mixS (v i) (s i)).d) (Q L fun i=>(mixS (v i) (s i)).e) (Q L fun i=>(mixS (v i) (s i)).f) (Q L fun i=>(mixS (v i) (s i)).g) (Q L fun i=>(mixS (v i) (s i)).h):=by
 subst h0 h1 h2 h3 h4 h5 h6 h7 h8 h9 h10 h11 h12 h13 h14 h15
 have g:=zmv L s v
 rw [g,zmk,z5l,z5l,z5l,z5l,z5l,z5l,z5l,z5l]
 simp only [mix_a,mix_b,mix_c,mix_d,mix_e,mix_f,mix_g,mix_h]
end
end
section
set_option maxRecDepth 4000
open Pk (P Q M one pkN)
theorem zdf:∀(l m:List Nat),pkN (l++m)=pkN l+2^(64*l.length)*pkN m
 | [],m=>by simp [pkN]
 |x::l,m=>by
  have h:2^(64*(l.length+1))=2^64*2^(64*l.length):=by rw [<-Nat.pow_add];congr 1;omega
  rw [List.cons_append,pkN,pkN,zdf l m,List.length_cons,h,Nat.mul_add,Nat.mul_assoc]
  omega
theorem zep(f:Nat->Nat)(n:Nat):P (List.range (n+1)) f=P (List.range n) f+2^(64*n)*f n:=by
 unfold P
 rw [List.range_succ,List.map_append,zdf,List.length_map,List.length_range]
 simp [pkN]
noncomputable def pkR(f:Nat->Nat)(n acc:Nat):Nat:=
 Nat.rec (motive:=fun _=>Nat->Nat) (fun acc=>acc) (fun k ih acc=>frc (Nat.add (Nat.mul acc 18446744073709551616) (f k)) ih) n acc
theorem zq5(f:Nat->Nat)(acc:Nat):pkR f 0 acc=acc:=rfl
theorem zq4(f:Nat->Nat)(n acc:Nat):pkR f (n+1) acc=pkR f n (Nat.add (Nat.mul acc 18446744073709551616) (f n)):=by
 show frc _ _=_
 rw [zl]
 rfl
theorem zht(f:Nat->Nat):∀(n acc:Nat),pkR f n acc=P (List.range n) f+2^(64*n)*acc
 | 0,acc=>by rw [zq5];simp [P,pkN]
 |n+1,acc=>by
  rw [zq4,zht f n,zep]
  have h:2^(64*(n+1))=2^(64*n)*2^64:=by rw [<-Nat.pow_add];congr 1
  have e:Nat.add (Nat.mul acc 18446744073709551616) (f n)=acc*2^64+f n:=rfl
  rw [h,e,Nat.mul_add,Nat.mul_assoc,Nat.mul_comm acc]
  omega
def ones(n:Nat):Nat:=Nat.div (Nat.sub (Nat.pow 2 (Nat.mul 64 n)) 1) 18446744073709551615
theorem zhf:∀n,(2^64-1)*P (List.range n) (fun _=>1)+1=2^(64*n)
 | 0=>rfl
 |n+1=>by
  have ih:=zhf n
  have h:2^(64*(n+1))=2^64*2^(64*n):=by rw [<-Nat.pow_add];congr 1;omega
  rw [zep,h]
  omega
theorem z7e(n:Nat):ones n=one (List.range n):=by
 have h:=zhf n
 have e:ones n=(2^(64*n)-1)/(2^64-1):=rfl
 rw [e,<-h,Nat.add_sub_cancel,Nat.mul_div_cancel_left _ (by decide)]
 rfl
theorem M_is(n:Nat):Nat.mul (ones n) 4294967295=M (List.range n):=by
 rw [z7e]
 have:=Pk.P_mul (List.range n) (fun _=>1) 4294967295
 simpa [one,M]using this
theorem zfp(n:Nat)(c:W):Nat.mul (ones n) c.toNat=Q (List.range n) (fun _=>c):=by
 rw [z7e]
 have:=Pk.P_mul (List.range n) (fun _=>1) c.toNat
 simpa [one,Q]using this
section
variable {ι:Type} (L:List ι)
theorem q_shl(f:ι->W):Nat.land (Nat.mul (Q L f) 16777216) (M L)=Q L (fun i=>f i<<<24):=by
 have e:Nat.mul (Q L f) 16777216=P L (fun i=>(f i).toNat*16777216):=by
  unfold Q
  exact Pk.P_mul L _ _
 rw [e]
 refine z7d L _ (fun i=> ?_) fun i=> ?_
 ·have:=(f i).isLt;omega
 ·apply BitVec.eq_of_toNat_eq;rw [BitVec.toNat_ofNat,BitVec.toNat_shiftLeft,Nat.shiftLeft_eq]
theorem q_shr(f:ι->W):Nat.land (Nat.shiftRight (Q L f) 8) (M L)=Q L (fun i=>f i>>>8):=by
 apply Pk.Q_ext
 intro q r hr
 have e:Nat.land (Nat.shiftRight (Q L f) 8) (M L)=(Q L f>>>8) &&& M L:=rfl
 rw [e,Nat.testBit_and,Pk.M_bit L q r hr,Nat.testBit_shiftRight]
 by_cases h:r<32
 ·rw [show 8+(64*q+r)=64*q+(8+r)by omega,Pk.Q_bit L q (8+r) (by omega)]
  cases L[q]? <;>simp [h]
 ·cases L[q]? with
  |none=>simp
  |some x=>simp [h,BitVec.getLsbD_of_ge _ _ (show 32<=r by omega)]
def shW(x y:W):W:=x<<<24+y>>>8
noncomputable def shN(m x y:Nat):Nat:=Nat.land (Nat.add (Nat.land (Nat.mul x 16777216) m) (Nat.land (Nat.shiftRight y 8) m)) m
theorem z3g(f g:ι->W):shN (M L) (Q L f) (Q L g)=Q L (fun i=>shW (f i) (g i)):=by
 unfold shN
 rw [q_shl,q_shr,z5l]
 rfl
end
theorem z81(f:Nat->W){N a c:Nat}(h:a+c<=N):Nat.land (Nat.shiftRight (Q (List.range N) f) (64*a)) (2^(64*c)-1)=Q (List.range c) (fun i=>f (a+i)):=by
 apply Pk.Q_ext
 intro q r hr
 have e:Nat.land (Nat.shiftRight (Q (List.range N) f) (64*a)) (2^(64*c)-1)=(Q (List.range N) f>>>(64*a)) &&& (2^(64*c)-1):=rfl
 rw [e,Nat.testBit_and,Nat.testBit_shiftRight,show 64*a+(64*q+r)=64*(a+q)+r by omega,Pk.Q_bit _ _ r hr,Nat.testBit_two_pow_sub_one]
 by_cases hq:q<c
 ·rw [List.getElem?_range (by omega),List.getElem?_range hq,decide_eq_true (by omega)];simp
 ·rw [decide_eq_false (by omega),Bool.and_false,List.getElem?_eq_none (by simp;omega)];rfl
theorem z5v(f:Nat->W){N a:Nat}(h:a<N):Nat.land (Nat.shiftRight (Q (List.range N) f) (64*a)) 18446744073709551615=(f a).toNat:=by
 have:=z81 f (a:=a) (c:=1) (N:=N) (by omega)
 rw [show (2:Nat)^(64*1)-1=18446744073709551615 from rfl]at this
 rw [this]
 simp [Q,P,pkN,List.range_succ]
set_option exponentiation.threshold 1000 in
theorem Q_prev(f:Nat->W)(c:W)(n:Nat):Nat.add (Nat.mul (Nat.land (Q (List.range (8+n)) f) (2^(64*n)-1)) (2^512)) (Nat.mul (ones 8) c.toNat)=Q (List.range (8+n)) (fun l=>if l<8 then c else f (l-8)):=by
 have e:=z81 f (N:=8+n) (a:=0) (c:=n) (by omega)
 have e2:Nat.land (Q (List.range (8+n)) f) (2^(64*n)-1)=Q (List.range n) f:=by
  have:Nat.shiftRight (Q (List.range (8+n)) f) (64*0)=Q (List.range (8+n)) f:=rfl
  rw [this]at e
  rw [e]
  simp
 rw [e2,zfp]
 unfold Q P
 rw [List.range_add,List.map_append,zdf,List.length_map,List.length_range,List.map_map]
 have e3:(List.range 8).map (fun l=>(if l<8 then c else f (l-8)).toNat)=(List.range 8).map (fun _=>c.toNat):=by
  apply List.map_congr_left
  intro l hl
  rw [if_pos (List.mem_range.1 hl)]
 have e4:(List.range n).map ((fun l=>(if l<8 then c else f (l-8)).toNat) ∘ fun x=>8+x)=(List.range n).map (fun l=>(f l).toNat):=by
  apply List.map_congr_left
  intro l hl
  simp only [Function.comp]
  rw [if_neg (by omega),show 8+l-8=l by omega]
 rw [e3,e4]
 show pkN ((List.range n).map fun i=>(f i).toNat)*2^512+_=_
 rw [Nat.mul_comm,Nat.add_comm]
end
section
set_option maxRecDepth 4000
open Pk (P Q M one pkN)
/-! Words of bytes: a byte ahead of whole words. -/
def enc(ws:List W):List UInt8:=ws.flatMap fun x=>be 4 x.toNat
def lb(x:W):UInt8:=UInt8.ofNat x.toNat
theorem be4(n:Nat):be 4 n=[UInt8.ofNat (n/16777216),UInt8.ofNat (n/65536),UInt8.ofNat (n/256),UInt8.ofNat n]:=by
 simp [be,Nat.div_div_eq_div_mul]
theorem zcg(x:W)(l:List W):enc (x::l)=UInt8.ofNat (x.toNat/16777216)::UInt8.ofNat (x.toNat/65536)::UInt8.ofNat (x.toNat/256)::lb x::enc l:=by
 simp [enc,be4,lb]
theorem zcf(a b:List W):enc (a++b)=enc a++enc b:=by simp [enc]
theorem z77:∀l:List W,(enc l).length=4*l.length
 | []=>rfl
 |x::l=>by rw [zcg];simp [z77 l];omega
theorem zml(y x:W)(t:List UInt8):zj (lb y::UInt8.ofNat (x.toNat/16777216)::UInt8.ofNat (x.toNat/65536)::UInt8.ofNat (x.toNat/256)::t) 0=shW y x:=by
 unfold zj shW
 apply BitVec.eq_of_toNat_eq
 simp only [Nat.mul_zero,List.drop_zero,List.take_succ_cons,List.take_zero,getS,List.take_nil,val,List.foldl_cons,List.foldl_nil,lb,UInt8.toNat_ofNat',BitVec.toNat_ofNat,BitVec.toNat_add,BitVec.toNat_shiftLeft,BitVec.toNat_ushiftRight,Nat.shiftLeft_eq,Nat.shiftRight_eq_div_pow]
 have:=x.isLt
 have:=y.isLt
 omega
theorem zbp(s:List UInt8)(a i:Nat):zj (s.drop (4*a)) i=zj s (a+i):=by
 unfold zj
 rw [List.drop_drop]
 congr 4
 omega
theorem zch:∀(i:Nat) (y:W) (l:List W) (t:List UInt8),i<l.length->zj (lb y::(enc l++t)) i=shW ((y::l).getD i 0) ((y::l).getD (i+1) 0)
 | 0,y,x::l,t,_=>by
  rw [zcg]
  exact zml y x _
 |i+1,y,x::l,t,h=>by
  have e:(lb y::(enc (x::l)++t)).drop (4*1)=lb x::(enc l++t):=by rw [zcg];rfl
  have ih:=zch i x l t (by simpa using h)
  rw [<-e,zbp]at ih
  rw [show i+1=1+i by omega,ih]
  simp [List.getD_eq_getElem?_getD,Nat.add_comm 1 i]
theorem zei(s:List UInt8){n i:Nat}(h:4*i+4<=n):zj (s.take n) i=zj s i:=by
 unfold zj
 rw [List.drop_take,List.take_take,Nat.min_eq_left (by omega)]
theorem zhm(y:W)(l:List W)(n:Nat)(h1:l.length*4+1=n):padS (lb y::enc l)=lb y::(enc l++128::(List.replicate ((119-n%64)%64) 0++be 8 (n*8))):=by
 unfold padS
 rw [List.length_cons,z77,show 4*l.length+1=n by omega]
 rfl
def padT:List W:=[2147483648#32,0#32,0#32,0#32,0#32,0#32,0#32,67584#32]
theorem zj0(v:V8):padS (3::outV v)=(lb 3#32::enc (v.l++padT)).take 64/\ (padS (3::outV v)).length=64:=by
 have h:=zhm 3#32 v.l 33 (by rfl)
 have e:padS (3::outV v)=lb 3#32::(enc v.l++128::(List.replicate 22 0++be 8 264)):=h
 have e2:(lb 3#32::enc (v.l++padT)).take 64=lb 3#32::(enc v.l++(enc padT).take 31):=by
  rw [zcf,show 64=63+1 from rfl,List.take_succ_cons,show (63:Nat)=(enc v.l).length+31 by rw [z77];rfl,List.take_length_add_append]
 have e3:(enc padT).take 31=128::(List.replicate 22 0++be 8 264):=by decide+kernel
 refine⟨by rw [e,e2,e3],?_⟩
 rw [e]
 simp [z77,V8.l,be]
theorem zs6(v:V8)(i:Nat)(h:i<16):zj (padS (3::outV v)) i=shW ((3#32::(v.l++padT)).getD i 0) ((3#32::(v.l++padT)).getD (i+1) 0):=by
 rw [(zj0 v).1,zei _ (by omega)]
 have:=zch i 3#32 (v.l++padT) [] (by simp [V8.l,padT];omega)
 rwa [List.append_nil]at this
theorem zof(v:V8){s t:List UInt8}(h:∀i,i<16->zj s i=zj t i):mixS v s=mixS v t:=by
 have hw:∀n,z12 s n=z12 t n:=by
  intro n
  induction n with
  |zero=>rfl
  |succ n ih=>
   rw [z12,z12,ih]
   congr 2
   unfold z2p
   rw [z6r]
   split
   ·rename_i h1;exact h n h1
   ·rfl
 have hr:∀n,rnds s v n=rnds t v n:=by
  intro n
  induction n with
  |zero=>rfl
  |succ n ih=>rw [rnds,rnds,ih,hw]
 unfold mixS
 rw [hr]
theorem zh6(v:V8)(s:List UInt8):mixS v (s.take 64)=mixS v s:=zof v fun i h=>zei s (by omega)
theorem zf7(v:V8)(s:List UInt8):blocks 1 v s=mixS v s:=by
 rw [blocks,zh6];rfl
end
section
set_option maxRecDepth 4000
open Pk (P Q M one pkN)
def m512:Nat:=13407807929942597099574024998205846127479365820592393377723561443721764030073546976801874298166903427690031858186486050853753882811946569946433649006084095
theorem zd1:m512=2^(64*8)-1:=by decide+kernel
noncomputable def z8w(m o u0 u1 u2 u3 u4 u5 u6 u7:Nat)(k:Nat->Nat->Nat->Nat->Nat->Nat->Nat->Nat->S8)(bs:List Nat):Nat->Nat->Nat->Nat->Nat->Nat->Nat->Nat->S8:=
 List.rec (motive:=fun _=>Nat->Nat->Nat->Nat->Nat->Nat->Nat->Nat->S8) k
  (fun j _ ih a b c d e f g h=>frc (Nat.mul j 1024) fun s=>frc (Nat.add s 512) fun s'=>
   frc (Nat.land (Nat.shiftRight u0 s) m512) fun w0=>
   frc (Nat.land (Nat.shiftRight u1 s) m512) fun w1=>
   frc (Nat.land (Nat.shiftRight u2 s) m512) fun w2=>
   frc (Nat.land (Nat.shiftRight u3 s) m512) fun w3=>
   frc (Nat.land (Nat.shiftRight u4 s) m512) fun w4=>
   frc (Nat.land (Nat.shiftRight u5 s) m512) fun w5=>
   frc (Nat.land (Nat.shiftRight u6 s) m512) fun w6=>
   frc (Nat.land (Nat.shiftRight u7 s) m512) fun w7=>
   frc (Nat.land (Nat.shiftRight u0 s') m512) fun w8=>
   frc (Nat.land (Nat.shiftRight u1 s') m512) fun w9=>
   frc (Nat.land (Nat.shiftRight u2 s') m512) fun w10=>
   frc (Nat.land (Nat.shiftRight u3 s') m512) fun w11=>
   frc (Nat.land (Nat.shiftRight u4 s') m512) fun w12=>
   frc (Nat.land (Nat.shiftRight u5 s') m512) fun w13=>
   frc (Nat.land (Nat.shiftRight u6 s') m512) fun w14=>
   frc (Nat.land (Nat.shiftRight u7 s') m512) fun w15=>
   finN m a b c d e f g h ih (goN m o k64 a b c d e f g h w0 w1 w2 w3 w4 w5 w6 w7 w8 w9 w10 w11 w12 w13 w14 w15)) bs
theorem zo8(m o u0 u1 u2 u3 u4 u5 u6 u7:Nat)(k:Nat->Nat->Nat->Nat->Nat->Nat->Nat->Nat->S8)(j:Nat)(bs:List Nat)(a b c d e f g h:Nat):z8w m o u0 u1 u2 u3 u4 u5 u6 u7 k (j::bs) a b c d e f g h=
  finN m a b c d e f g h (z8w m o u0 u1 u2 u3 u4 u5 u6 u7 k bs) (goN m o k64 a b c d e f g h (Nat.land (Nat.shiftRight u0 (Nat.mul j 1024)) m512)
   (Nat.land (Nat.shiftRight u1 (Nat.mul j 1024)) m512)
   (Nat.land (Nat.shiftRight u2 (Nat.mul j 1024)) m512)
   (Nat.land (Nat.shiftRight u3 (Nat.mul j 1024)) m512)
   (Nat.land (Nat.shiftRight u4 (Nat.mul j 1024)) m512)
   (Nat.land (Nat.shiftRight u5 (Nat.mul j 1024)) m512)
   (Nat.land (Nat.shiftRight u6 (Nat.mul j 1024)) m512)
   (Nat.land (Nat.shiftRight u7 (Nat.mul j 1024)) m512)
   (Nat.land (Nat.shiftRight u0 (Nat.add (Nat.mul j 1024) 512)) m512)
   (Nat.land (Nat.shiftRight u1 (Nat.add (Nat.mul j 1024) 512)) m512)
   (Nat.land (Nat.shiftRight u2 (Nat.add (Nat.mul j 1024) 512)) m512)
   (Nat.land (Nat.shiftRight u3 (Nat.add (Nat.mul j 1024) 512)) m512)
   (Nat.land (Nat.shiftRight u4 (Nat.add (Nat.mul j 1024) 512)) m512)
   (Nat.land (Nat.shiftRight u5 (Nat.add (Nat.mul j 1024) 512)) m512)
   (Nat.land (Nat.shiftRight u6 (Nat.add (Nat.mul j 1024) 512)) m512)
   (Nat.land (Nat.shiftRight u7 (Nat.add (Nat.mul j 1024) 512)) m512)):=by
 unfold z8w
 dsimp only
 rw [zl,zl,zl,zl,zl,zl,zl,zl,zl,zl,zl,zl,zl,zl,zl,zl,zl,zl]
def z1s(v2:Nat->V8)(i:Nat):List W:=(List.range 512).flatMap fun k=>(v2 (8*k+i)).l
theorem flat8(f:Nat->V8):∀(n k t:Nat),k<n->t<8->((List.range n).flatMap fun k=>(f k).l)[8*k+t]? =(f k).l[t]?
 |n+1,k,t,hk,ht=>by
  have hl:∀n,((List.range n).flatMap fun k=>(f k).l).length=8*n:=by
   intro n
   induction n with
   |zero=>rfl
   |succ n ih=>rw [List.range_succ,List.flatMap_append,List.length_append,ih];simp [V8.l];omega
  rw [List.range_succ,List.flatMap_append]
  by_cases h:k<n
  ·rw [List.getElem?_append_left (by rw [hl];omega)]
   exact flat8 f n k t h ht
  ·obtain rfl:k=n:=by omega
   rw [List.getElem?_append_right (by rw [hl];omega),hl,Nat.add_sub_cancel_left]
   simp
theorem z5q(v2:Nat->V8)(i:Nat):(z1s v2 i).length=4096:=by
 unfold z1s
 have hl:∀n,((List.range n).flatMap fun k=>(v2 (8*k+i)).l).length=8*n:=by
  intro n
  induction n with
  |zero=>rfl
  |succ n ih=>rw [List.range_succ,List.flatMap_append,List.length_append,ih];simp [V8.l];omega
 rw [hl]
theorem zbd(v2:Nat->V8)(i k t:Nat)(hk:k<512)(ht:t<8):(z1s v2 i)[8*k+t]? =(v2 (8*k+i)).l[t]?:=flat8 (fun k=>v2 (8*k+i)) 512 k t hk ht
def longT:List W:=[2147483648#32,0#32,0#32,0#32,0#32,0#32,0#32,0#32,0#32,0#32,0#32,0#32,0#32,0#32,0#32,33556480#32]
theorem zh2(l:List W)(hl:l.length=4096):padS (4::enc l)=(lb 4#32::enc (l++longT)).take 16448/\ (padS (4::enc l)).length=16448:=by
 have h:=zhm 4#32 l 16385 (by rw [hl])
 have e:padS (4::enc l)=lb 4#32::(enc l++128::(List.replicate 54 0++be 8 131080)):=h
 have e2:(lb 4#32::enc (l++longT)).take 16448=lb 4#32::(enc l++(enc longT).take 63):=by
  rw [zcf,show 16448=16447+1 from rfl,List.take_succ_cons,show (16447:Nat)=(enc l).length+63 by rw [z77,hl],List.take_length_add_append]
 have e3:(enc longT).take 63=128::(List.replicate 54 0++be 8 131080):=by decide+kernel
 refine⟨by rw [e,e2,e3],?_⟩
 rw [e]
 simp [z77,hl,be]
theorem zh3(l:List W)(hl:l.length=4096)(i:Nat)(h:i<4112):zj (padS (4::enc l)) i=shW ((4#32::(l++longT)).getD i 0) ((4#32::(l++longT)).getD (i+1) 0):=by
 rw [(zh2 l hl).1,zei _ (by omega)]
 have:=zch i 4#32 (l++longT) [] (by rw [List.length_append,hl];simp [longT];omega)
 rwa [List.append_nil]at this
def v8w(v:V8)(t:Nat):W:=v.l.getD t 0
def pw(v2:Nat->V8)(t l:Nat):W:=if t=0 then(if l<8 then 4#32 else v8w (v2 (l-8)) 7)else v8w (v2 l) (t-1)
theorem zh1(v2:Nat->V8)(i k t:Nat)(hi:i<8)(hk:k<512)(ht:t<8):zj (padS (4::enc (z1s v2 i))) (8*k+t)=shW (pw v2 t (8*k+i)) (v8w (v2 (8*k+i)) t):=by
 rw [zh3 _ (z5q v2 i) _ (by omega)]
 have e1:(4#32::(z1s v2 i++longT)).getD (8*k+t+1) 0=v8w (v2 (8*k+i)) t:=by
  rw [List.getD_eq_getElem?_getD,List.getElem?_cons_succ,List.getElem?_append_left (by rw [z5q];omega),zbd v2 i k t hk ht,<-List.getD_eq_getElem?_getD];rfl
 have e2:(4#32::(z1s v2 i++longT)).getD (8*k+t) 0=pw v2 t (8*k+i):=by
  unfold pw
  by_cases h0:t=0
  ·subst h0
   rw [if_pos rfl]
   by_cases hk0:k=0
   ·subst hk0
    rw [if_pos (by omega)];rfl
   ·rw [if_neg (by omega),show 8*k+0=(8*(k-1)+7)+1 by omega,List.getD_eq_getElem?_getD,List.getElem?_cons_succ,List.getElem?_append_left (by rw [z5q];omega),zbd v2 i (k-1) 7 (by omega) (by omega),<-List.getD_eq_getElem?_getD,show 8*k+i-8=8*(k-1)+i by omega];rfl
  ·rw [if_neg h0,show 8*k+t=(8*k+(t-1))+1 by omega,List.getD_eq_getElem?_getD,List.getElem?_cons_succ,List.getElem?_append_left (by rw [z5q];omega),zbd v2 i k (t-1) hk (by omega),<-List.getD_eq_getElem?_getD];rfl
 rw [e1,e2]
theorem zf6:∀(n:Nat) (v:V8) (s:List UInt8),blocks (n+1) v s=mixS (blocks n v s) (s.drop (64*n))
 | 0,v,s=>by rw [zf7];rfl
 |n+1,v,s=>by
  rw [blocks,zf6 n,List.drop_drop,<-blocks,show 64+64*n=64*(n+1)by omega]
def uT(v2:Nat->V8)(t:Nat):Nat:=Q (List.range 4096) fun l=>shW (pw v2 t l) (v8w (v2 l) t)
theorem u_at(v2:Nat->V8)(b:Nat)(hb:b<256)(t:Nat)(ht:t<8):Nat.land (Nat.shiftRight (uT v2 t) (Nat.mul b 1024)) m512=Q (List.range 8) (fun i=>zj ((padS (4::enc (z1s v2 i))).drop (64*b)) t):=by
 have h:=z81 (fun l=>shW (pw v2 t l) (v8w (v2 l) t)) (N:=4096) (a:=16*b) (c:=8) (by omega)
 rw [<-zd1,show 64*(16*b)=Nat.mul b 1024 by show _=b*1024;omega]at h
 unfold uT
 rw [h]
 unfold Q P
 congr 1
 apply List.map_congr_left
 intro i hi
 dsimp only
 rw [show 64*b=4*(16*b)by omega,zbp,show 16*b+t=8*(2*b)+t by omega,zh1 v2 i (2*b) t (List.mem_range.1 hi) (by omega) ht,show 8*(2*b)+i=16*b+i by omega]
theorem z6c(v2:Nat->V8)(b:Nat)(hb:b<256)(t:Nat)(ht:t<8):Nat.land (Nat.shiftRight (uT v2 t) (Nat.add (Nat.mul b 1024) 512)) m512=Q (List.range 8) (fun i=>zj ((padS (4::enc (z1s v2 i))).drop (64*b)) (8+t)):=by
 have h:=z81 (fun l=>shW (pw v2 t l) (v8w (v2 l) t)) (N:=4096) (a:=16*b+8) (c:=8) (by omega)
 rw [<-zd1,show 64*(16*b+8)=Nat.add (Nat.mul b 1024) 512 by show _=b*1024+512;omega]at h
 unfold uT
 rw [h]
 unfold Q P
 congr 1
 apply List.map_congr_left
 intro i hi
 dsimp only
 rw [show 64*b=4*(16*b)by omega,zbp,show 16*b+(8+t)=8*(2*b+1)+t by omega,zh1 v2 i (2*b+1) t (List.mem_range.1 hi) (by omega) ht,show 8*(2*b+1)+i=16*b+8+i by omega]
theorem zgy(v2:Nat->V8)(k:Nat->Nat->Nat->Nat->Nat->Nat->Nat->Nat->S8):∀(n b:Nat) (v:Nat->V8),b+n=256->
  z8w (M (List.range 8)) (one (List.range 8)) (uT v2 0) (uT v2 1) (uT v2 2) (uT v2 3) (uT v2 4) (uT v2 5) (uT v2 6) (uT v2 7) k (List.range' b n) (Q (List.range 8) fun i=>(v i).a) (Q (List.range 8) fun i=>(v i).b) (Q (List.range 8) fun i=>(v i).c) (Q (List.range 8) fun i=>(v i).d) (Q (List.range 8) fun i=>(v i).e) (Q (List.range 8) fun i=>(v i).f) (Q (List.range 8) fun i=>(v i).g) (Q (List.range 8) fun i=>(v i).h)=
  k (Q (List.range 8) fun i=>(blocks n (v i) ((padS (4::enc (z1s v2 i))).drop (64*b))).a) (Q (List.range 8) fun i=>(blocks n (v i) ((padS (4::enc (z1s v2 i))).drop (64*b))).b) (Q (List.range 8) fun i=>(blocks n (v i) ((padS (4::enc (z1s v2 i))).drop (64*b))).c) (Q (List.range 8) fun i=>(blocks n (v i) ((padS (4::enc (z1s v2 i))).drop (64*b))).d) (Q (List.range 8) fun i=>(blocks n (v i) ((padS (4::enc (z1s v2 i))).drop (64*b))).e) (Q (List.range 8) fun i=>(blocks n (v i) ((padS (4::enc (z1s v2 i))).drop (64*b))).f) (Q (List.range 8) fun i=>(blocks n (v i) ((padS (4::enc (z1s v2 i))).drop (64*b))).g) (Q (List.range 8) fun i=>(blocks n (v i) ((padS (4::enc (z1s v2 i))).drop (64*b))).h)
 | 0,b,v,h=>rfl
 |n+1,b,v,h=>by
  have ih:=zgy v2 k n (b+1) (fun i=>mixS (v i) ((padS (4::enc (z1s v2 i))).drop (64*b))) (by omega)
  rw [List.range'_succ,zo8]
  refine(zaa (List.range 8) (fun i=>(padS (4::enc (z1s v2 i))).drop (64*b)) v _ _ _ _ _ _ _ _ _ _ _ _ _ _ _ _ _ (u_at v2 b (by omega) 0 (by omega)) (u_at v2 b (by omega) 1 (by omega)) (u_at v2 b (by omega) 2 (by omega)) (u_at v2 b (by omega) 3 (by omega)) (u_at v2 b (by omega) 4 (by omega)) (u_at v2 b (by omega) 5 (by omega)) (u_at v2 b (by omega) 6 (by omega)) (u_at v2 b (by omega) 7 (by omega)) (z6c v2 b (by omega) 0 (by omega)) (z6c v2 b (by omega) 1 (by omega)) (z6c v2 b (by omega) 2 (by omega)) (z6c v2 b (by omega) 3 (by omega)) (z6c v2 b (by omega) 4 (by omega)) (z6c v2 b (by omega) 5 (by omega)) (z6c v2 b (by omega) 6 (by omega)) (z6c v2 b (by omega) 7 (by omega))).trans ?_
  refine ih.trans ?_
  have e:∀i,blocks (n+1) (v i) ((padS (4::enc (z1s v2 i))).drop (64*b))=blocks n (mixS (v i) ((padS (4::enc (z1s v2 i))).drop (64*b))) ((padS (4::enc (z1s v2 i))).drop (64*(b+1))):=fun i=>by
   rw [blocks,zh6,List.drop_drop,show 64*b+64=64*(b+1)by omega]
  simp only [e]
end
section
set_option maxRecDepth 4000
open Pk (P Q M one pkN)
def zap:Nat:=Nat.sub (Nat.pow 2 261632) 1
def p512:Nat:=Nat.pow 2 512
theorem zq2:zap=2^(64*4088)-1:=by decide+kernel
theorem zq3:p512=2^512:=by decide+kernel
noncomputable def zam(m o z a b c d e f g h:Nat):S8:=
 frc (shN m z (Nat.mul o 2147483648)) fun q0=>
 frc (Nat.mul o 0) fun q1=>
 frc (Nat.mul o 131080) fun q15=>
 finN m a b c d e f g h S8.mk (goN m o k64 a b c d e f g h q0 q1 q1 q1 q1 q1 q1 q1 q1 q1 q1 q1 q1 q1 q1 q15)
noncomputable def zbh(m8 o8 m y0 y1 y2 y3 y4 y5 y6 y7:Nat):S8:=
 frc (shN m (Nat.add (Nat.mul (Nat.land y7 zap) p512) (Nat.mul o8 4)) y0) fun u0=>
 frc (shN m y0 y1) fun u1=>
 frc (shN m y1 y2) fun u2=>
 frc (shN m y2 y3) fun u3=>
 frc (shN m y3 y4) fun u4=>
 frc (shN m y4 y5) fun u5=>
 frc (shN m y5 y6) fun u6=>
 frc (shN m y6 y7) fun u7=>
 frc (Nat.land (Nat.shiftRight y7 261632) m512) fun z=>
 frc (Nat.mul o8 1779033703) fun na=>
 frc (Nat.mul o8 3144134277) fun nb=>
 frc (Nat.mul o8 1013904242) fun nc=>
 frc (Nat.mul o8 2773480762) fun nd=>
 frc (Nat.mul o8 1359893119) fun ne=>
 frc (Nat.mul o8 2600822924) fun nf=>
 frc (Nat.mul o8 528734635) fun ng=>
 frc (Nat.mul o8 1541459225) fun nh=>
 z8w m8 o8 u0 u1 u2 u3 u4 u5 u6 u7 (zam m8 o8 z) (List.range' 0 256) na nb nc nd ne nf ng nh
noncomputable def zb9(m8 o8 m o x0 x1 x2 x3 x4 x5 x6 x7:Nat):S8:=
 frc (shN m (Nat.mul o 3) x0) fun s0=>
 frc (shN m x0 x1) fun s1=>
 frc (shN m x1 x2) fun s2=>
 frc (shN m x2 x3) fun s3=>
 frc (shN m x3 x4) fun s4=>
 frc (shN m x4 x5) fun s5=>
 frc (shN m x5 x6) fun s6=>
 frc (shN m x6 x7) fun s7=>
 frc (shN m x7 (Nat.mul o 2147483648)) fun s8=>
 frc (Nat.mul o 0) fun s9=>
 frc (Nat.mul o 264) fun s15=>
 frc (Nat.mul o 1779033703) fun na=>
 frc (Nat.mul o 3144134277) fun nb=>
 frc (Nat.mul o 1013904242) fun nc=>
 frc (Nat.mul o 2773480762) fun nd=>
 frc (Nat.mul o 1359893119) fun ne=>
 frc (Nat.mul o 2600822924) fun nf=>
 frc (Nat.mul o 528734635) fun ng=>
 frc (Nat.mul o 1541459225) fun nh=>
 finN m na nb nc nd ne nf ng nh (zbh m8 o8 m) (goN m o k64 na nb nc nd ne nf ng nh s0 s1 s2 s3 s4 s5 s6 s7 s8 s9 s9 s9 s9 s9 s9 s15)
noncomputable def z7a(wf:Nat->Nat->Nat):S8:=
 frc (ones 4096) fun o=>
 frc (Nat.mul o 4294967295) fun m=>
 frc (ones 8) fun o8=>
 frc (Nat.mul o8 4294967295) fun m8=>
 frc (Nat.land (pkR (wf 0) 4096 0) m) fun w0=>
 frc (Nat.land (pkR (wf 1) 4096 0) m) fun w1=>
 frc (Nat.land (pkR (wf 2) 4096 0) m) fun w2=>
 frc (Nat.land (pkR (wf 3) 4096 0) m) fun w3=>
 frc (Nat.land (pkR (wf 4) 4096 0) m) fun w4=>
 frc (Nat.land (pkR (wf 5) 4096 0) m) fun w5=>
 frc (Nat.land (pkR (wf 6) 4096 0) m) fun w6=>
 frc (Nat.land (pkR (wf 7) 4096 0) m) fun w7=>
 frc (Nat.land (pkR (wf 8) 4096 0) m) fun w8=>
 frc (Nat.land (pkR (wf 9) 4096 0) m) fun w9=>
 frc (Nat.land (pkR (wf 10) 4096 0) m) fun w10=>
 frc (Nat.land (pkR (wf 11) 4096 0) m) fun w11=>
 frc (Nat.land (pkR (wf 12) 4096 0) m) fun w12=>
 frc (Nat.land (pkR (wf 13) 4096 0) m) fun w13=>
 frc (Nat.land (pkR (wf 14) 4096 0) m) fun w14=>
 frc (Nat.land (pkR (wf 15) 4096 0) m) fun w15=>
 frc (Nat.mul o 1779033703) fun na=>
 frc (Nat.mul o 3144134277) fun nb=>
 frc (Nat.mul o 1013904242) fun nc=>
 frc (Nat.mul o 2773480762) fun nd=>
 frc (Nat.mul o 1359893119) fun ne=>
 frc (Nat.mul o 2600822924) fun nf=>
 frc (Nat.mul o 528734635) fun ng=>
 frc (Nat.mul o 1541459225) fun nh=>
 finN m na nb nc nd ne nf ng nh (zb9 m8 o8 m o) (goN m o k64 na nb nc nd ne nf ng nh w0 w1 w2 w3 w4 w5 w6 w7 w8 w9 w10 w11 w12 w13 w14 w15)
section
variable (v2:Nat->V8)
def tx(i:Nat):List UInt8:=padS (4::enc (z1s v2 i))
theorem zd0(i:Nat)(hi:i<8)(j:Nat)(hj:j<16):zj ((tx v2 i).drop (64*256)) j=shW ((v8w (v2 (4088+i)) 7::longT).getD j 0) ((v8w (v2 (4088+i)) 7::longT).getD (j+1) 0):=by
 unfold tx
 rw [show 64*256=4*4096 from rfl,zbp,zh3 _ (z5q v2 i) _ (by omega)]
 have e1:∀n,(4#32::(z1s v2 i++longT)).getD (4096+n) 0=(v8w (v2 (4088+i)) 7::longT).getD n 0:=by
  intro n
  match n with
  | 0=>
   rw [Nat.add_zero,show (4096:Nat)=(8*511+7)+1 from rfl,List.getD_eq_getElem?_getD,List.getElem?_cons_succ,List.getElem?_append_left (by rw [z5q];omega),zbd v2 i 511 7 (by omega) (by omega),<-List.getD_eq_getElem?_getD,show 8*511+i=4088+i by omega];rfl
  |n+1=>
   rw [show 4096+(n+1)=(4096+n)+1 by omega,List.getD_eq_getElem?_getD,List.getElem?_cons_succ,List.getElem?_append_right (by rw [z5q];omega),z5q,Nat.add_sub_cancel_left,List.getD_eq_getElem?_getD,List.getElem?_cons_succ]
 rw [e1,Nat.add_assoc,e1]
theorem z7i(n:Nat)(c:W)(k:Nat)(h:c.toNat=k):Nat.mul (one (List.range n)) k=Q (List.range n) (fun _=>c):=by subst h;rw [<-z7e];exact zfp n c
set_option exponentiation.threshold 1000 in
theorem q_prev(f:Nat->W)(c:W)(n N p k:Nat)(hN:N=8+n)(hp:p=2^(64*n)-1)(hk:c.toNat=k):Nat.add (Nat.mul (Nat.land (Q (List.range N) f) p) p512) (Nat.mul (one (List.range 8)) k)=Q (List.range N) (fun l=>if l<8 then c else f (l-8)):=by
 subst hN hp hk
 rw [zq3,<-z7e]
 exact Q_prev f c n
theorem zdh{n:Nat}{f g:Nat->W}(h:∀i,i<n->f i=g i):Q (List.range n) f=Q (List.range n) g:=by
 unfold Q P
 congr 1
 apply List.map_congr_left
 intro i hi
 rw [h i (List.mem_range.1 hi)]
theorem zo5 (v : Nat -> V8) : zam (M (List.range 8)) (one (List.range 8)) (Q (List.range 8) fun i => v8w (v2 (4088 + i)) 7) (Q (List.range 8) fun i => (v i).a) (Q (List.range 8) fun i => (v i).b) (Q (List.range 8) fun i => (v i).c) (Q (List.range 8) fun i => (v i).d) (Q (List.range 8) fun i => (v i).e) (Q (List.range 8) fun i => (v i).f) (Q (List.range 8) fun i => (v i).g) (Q (List.range 8) fun i => (v i).h) =
    S8.mk (Q (List.range 8) fun i=>(mixS (v i) ((tx v2 i).drop (64*256))).a) (Q (List.range 8) fun i=>(mixS (v i) ((tx v2 i).drop (64*256))).b) (Q (List.range 8) fun i=>(mixS (v i) ((tx v2 i).drop (64*256))).c) (Q (List.range 8) fun i=>(mixS (v i) ((tx v2 i).drop (64*256))).d) (Q (List.range 8) fun i=>(mixS (v i) ((tx v2 i).drop (64*256))).e) (Q (List.range 8) fun i=>(mixS (v i) ((tx v2 i).drop (64*256))).f) (Q (List.range 8) fun i=>(mixS (v i) ((tx v2 i).drop (64*256))).g) (Q (List.range 8) fun i=>(mixS (v i) ((tx v2 i).drop (64*256))).h):=by
  unfold zam
  rw [zl,zl,zl]
  have h0:shN (M (List.range 8)) (Q (List.range 8) fun i=>v8w (v2 (4088+i)) 7) (Nat.mul (one (List.range 8)) 2147483648)=Q (List.range 8) fun i=>zj ((tx v2 i).drop (64*256)) 0:=by
    have e:Nat.mul (one (List.range 8)) 2147483648=Q (List.range 8) fun _=>2147483648#32:=z7i 8 2147483648#32 _ rfl
    rw [e,z3g]
    exact zdh fun i hi=>(zd0 v2 i hi 0 (by omega)).symm
  have hz:∀j,1<=j->j<15->Nat.mul (one (List.range 8)) 0=Q (List.range 8) fun i=>zj ((tx v2 i).drop (64*256)) j:=by
    intro j h1 h2
    have e:Nat.mul (one (List.range 8)) 0=Q (List.range 8) fun _=>0#32:=z7i 8 0#32 _ rfl
    rw [e]
    refine zdh fun i hi=> ?_
    rw [zd0 v2 i hi j (by omega)]
    have:∀j:Fin 16,1<=j.val->j.val<15->0#32=shW (longT.getD (j.val-1) 0) (longT.getD j.val 0):=by decide+kernel
    have h3:=this ⟨j,by omega⟩ h1 h2
    obtain⟨k,rfl⟩:∃k,j=k+1:=⟨j-1,by omega⟩
    simpa [List.getD_eq_getElem?_getD]using h3
  have h15:Nat.mul (one (List.range 8)) 131080=Q (List.range 8) fun i=>zj ((tx v2 i).drop (64*256)) 15:=by
    have e:Nat.mul (one (List.range 8)) 131080=Q (List.range 8) fun _=>131080#32:=z7i 8 131080#32 _ rfl
    rw [e]
    refine zdh fun i hi=> ?_
    rw [zd0 v2 i hi 15 (by omega)]
    have:131080#32=shW (longT.getD 14 0) (longT.getD 15 0):=by decide+kernel
    simpa [List.getD_eq_getElem?_getD]using this
  exact zaa (List.range 8) (fun i=>(tx v2 i).drop (64*256)) v _ _ _ _ _ _ _ _ _ _ _ _ _ _ _ _ S8.mk h0 (hz 1 (by omega) (by omega)) (hz 2 (by omega) (by omega)) (hz 3 (by omega) (by omega)) (hz 4 (by omega) (by omega)) (hz 5 (by omega) (by omega)) (hz 6 (by omega) (by omega)) (hz 7 (by omega) (by omega)) (hz 8 (by omega) (by omega)) (hz 9 (by omega) (by omega)) (hz 10 (by omega) (by omega)) (hz 11 (by omega) (by omega)) (hz 12 (by omega) (by omega)) (hz 13 (by omega) (by omega)) (hz 14 (by omega) (by omega)) h15
def z7b(i:Nat):V8:=blocks 257 v0 (tx v2 i)
def s8Q(f:Nat->V8):S8:=⟨Q (List.range 8) fun i=>(f i).a,Q (List.range 8) fun i=>(f i).b,Q (List.range 8) fun i=>(f i).c,Q (List.range 8) fun i=>(f i).d,Q (List.range 8) fun i=>(f i).e,Q (List.range 8) fun i=>(f i).f,Q (List.range 8) fun i=>(f i).g,Q (List.range 8) fun i=>(f i).h⟩
theorem zt8:zbh (M (List.range 8)) (one (List.range 8)) (M (List.range 4096)) (Q (List.range 4096) fun i=>v8w (v2 i) 0) (Q (List.range 4096) fun i=>v8w (v2 i) 1) (Q (List.range 4096) fun i=>v8w (v2 i) 2) (Q (List.range 4096) fun i=>v8w (v2 i) 3) (Q (List.range 4096) fun i=>v8w (v2 i) 4) (Q (List.range 4096) fun i=>v8w (v2 i) 5) (Q (List.range 4096) fun i=>v8w (v2 i) 6) (Q (List.range 4096) fun i=>v8w (v2 i) 7)=s8Q (z7b v2):=by
 unfold zbh
 rw [zl,zl,zl,zl,zl,zl,zl,zl,zl,zl,zl,zl,zl,zl,zl,zl,zl]
 have hp:Nat.add (Nat.mul (Nat.land (Q (List.range 4096) fun i=>v8w (v2 i) 7) zap) p512) (Nat.mul (one (List.range 8)) 4)=Q (List.range 4096) (fun l=>if l<8 then 4#32 else v8w (v2 (l-8)) 7):=by
  exact q_prev (fun i=>v8w (v2 i) 7) 4#32 4088 4096 _ 4 rfl zq2 rfl
 have h0:shN (M (List.range 4096)) (Nat.add (Nat.mul (Nat.land (Q (List.range 4096) fun i=>v8w (v2 i) 7) zap) p512) (Nat.mul (one (List.range 8)) 4)) (Q (List.range 4096) fun i=>v8w (v2 i) 0)=uT v2 0:=by
  rw [hp,z3g];rfl
 have ht:∀t,shN (M (List.range 4096)) (Q (List.range 4096) fun i=>v8w (v2 i) t) (Q (List.range 4096) fun i=>v8w (v2 i) (t+1))=uT v2 (t+1):=by
  intro t
  rw [z3g]
  unfold uT pw
  simp only [if_neg (Nat.succ_ne_zero t),Nat.add_sub_cancel]
 have hz:Nat.land (Nat.shiftRight (Q (List.range 4096) fun i=>v8w (v2 i) 7) 261632) m512=Q (List.range 8) fun i=>v8w (v2 (4088+i)) 7:=by
  rw [zd1]
  exact z81 (fun i=>v8w (v2 i) 7) (N:=4096) (a:=4088) (c:=8) (by omega)
 rw [h0,ht 0,ht 1,ht 2,ht 3,ht 4,ht 5,ht 6,hz]
 have hi:∀(c:W) (k:Nat),c.toNat=k->Nat.mul (one (List.range 8)) k=Q (List.range 8) fun _=>c:=z7i 8
 have r:=zgy v2 (zam (M (List.range 8)) (one (List.range 8)) (Q (List.range 8) fun i=>v8w (v2 (4088+i)) 7)) 256 0 (fun _=>v0) rfl
 have na:Nat.mul (one (List.range 8)) 1779033703=Q (List.range 8) fun _=>v0.a:=hi 1779033703#32 _ rfl
 have nb:Nat.mul (one (List.range 8)) 3144134277=Q (List.range 8) fun _=>v0.b:=hi 3144134277#32 _ rfl
 have nc:Nat.mul (one (List.range 8)) 1013904242=Q (List.range 8) fun _=>v0.c:=hi 1013904242#32 _ rfl
 have nd:Nat.mul (one (List.range 8)) 2773480762=Q (List.range 8) fun _=>v0.d:=hi 2773480762#32 _ rfl
 have ne:Nat.mul (one (List.range 8)) 1359893119=Q (List.range 8) fun _=>v0.e:=hi 1359893119#32 _ rfl
 have nf:Nat.mul (one (List.range 8)) 2600822924=Q (List.range 8) fun _=>v0.f:=hi 2600822924#32 _ rfl
 have ng:Nat.mul (one (List.range 8)) 528734635=Q (List.range 8) fun _=>v0.g:=hi 528734635#32 _ rfl
 have nh:Nat.mul (one (List.range 8)) 1541459225=Q (List.range 8) fun _=>v0.h:=hi 1541459225#32 _ rfl
 rw [na,nb,nc,nd,ne,nf,ng,nh]
 refine r.trans ?_
 refine(zo5 v2 (fun i=>blocks 256 v0 ((padS (4::enc (z1s v2 i))).drop (64*0)))).trans ?_
 unfold s8Q z7b
 have e:∀i,blocks 257 v0 (tx v2 i)=mixS (blocks 256 v0 ((padS (4::enc (z1s v2 i))).drop (64*0))) ((tx v2 i).drop (64*256)):=fun i=>zf6 256 v0 _
 simp only [e]
end
section
variable (v1:Nat->V8)
def sh2(l:Nat):V8:=mixS v0 (padS (3::outV (v1 l)))
theorem zs5:zb9 (M (List.range 8)) (one (List.range 8)) (M (List.range 4096)) (one (List.range 4096)) (Q (List.range 4096) fun i=>(v1 i).a) (Q (List.range 4096) fun i=>(v1 i).b) (Q (List.range 4096) fun i=>(v1 i).c) (Q (List.range 4096) fun i=>(v1 i).d) (Q (List.range 4096) fun i=>(v1 i).e) (Q (List.range 4096) fun i=>(v1 i).f) (Q (List.range 4096) fun i=>(v1 i).g) (Q (List.range 4096) fun i=>(v1 i).h)=s8Q (z7b (sh2 v1)):=by
 unfold zb9
 rw [zl,zl,zl,zl,zl,zl,zl,zl,zl,zl,zl,zl,zl,zl,zl,zl,zl,zl,zl]
 have hc:∀(c:W) (k:Nat),c.toNat=k->Nat.mul (one (List.range 4096)) k=Q (List.range 4096) fun _=>c:=z7i 4096
 have sw:∀j,j<16->∀i,shW ((3#32::((v1 i).l++padT)).getD j 0) ((3#32::((v1 i).l++padT)).getD (j+1) 0)=zj (padS (3::outV (v1 i))) j:=fun j hj i=>(zs6 (v1 i) j hj).symm
 have c3:Nat.mul (one (List.range 4096)) 3=Q (List.range 4096) fun _=>3#32:=hc 3#32 _ rfl
 have c8:Nat.mul (one (List.range 4096)) 2147483648=Q (List.range 4096) fun _=>2147483648#32:=hc 2147483648#32 _ rfl
 have c0:Nat.mul (one (List.range 4096)) 0=Q (List.range 4096) fun _=>0#32:=hc 0#32 _ rfl
 have cF:Nat.mul (one (List.range 4096)) 264=Q (List.range 4096) fun _=>264#32:=hc 264#32 _ rfl
 rw [c3,c8,c0,cF]
 have na:Nat.mul (one (List.range 4096)) 1779033703=Q (List.range 4096) fun _=>v0.a:=hc 1779033703#32 _ rfl
 have nb:Nat.mul (one (List.range 4096)) 3144134277=Q (List.range 4096) fun _=>v0.b:=hc 3144134277#32 _ rfl
 have nc:Nat.mul (one (List.range 4096)) 1013904242=Q (List.range 4096) fun _=>v0.c:=hc 1013904242#32 _ rfl
 have nd:Nat.mul (one (List.range 4096)) 2773480762=Q (List.range 4096) fun _=>v0.d:=hc 2773480762#32 _ rfl
 have ne:Nat.mul (one (List.range 4096)) 1359893119=Q (List.range 4096) fun _=>v0.e:=hc 1359893119#32 _ rfl
 have nf:Nat.mul (one (List.range 4096)) 2600822924=Q (List.range 4096) fun _=>v0.f:=hc 2600822924#32 _ rfl
 have ng:Nat.mul (one (List.range 4096)) 528734635=Q (List.range 4096) fun _=>v0.g:=hc 528734635#32 _ rfl
 have nh:Nat.mul (one (List.range 4096)) 1541459225=Q (List.range 4096) fun _=>v0.h:=hc 1541459225#32 _ rfl
 rw [na,nb,nc,nd,ne,nf,ng,nh]
 have w0:∀i,zj (padS (3::outV (v1 i))) 0=shW 3#32 (v1 i).a:=fun i=>(sw 0 (by omega) i).symm.trans rfl
 have w1:∀i,zj (padS (3::outV (v1 i))) 1=shW (v1 i).a (v1 i).b:=fun i=>(sw 1 (by omega) i).symm.trans rfl
 have w2:∀i,zj (padS (3::outV (v1 i))) 2=shW (v1 i).b (v1 i).c:=fun i=>(sw 2 (by omega) i).symm.trans rfl
 have w3:∀i,zj (padS (3::outV (v1 i))) 3=shW (v1 i).c (v1 i).d:=fun i=>(sw 3 (by omega) i).symm.trans rfl
 have w4:∀i,zj (padS (3::outV (v1 i))) 4=shW (v1 i).d (v1 i).e:=fun i=>(sw 4 (by omega) i).symm.trans rfl
 have w5:∀i,zj (padS (3::outV (v1 i))) 5=shW (v1 i).e (v1 i).f:=fun i=>(sw 5 (by omega) i).symm.trans rfl
 have w6:∀i,zj (padS (3::outV (v1 i))) 6=shW (v1 i).f (v1 i).g:=fun i=>(sw 6 (by omega) i).symm.trans rfl
 have w7:∀i,zj (padS (3::outV (v1 i))) 7=shW (v1 i).g (v1 i).h:=fun i=>(sw 7 (by omega) i).symm.trans rfl
 have w8:∀i,zj (padS (3::outV (v1 i))) 8=shW (v1 i).h 2147483648#32:=fun i=>(sw 8 (by omega) i).symm.trans rfl
 have w9:∀i,zj (padS (3::outV (v1 i))) 9=0#32:=fun i=>(sw 9 (by omega) i).symm.trans (by show shW 2147483648#32 0#32=_;decide+kernel)
 have w10:∀i,zj (padS (3::outV (v1 i))) 10=0#32:=fun i=>(sw 10 (by omega) i).symm.trans (by show shW 0#32 0#32=_;decide+kernel)
 have w11:∀i,zj (padS (3::outV (v1 i))) 11=0#32:=fun i=>(sw 11 (by omega) i).symm.trans (by show shW 0#32 0#32=_;decide+kernel)
 have w12:∀i,zj (padS (3::outV (v1 i))) 12=0#32:=fun i=>(sw 12 (by omega) i).symm.trans (by show shW 0#32 0#32=_;decide+kernel)
 have w13:∀i,zj (padS (3::outV (v1 i))) 13=0#32:=fun i=>(sw 13 (by omega) i).symm.trans (by show shW 0#32 0#32=_;decide+kernel)
 have w14:∀i,zj (padS (3::outV (v1 i))) 14=0#32:=fun i=>(sw 14 (by omega) i).symm.trans (by show shW 0#32 0#32=_;decide+kernel)
 have w15:∀i,zj (padS (3::outV (v1 i))) 15=264#32:=fun i=>(sw 15 (by omega) i).symm.trans (by show shW 0#32 67584#32=_;decide+kernel)
 refine(zaa (List.range 4096) (fun i=>padS (3::outV (v1 i))) (fun _=>v0) _ _ _ _ _ _ _ _ _ _ _ _ _ _ _ _ (zbh (M (List.range 8)) (one (List.range 8)) (M (List.range 4096))) (by simp only [w0];exact z3g _ _ _) (by simp only [w1];exact z3g _ _ _) (by simp only [w2];exact z3g _ _ _) (by simp only [w3];exact z3g _ _ _) (by simp only [w4];exact z3g _ _ _) (by simp only [w5];exact z3g _ _ _) (by simp only [w6];exact z3g _ _ _) (by simp only [w7];exact z3g _ _ _) (by simp only [w8];exact z3g _ _ _) (by simp only [w9]) (by simp only [w10]) (by simp only [w11]) (by simp only [w12]) (by simp only [w13]) (by simp only [w14]) (by simp only [w15])).trans ?_
 exact zt8 (sh2 v1)
end
set_option exponentiation.threshold 300000 in
theorem zo7(wf:Nat->Nat->Nat)(msg:Nat->List UInt8)(hm:∀l j,j<16->zj (padS (msg l)) j=BitVec.ofNat 32 (wf j l))(hb:∀j l,wf j l<2^64):z7a wf=s8Q (z7b (sh2 fun l=>mixS v0 (padS (msg l)))):=by
 unfold z7a
 rw [zl,zl,zl,zl,zl,zl,zl,zl,zl,zl,zl,zl,zl,zl,zl,zl,zl,zl,zl,zl,zl,zl,zl,zl,zl,zl,zl,zl]
 rw [M_is,M_is,z7e,z7e]
 have hc:∀(c:W) (k:Nat),c.toNat=k->Nat.mul (one (List.range 4096)) k=Q (List.range 4096) fun _=>c:=z7i 4096
 have na:Nat.mul (one (List.range 4096)) 1779033703=Q (List.range 4096) fun _=>v0.a:=hc 1779033703#32 _ rfl
 have nb:Nat.mul (one (List.range 4096)) 3144134277=Q (List.range 4096) fun _=>v0.b:=hc 3144134277#32 _ rfl
 have nc:Nat.mul (one (List.range 4096)) 1013904242=Q (List.range 4096) fun _=>v0.c:=hc 1013904242#32 _ rfl
 have nd:Nat.mul (one (List.range 4096)) 2773480762=Q (List.range 4096) fun _=>v0.d:=hc 2773480762#32 _ rfl
 have ne:Nat.mul (one (List.range 4096)) 1359893119=Q (List.range 4096) fun _=>v0.e:=hc 1359893119#32 _ rfl
 have nf:Nat.mul (one (List.range 4096)) 2600822924=Q (List.range 4096) fun _=>v0.f:=hc 2600822924#32 _ rfl
 have ng:Nat.mul (one (List.range 4096)) 528734635=Q (List.range 4096) fun _=>v0.g:=hc 528734635#32 _ rfl
 have nh:Nat.mul (one (List.range 4096)) 1541459225=Q (List.range 4096) fun _=>v0.h:=hc 1541459225#32 _ rfl
 rw [na,nb,nc,nd,ne,nf,ng,nh]
 have hw:∀j,j<16->Nat.land (pkR (wf j) 4096 0) (M (List.range 4096))=Q (List.range 4096) fun l=>zj (padS (msg l)) j:=by
  intro j hj
  rw [zht,Nat.mul_zero,Nat.add_zero]
  exact z7d _ _ (hb j) fun i=>(hm i j hj).symm
 refine(zaa (List.range 4096) (fun i=>padS (msg i)) (fun _=>v0) _ _ _ _ _ _ _ _ _ _ _ _ _ _ _ _ (zb9 (M (List.range 8)) (one (List.range 8)) (M (List.range 4096)) (one (List.range 4096))) (hw 0 (by omega)) (hw 1 (by omega)) (hw 2 (by omega)) (hw 3 (by omega)) (hw 4 (by omega)) (hw 5 (by omega)) (hw 6 (by omega)) (hw 7 (by omega)) (hw 8 (by omega)) (hw 9 (by omega)) (hw 10 (by omega)) (hw 11 (by omega)) (hw 12 (by omega)) (hw 13 (by omega)) (hw 14 (by omega)) (hw 15 (by omega))).trans ?_
 exact zs5 fun l=>mixS v0 (padS (msg l))
end
section
theorem rl_c{k:Nat}:∀(l:List W),RLs k (ws l)
 | []=>by simp [ws,RLs]
 | _::l=>by have:=rl_c (k:=k) l;simp only [ws]at this;simp [ws,wc,RLs,RL,this]
theorem z43{k:Nat}{l:List AV}(h:RLs k l):RL k (.agg l):=by simpa only [RL]using h
theorem zbj(O:Store)(x:W)(k:Int)(h:0<k/\ k<32):ACallsTo TC 79 [.int .u32 x.toNat,.int .u32 k] O (.int .u32 (x.rotateLeft (32-k.toNat)).toNat) O:=by
 refine ACallsTo.of_body qdok (by simp) fun hw _=> ?_
 repeat' (first|apply zs_|apply zb_|apply zc_|apply zt_ rfl|apply zf_ rfl|(apply zd_ rfl<;>intro ht<;>try omega)|((first|apply zr_|apply zk_|apply ze_|apply zq_|(apply zG<;>intro ht));all_goals try simp (disch:=first|omega|(simp only [lens];first|done|omega)) only [go_sem]))
 have e:(x>>>k.toNat |||x<<<(32-k).toNat)=x.rotateLeft (32-k.toNat):=by
  obtain⟨n,rfl⟩:∃n:Nat,k=n:=⟨k.toNat,by omega⟩
  have e1:((32:Int)-n).toNat=32-n:=by omega
  rw [e1,Int.toNat_natCast,BitVec.rotateLeft_def,BitVec.or_comm]
  have:(32-n)%32=32-n:=Nat.mod_eq_of_lt (by omega)
  rw [this]
  congr 2
  omega
 rw [e]
 exact DownV.same hw (z13 _ rfl)
theorem ztm(s:List UInt8)(i:Nat):IntKind.u32.wrap ((getS ((s.drop (4*i)).take 4):Nat):Int)=((zj s i).toNat:Int):=by
 rw [z9j,zj,BitVec.toNat_ofNat];rfl
theorem zli{w:List W}{x:W}{n:Nat}(h:w.length=n)(hn:n<64):(ws w++List.replicate (64-n) (AV.int .u32 0)).take n++AV.int .u32 x.toNat::(ws w++List.replicate (64-n) (AV.int .u32 0)).drop (n+1)=ws (w++ [x])++List.replicate (64-(n+1)) (AV.int .u32 0):=by
 have hl:(ws w).length=n:=by rw [z3v,h]
 have e:64-n=(64-(n+1))+1:=by omega
 rw [List.take_append_of_le_length (by omega),List.take_of_length_le (by omega),List.drop_append,List.drop_of_length_le (by omega),hl]
 rw [show n+1-n=1 by omega,e,List.replicate_succ,List.drop_succ_cons,List.drop_zero,List.nil_append]
 simp [ws,wc]
theorem zsg(O:Store)(s:List UInt8)(h:64<=s.length)(hs:s.length<9223372036854775808):ACallsTo TC 60 [.str s] O (.agg (ws (z12 s 64))) O:=by
 obtain⟨R,hR⟩:∃R,R=z12 s 64:=⟨_,rfl⟩
 rw [<-hR]
 refine ACallsTo.of_body qgok (by simp) fun hw _=> ?_
 repeat' (first|apply zs_|apply zb_|apply zc_|apply zt_ rfl|apply zf_ rfl|(apply zd_ rfl<;>intro ht<;>try omega)|((first|apply zr_|apply zk_|apply ze_|apply zq_|(apply zG<;>intro ht));all_goals try simp (disch:=first|omega|(simp only [lens];first|done|omega)) only [go_sem]))
 refine zW.loop (fun m Z O'=>∃i:Nat,m+i=64/\ Z 0=.str s/\ Z 2=.ptr O.length 0 0/\ Z 6=.int .i64 i/\ O'=O++ [some [ws (z12 s i)++List.replicate (64-i) (AV.int .u32 0)]]) 64 ?_ ?_
 ·exact⟨0,by omega,by simp (disch:=first|omega|(simp only [lens];first|done|omega)) only [go_sem],by simp (disch:=first|omega|(simp only [lens];first|done|omega)) only [go_sem],by simp (disch:=first|omega|(simp only [lens];first|done|omega)) only [go_sem];rfl,rfl⟩
 ·rintro m Z O' ⟨i,hm,q0,q2,q6,rfl⟩
  have hsl:=z45 s i
  have hset:=fun x=>zli (x:=x) hsl
  have hwi:∀j,j<i->(ws (z12 s i)++List.replicate (64-i) (AV.int .u32 0))[j]? =some (.int .u32 (wat (z12 s i) j).toNat):=by
   intro j hj
   rw [List.getElem?_append_left (by rw [z3v];omega),z7u (by omega)]
  have hlen:(ws (z12 s i)++List.replicate (64-i) (AV.int .u32 0)).length=64 \/64<i:=by
   simp [z3v,hsl];omega
  by_cases hi:i<64
  ·have hlen:(ws (z12 s i)++List.replicate (64-i) (AV.int .u32 0)).length=64:=by omega
   generalize hcc:ws (z12 s i)++List.replicate (64-i) (AV.int .u32 0)=cc at*
   by_cases h16:i<16
   ·have hd1:(s.take (4*i+4)).length=4*i+4:=by rw [List.length_take];omega
    repeat' (first|apply zs_|apply zb_|apply zc_|apply zt_ rfl|apply zf_ rfl|(apply zd_ rfl<;>intro ht<;>try omega)|((first|apply zr_|apply zk_|apply ze_|apply zq_|(apply callW.mk_pu;(first|exact(fun _=>zf4 _ _ (by simp;omega))))|(apply callW.za;(first|exact(zf4 _ _ (by simp;omega))))|(apply zG<;>intro ht));all_goals try simp (disch:=first|omega|(simp only [lens];first|done|omega)) only [go_sem,q0,q2,q6,hlen]))
    have ev:((getS ((s.take (4*(i:Int)+4).toNat).drop (4*(i:Int)).toNat):Nat):Int)%4294967296=((z2p s (z12 s i)).toNat:Int):=by
     rw [show (4*(i:Int)+4).toNat=4*i+4 by omega,show (4*(i:Int)).toNat=4*i by omega,List.drop_take,show 4*i+4-4*i=4 by omega]
     have:=ztm s i
     rw [z9j]at this
     rw [this,z2p,if_pos (by omega),hsl]
    refine⟨64-(i+1),by omega,i+1,by omega,by simp,?_⟩
    rw [ev,hset _ hi,z12]
   ·have en:z2p s (z12 s i)=wat (z12 s i) (i-16)+wat (z12 s i) (i-7)+ss0 (wat (z12 s i) (i-15))+ss1 (wat (z12 s i) (i-2)):=by rw [z2p,if_neg (by omega),hsl]
    have g16:=hwi (i-16) (by omega)
    have g7:=hwi (i-7) (by omega)
    have g15:=hwi (i-15) (by omega)
    have g2:=hwi (i-2) (by omega)
    have t16:((i:Int)-16).toNat=i-16:=by omega
    have t7:((i:Int)-7).toNat=i-7:=by omega
    have t15:((i:Int)-15).toNat=i-15:=by omega
    have t2:((i:Int)-2).toNat=i-2:=by omega
    generalize wat (z12 s i) (i-16)=w16 at*
    generalize wat (z12 s i) (i-7)=w7 at*
    generalize wat (z12 s i) (i-15)=w15 at*
    generalize wat (z12 s i) (i-2)=w2 at*
    have r7:((-7:Int)%32).toNat=25:=rfl
    have r18:((-18:Int)%32).toNat=14:=rfl
    have r17:((-17:Int)%32).toNat=15:=rfl
    have r19:((-19:Int)%32).toNat=13:=rfl
    have en2:=hset (z2p s (z12 s i)) hi
    rw [en]at en2
    simp only [ss0,ss1]at en2
    repeat' (first|apply zs_|apply zb_|apply zc_|apply zt_ rfl|apply zf_ rfl|(apply zd_ rfl<;>intro ht<;>try omega)|((first|apply zr_|apply zk_|apply ze_|apply zq_|(apply callW.mk_pu;(first|exact(fun _=>za3 _ _ _)))|(apply callW.za;(first|exact(za3 _ _ _)))|(apply zG<;>intro ht));all_goals try simp (disch:=first|omega|(simp only [lens];first|done|omega)) only [go_sem,q0,q2,q6,hlen,g16,g7,g15,g2,t16,t7,t15,t2,r7,r18,r17,r19]))
    refine⟨64-(i+1),by omega,i+1,by omega,by simp,?_⟩
    rw [en2,z12,en]
    simp only [ss0,ss1]
  ·have e:i=64:=by omega
   have eR:z12 s i=R:=by rw [hR,e]
   have hsR:R.length=64:=by rw [<-eR,hsl,e]
   have hl64:(ws R).length=64:=by rw [z3v,hsR]
   have e0:List.replicate (64-i) (AV.int .u32 0)=[]:=by rw [e];rfl
   rw [eR,e0,List.append_nil]at*
   clear hwi hset hlen hR
   have hd:(ws R).drop 64=[]:=List.drop_of_length_le (by omega)
   repeat' (first|apply zs_|apply zb_|apply zc_|apply zt_ rfl|apply zf_ rfl|(apply zd_ rfl<;>intro ht<;>try omega)|((first|apply zr_|apply zk_|apply ze_|apply zq_|(apply zG<;>intro ht));all_goals try simp (disch:=first|omega|(simp only [lens];first|done|omega)) only [go_sem,q0,q2,q6,hl64,hd]))
   exact DownV.pure hw (z43 (rl_c _))
end
section
def V8.c8(v:V8):List AV:=[.int .u32 v.a.toNat,.int .u32 v.b.toNat,.int .u32 v.c.toNat,.int .u32 v.d.toNat,.int .u32 v.e.toNat,.int .u32 v.f.toNat,.int .u32 v.g.toNat,.int .u32 v.h.toNat]
theorem ws_l(v:V8):ws v.l=v.c8:=rfl
theorem zgu{i:Nat}(h:i<64):(gl_sha_rounds.drop i)[0]? =some (.int .u32 (kAt i).toNat):=by
 have hall:∀j:Fin 64,(gl_sha_rounds.drop j.val)[0]? =some (.int .u32 (kAt j.val).toNat):=by
  intro j
  have h2:(gl_sha_rounds.drop j.val)[0]? =some (AV.int .u32 (shaRounds.getD j.val 0)):=by
   have hl:shaRounds.length=64:=rfl
   simp only [gl_sha_rounds,List.getElem?_drop,Nat.add_zero,List.getElem?_map,List.getD_eq_getElem?_getD]
   rw [List.getElem?_eq_getElem (by rw [hl];exact j.isLt)];rfl
  rw [h2]
  have h3:∀j:Fin 64,shaRounds.getD j.val 0=((kAt j.val).toNat:Int):=by decide
  rw [h3 j]
 exact hall ⟨i,h⟩
theorem z8p:gl_sha_rounds.length=64:=rfl
theorem mix_to(O:Store)(v:V8)(s:List UInt8)(h:64<=s.length)(hs:s.length<9223372036854775808):ACallsTo TC 40 [.agg (ws v.l),.str s] O (.agg (ws (mixS v s).l)) O:=by
 obtain⟨R,hR⟩:∃R,R=z12 s 64:=⟨_,rfl⟩
 have hsp:=fun O=>zsg O s h hs
 rw [<-hR]at hsp
 have hRl:R.length=64:=by rw [hR,z45]
 have hwR:(ws R).length=64:=by rw [z3v,hRl]
 have hst:∀n,rnds s v (n+1)=rnd (rnds s v n) (kAt n) (wat R n):=fun n=>by rw [rnds,hR]
 obtain⟨F,hF⟩:∃F,F=(rnds s v 64).add v:=⟨_,rfl⟩
 have hmix:mixS v s=F:=hF.symm
 rw [hmix,ws_l,ws_l]
 clear hmix
 refine ACallsTo.of_body qfok (by simp) fun hw _=> ?_
 unfold V8.c8
 repeat' (first|apply zs_|apply zb_|apply zc_|apply zt_ rfl|apply zf_ rfl|(apply zd_ rfl<;>intro ht<;>try omega)|((first|apply zr_|apply zk_|apply ze_|apply zq_|(apply callW.mk_pu;(first|exact(fun _=>hsp _)))|(apply callW.za;(first|exact(hsp _)))|(apply zG<;>intro ht));all_goals try simp (disch:=first|omega|(simp only [lens];first|done|omega)) only [go_sem]))
 refine zW.loop (fun m Z O'=>∃i:Nat,m+i=64/\ Z 2=.ptr O.length 0 0/\ Z 4=.ptr (O.length+1) 0 0/\ Z 5=.ptr (O.length+2) 0 0/\ Z 15=.agg (ws R)/\ Z 16=.int .i64 i ∧
  O'=O++ [some [v.c8],some [[AV.int .u32 0,AV.int .u32 0,AV.int .u32 0,AV.int .u32 0,AV.int .u32 0,AV.int .u32 0,AV.int .u32 0,AV.int .u32 0]],some [(rnds s v i).c8]]) 64 ?_ ?_
 ·exact⟨0,by omega,by simp (disch:=first|omega|(simp only [lens];first|done|omega)) only [go_sem],by simp (disch:=first|omega|(simp only [lens];first|done|omega)) only [go_sem],by simp (disch:=first|omega|(simp only [lens];first|done|omega)) only [go_sem],by simp (disch:=first|omega|(simp only [lens];first|done|omega)) only [go_sem],by simp (disch:=first|omega|(simp only [lens];first|done|omega)) only [go_sem];rfl,rfl⟩
 ·rintro m Z O' ⟨i,hm,q2,q4,q5,q15,q16,rfl⟩
  by_cases hi:i<64
  ·have hk:=zgu hi
   have hw:=z7u (w:=R) (i:=i) (by omega)
   have hst:=hst i
   generalize rnds s v i=u at*
   obtain⟨a,b,c,d,e,f,g,h⟩:=u
   generalize kAt i=kk at*
   generalize wat R i=ww at*
   have r6:((-6:Int)%32).toNat=26:=rfl
   have r11:((-11:Int)%32).toNat=21:=rfl
   have r25:((-25:Int)%32).toNat=7:=rfl
   have r2:((-2:Int)%32).toNat=30:=rfl
   have r13:((-13:Int)%32).toNat=19:=rfl
   have r22:((-22:Int)%32).toNat=10:=rfl
   refine zs_ ?_
   refine zr_ ?_
   simp (disch:=first|omega|(simp only [lens];first|done|omega)) only [go_sem,q16]
   refine zs_ ?_
   refine zt_ rfl ?_
   refine zk_ ?_
   simp (disch:=first|omega|(simp only [lens];first|done|omega)) only [go_sem]
   refine zs_ ?_
   refine zb_ ?_
   refine zs_ ?_
   refine zW.regS ?_
   simp (disch:=first|omega|(simp only [lens];first|done|omega)) only [go_sem,q15,q16,hwR,hw]
   (refine zW.slots [2,4,5,6,7,15,16] ?_;intro Z1 hs;simp (disch:=first|omega|(simp only [lens];first|done|omega)) only [go_sem,q2,q4,q5,q15,q16]at hs;obtain⟨s2,s4,s5,s6,s7,s15,s16⟩:=hs)
   refine zs_ ?_
   refine zW.regS ?_
   simp (disch:=first|omega|(simp only [lens];first|done|omega)) only [go_sem,s5,V8.c8]
   (refine zW.slots [2,4,5,6,7,8,9,15,16] ?_;intro Z2 hs;simp (disch:=first|omega|(simp only [lens];first|done|omega)) only [go_sem,s2,s4,s5,s6,s7,s15,s16]at hs;obtain⟨s2,s4,s5,s6,s7,s8,s9,s15,s16⟩:=hs)
   refine zs_ ?_
   (refine zW.regS ?_;(simp (disch:=first|omega|(simp only [lens];first|done|omega)) only [go_sem,s2,s4,s5,s6,s7,s8,s9,V8.c8,hk,z8p,r6,r11,r25]);repeat' (apply callW.za;(first|exact(za3 _ _ _));all_goals try (simp (disch:=first|omega|(simp only [lens];first|done|omega)) only [go_sem,s2,s4,s5,s6,s7,s8,s9,V8.c8,hk,z8p,r6,r11,r25])))
   (refine zW.slots [2,4,5,8,9,10,15,16] ?_;intro Z3 hs;simp (disch:=first|omega|(simp only [lens];first|done|omega)) only [go_sem,s2,s4,s5,s8,s9,s15,s16]at hs;obtain⟨s2,s4,s5,s8,s9,s10,s15,s16⟩:=hs)
   refine zs_ ?_
   (refine zW.regS ?_;(simp (disch:=first|omega|(simp only [lens];first|done|omega)) only [go_sem,s5,s8,s9,V8.c8,r2,r13,r22]);repeat' (apply callW.za;(first|exact(za3 _ _ _));all_goals try (simp (disch:=first|omega|(simp only [lens];first|done|omega)) only [go_sem,s5,s8,s9,V8.c8,r2,r13,r22])))
   (refine zW.slots [2,4,5,8,9,10,11,15,16] ?_;intro Z4 hs;simp (disch:=first|omega|(simp only [lens];first|done|omega)) only [go_sem,s2,s4,s5,s8,s9,s10,s15,s16]at hs;obtain⟨s2,s4,s5,s8,s9,s10,s11,s15,s16⟩:=hs)
   (refine zW.regS ?_;(simp (disch:=first|omega|(simp only [lens];first|done|omega)) only [go_sem,s5,s8,s9,s10,s11,V8.c8]))
   (refine zW.slots [2,4,5,15,16] ?_;intro Z5 hs;simp (disch:=first|omega|(simp only [lens];first|done|omega)) only [go_sem,s2,s4,s5,s15,s16]at hs;obtain⟨s2,s4,s5,s15,s16⟩:=hs)
   (refine zW.regS ?_;(simp (disch:=first|omega|(simp only [lens];first|done|omega)) only [go_sem,s16]))
   refine⟨64-(i+1),by omega,i+1,by omega,s2,s4,s5,s15,by simp,?_⟩
   rw [hst]
   simp only [rnd,V8.c8,bs1,chW,bs0,majW]
  ·obtain rfl:i=64:=by omega
   clear hst
   generalize rnds s v 64=U at*
   rw [hF,V8.add]
   clear hF hR
   obtain⟨a,b,c,d,e,f,g,h⟩:=U
   obtain⟨a',b',c',d',e',f',g',h'⟩:=v
   simp only [V8.c8]at*
   repeat' (first|apply zs_|apply zb_|apply zc_|apply zt_ rfl|apply zf_ rfl|(apply zd_ rfl<;>intro ht<;>try omega)|((first|apply zr_|apply zk_|apply ze_|apply zq_|(apply zG<;>intro ht));all_goals try simp (disch:=first|omega|(simp only [lens];first|done|omega)) only [go_sem,q16]))
   refine zW.loop (fun m Z O'=>∃j:Nat,m+j=8/\ Z 2=.ptr O.length 0 0/\ Z 4=.ptr (O.length+1) 0 0/\ Z 5=.ptr (O.length+2) 0 0/\ Z 95=.int .i64 j ∧
    O'=O++ [some [V8.c8 ⟨a',b',c',d',e',f',g',h'⟩],some [[AV.int .u32 0,AV.int .u32 0,AV.int .u32 0,AV.int .u32 0,AV.int .u32 0,AV.int .u32 0,AV.int .u32 0,AV.int .u32 0]],some [(V8.c8 ⟨a+a',b+b',c+c',d+d',e+e',f+f',g+g',h+h'⟩).take j++(V8.c8 ⟨a,b,c,d,e,f,g,h⟩).drop j]]) 8 ?_ ?_
   ·exact⟨0,by omega,by simp (disch:=first|omega|(simp only [lens];first|done|omega)) only [go_sem,q2],by simp (disch:=first|omega|(simp only [lens];first|done|omega)) only [go_sem,q4],by simp (disch:=first|omega|(simp only [lens];first|done|omega)) only [go_sem,q5],by simp (disch:=first|omega|(simp only [lens];first|done|omega)) only [go_sem];rfl,rfl⟩
   ·clear q2 q4 q5 q15 q16
    rintro m Z O' ⟨j,hm,q2,q4,q5,q95,rfl⟩
    have hj:j=0 \/j=1 \/j=2 \/j=3 \/j=4 \/j=5 \/j=6 \/j=7 \/j=8:=by omega
    rcases hj with rfl|rfl|rfl|rfl|rfl|rfl|rfl|rfl|rfl
    ·repeat' (first|refine zs_ ?_|refine zb_ ?_|refine zc_ ?_|refine zt_ rfl ?_|refine zf_ rfl ?_|(refine zd_ rfl (fun ht=> ?_) (fun ht=> ?_)<;>try (exfalso;omega))|((first|refine zW.regS ?_|refine zk_ ?_|refine ze_ ?_|refine zq_ ?_|(apply zG<;>intro ht));all_goals try simp (disch:=first|omega|(simp only [lens];first|done|omega)) only [go_sem,q2,q4,q5,q95,V8.c8]))
     exact⟨7,by omega,1,by omega,rfl,rfl⟩
    ·repeat' (first|refine zs_ ?_|refine zb_ ?_|refine zc_ ?_|refine zt_ rfl ?_|refine zf_ rfl ?_|(refine zd_ rfl (fun ht=> ?_) (fun ht=> ?_)<;>try (exfalso;omega))|((first|refine zW.regS ?_|refine zk_ ?_|refine ze_ ?_|refine zq_ ?_|(apply zG<;>intro ht));all_goals try simp (disch:=first|omega|(simp only [lens];first|done|omega)) only [go_sem,q2,q4,q5,q95,V8.c8]))
     exact⟨6,by omega,2,by omega,rfl,rfl⟩
    ·repeat' (first|refine zs_ ?_|refine zb_ ?_|refine zc_ ?_|refine zt_ rfl ?_|refine zf_ rfl ?_|(refine zd_ rfl (fun ht=> ?_) (fun ht=> ?_)<;>try (exfalso;omega))|((first|refine zW.regS ?_|refine zk_ ?_|refine ze_ ?_|refine zq_ ?_|(apply zG<;>intro ht));all_goals try simp (disch:=first|omega|(simp only [lens];first|done|omega)) only [go_sem,q2,q4,q5,q95,V8.c8]))
     exact⟨5,by omega,3,by omega,rfl,rfl⟩
    ·repeat' (first|refine zs_ ?_|refine zb_ ?_|refine zc_ ?_|refine zt_ rfl ?_|refine zf_ rfl ?_|(refine zd_ rfl (fun ht=> ?_) (fun ht=> ?_)<;>try (exfalso;omega))|((first|refine zW.regS ?_|refine zk_ ?_|refine ze_ ?_|refine zq_ ?_|(apply zG<;>intro ht));all_goals try simp (disch:=first|omega|(simp only [lens];first|done|omega)) only [go_sem,q2,q4,q5,q95,V8.c8]))
     exact⟨4,by omega,4,by omega,rfl,rfl⟩
    ·repeat' (first|refine zs_ ?_|refine zb_ ?_|refine zc_ ?_|refine zt_ rfl ?_|refine zf_ rfl ?_|(refine zd_ rfl (fun ht=> ?_) (fun ht=> ?_)<;>try (exfalso;omega))|((first|refine zW.regS ?_|refine zk_ ?_|refine ze_ ?_|refine zq_ ?_|(apply zG<;>intro ht));all_goals try simp (disch:=first|omega|(simp only [lens];first|done|omega)) only [go_sem,q2,q4,q5,q95,V8.c8]))
     exact⟨3,by omega,5,by omega,rfl,rfl⟩
    ·repeat' (first|refine zs_ ?_|refine zb_ ?_|refine zc_ ?_|refine zt_ rfl ?_|refine zf_ rfl ?_|(refine zd_ rfl (fun ht=> ?_) (fun ht=> ?_)<;>try (exfalso;omega))|((first|refine zW.regS ?_|refine zk_ ?_|refine ze_ ?_|refine zq_ ?_|(apply zG<;>intro ht));all_goals try simp (disch:=first|omega|(simp only [lens];first|done|omega)) only [go_sem,q2,q4,q5,q95,V8.c8]))
     exact⟨2,by omega,6,by omega,rfl,rfl⟩
    ·repeat' (first|refine zs_ ?_|refine zb_ ?_|refine zc_ ?_|refine zt_ rfl ?_|refine zf_ rfl ?_|(refine zd_ rfl (fun ht=> ?_) (fun ht=> ?_)<;>try (exfalso;omega))|((first|refine zW.regS ?_|refine zk_ ?_|refine ze_ ?_|refine zq_ ?_|(apply zG<;>intro ht));all_goals try simp (disch:=first|omega|(simp only [lens];first|done|omega)) only [go_sem,q2,q4,q5,q95,V8.c8]))
     exact⟨1,by omega,7,by omega,rfl,rfl⟩
    ·repeat' (first|refine zs_ ?_|refine zb_ ?_|refine zc_ ?_|refine zt_ rfl ?_|refine zf_ rfl ?_|(refine zd_ rfl (fun ht=> ?_) (fun ht=> ?_)<;>try (exfalso;omega))|((first|refine zW.regS ?_|refine zk_ ?_|refine ze_ ?_|refine zq_ ?_|(apply zG<;>intro ht));all_goals try simp (disch:=first|omega|(simp only [lens];first|done|omega)) only [go_sem,q2,q4,q5,q95,V8.c8]))
     exact⟨0,by omega,8,by omega,rfl,rfl⟩
    ·repeat' (first|apply zs_|apply zb_|apply zc_|apply zt_ rfl|apply zf_ rfl|(apply zd_ rfl<;>intro ht<;>try omega)|((first|apply zr_|apply zk_|apply ze_|apply zq_|(apply zG<;>intro ht));all_goals try simp (disch:=first|omega|(simp only [lens];first|done|omega)) only [go_sem,q2,q4,q5,q95,V8.c8]))
     exact DownV.pure hw (z13 _ rfl)
end
end Am
end Go.Proofs.YtkiimfgjimoffaaGreatDoor
section
/- Contracts of library functions, laid off the kit's shelf for this program. -/
namespace Go.Proofs
open Go.Shelf
def Tryz.lays169_ren : Go.Shelf.Ren := ⟨fun | 169 => 64 | n => n, fun | 70 => 105 | 9 => 9 | 0 => 0 | 72 => 107 | 37 => 76 | 127 => 133 | 3 => 3 | 5 => 5 | n => n, fun | n => n⟩
theorem Tryz.lays169 : Go.Proofs.Lays.n169 Tryz.prog Tryz.lays169_ren := {
 mixed := by kernel_rfl
 f169 := Tryz.func64.trans (congrArg some (by kernel_rfl))
 t0 := Tryz.underlying0
 a0 := Tryz.isAgg0
 z0 := Tryz.sizeOf0
 v0 := Tryz.zeroValue0
 t3 := Tryz.underlying3
 a3 := Tryz.isAgg3
 z3 := Tryz.sizeOf3
 v3 := Tryz.zeroValue3
 t9 := Tryz.underlying9
 a9 := Tryz.isAgg9
 z9 := Tryz.sizeOf9
 v9 := Tryz.zeroValue9
 t37 := Tryz.underlying76
 a37 := Tryz.isAgg76
 z37 := Tryz.sizeOf76
 v37 := Tryz.zeroValue76
 t70 := Tryz.underlying105
 a70 := Tryz.isAgg105
 z70 := Tryz.sizeOf105
 v70 := Tryz.zeroValue105
 t72 := Tryz.underlying107
 a72 := Tryz.isAgg107
 z72 := Tryz.sizeOf107
 v72 := Tryz.zeroValue107
 t127 := Tryz.underlying133
 a127 := Tryz.isAgg133
 z127 := Tryz.sizeOf133
 v127 := Tryz.zeroValue133 }
theorem Tryz.Builder_Extra_169 : Builder.Extra Tryz.prog Tryz.lays169_ren := {
 sizeBuilder := by kernel_rfl
 liesBuilder := by kernel_rfl
 t5 := Tryz.underlying5
 a5 := Tryz.isAgg5
 z5 := Tryz.sizeOf5
 v5 := Tryz.zeroValue5
 infoByte := by kernel_rfl
 cellsByte := by kernel_rfl
 sizeByte := by kernel_rfl
 neB5 := by decide }
open Go.RowKit in
theorem Tryz.Builder_String_any (B b : Nat) (l : List UInt8) (w : World) (h : Lib.IsBuilder 107 5 B b (Lib.byteCells l) w) (hBw : B <= w.heap.size) :
  Calls Tryz.prog 64 #[.pointer (some ⟨b, 0, none⟩)] w fun e w' => e = .returned (.string ⟨l.toArray⟩) /\ Below B w w' := Any.Builder_String_any Tryz.lays169 Tryz.Builder_Extra_169 B b l w h hBw
def Tryz.lays105_ren : Go.Shelf.Ren := ⟨fun | 105 => 59 | 212 => 81 | 99 => 82 | 165 => 83 | 166 => 63 | 170 => 84 | 169 => 64 | 263 => 93 | 264 => 94 | 206 => 95 | 240 => 87 | 241 => 96 | 276 => 97 | 277 => 101 | n => n, fun | 9 => 9 | 3 => 3 | 4 => 4 | 20 => 20 | 0 => 0 | 46 => 104 | 109 => 127 | 5 => 5 | 72 => 107 | 76 => 111 | 51 => 77 | 146 => 136 | 53 => 82 | 148 => 138 | 70 => 105 | 37 => 76 | 75 => 109 | 127 => 133 | 164 => 140 | 80 => 113 | n => n, fun | n => n⟩
theorem Tryz.lays105 : Go.Proofs.Lays.n105 Tryz.prog Tryz.lays105_ren := {
 mixed := by kernel_rfl
 f99 := Tryz.func82.trans (congrArg some (by kernel_rfl))
 f105 := Tryz.func59.trans (congrArg some (by kernel_rfl))
 f165 := Tryz.func83.trans (congrArg some (by kernel_rfl))
 f166 := Tryz.func63.trans (congrArg some (by kernel_rfl))
 f169 := Tryz.func64.trans (congrArg some (by kernel_rfl))
 f170 := Tryz.func84.trans (congrArg some (by kernel_rfl))
 f206 := Tryz.func95.trans (congrArg some (by kernel_rfl))
 f212 := Tryz.func81.trans (congrArg some (by kernel_rfl))
 f240 := Tryz.func87.trans (congrArg some (by kernel_rfl))
 f241 := Tryz.func96.trans (congrArg some (by kernel_rfl))
 f263 := Tryz.func93.trans (congrArg some (by kernel_rfl))
 f264 := Tryz.func94.trans (congrArg some (by kernel_rfl))
 f276 := Tryz.func97.trans (congrArg some (by kernel_rfl))
 f277 := Tryz.func101.trans (congrArg some (by kernel_rfl))
 t0 := Tryz.underlying0
 a0 := Tryz.isAgg0
 z0 := Tryz.sizeOf0
 v0 := Tryz.zeroValue0
 t3 := Tryz.underlying3
 a3 := Tryz.isAgg3
 z3 := Tryz.sizeOf3
 v3 := Tryz.zeroValue3
 t4 := Tryz.underlying4
 a4 := Tryz.isAgg4
 z4 := Tryz.sizeOf4
 v4 := Tryz.zeroValue4
 t5 := Tryz.underlying5
 a5 := Tryz.isAgg5
 z5 := Tryz.sizeOf5
 v5 := Tryz.zeroValue5
 t9 := Tryz.underlying9
 a9 := Tryz.isAgg9
 z9 := Tryz.sizeOf9
 v9 := Tryz.zeroValue9
 t20 := Tryz.underlying20
 a20 := Tryz.isAgg20
 z20 := Tryz.sizeOf20
 v20 := Tryz.zeroValue20
 t37 := Tryz.underlying76
 a37 := Tryz.isAgg76
 z37 := Tryz.sizeOf76
 v37 := Tryz.zeroValue76
 t46 := Tryz.underlying104
 a46 := Tryz.isAgg104
 z46 := Tryz.sizeOf104
 v46 := Tryz.zeroValue104
 t51 := Tryz.underlying77
 a51 := Tryz.isAgg77
 z51 := Tryz.sizeOf77
 v51 := Tryz.zeroValue77
 t53 := Tryz.underlying82
 a53 := Tryz.isAgg82
 z53 := Tryz.sizeOf82
 v53 := Tryz.zeroValue82
 t70 := Tryz.underlying105
 a70 := Tryz.isAgg105
 z70 := Tryz.sizeOf105
 v70 := Tryz.zeroValue105
 t72 := Tryz.underlying107
 a72 := Tryz.isAgg107
 z72 := Tryz.sizeOf107
 v72 := Tryz.zeroValue107
 t75 := Tryz.underlying109
 a75 := Tryz.isAgg109
 z75 := Tryz.sizeOf109
 v75 := Tryz.zeroValue109
 t76 := Tryz.underlying111
 a76 := Tryz.isAgg111
 z76 := Tryz.sizeOf111
 v76 := Tryz.zeroValue111
 t109 := Tryz.underlying127
 a109 := Tryz.isAgg127
 z109 := Tryz.sizeOf127
 v109 := Tryz.zeroValue127
 t127 := Tryz.underlying133
 a127 := Tryz.isAgg133
 z127 := Tryz.sizeOf133
 v127 := Tryz.zeroValue133
 t146 := Tryz.underlying136
 a146 := Tryz.isAgg136
 z146 := Tryz.sizeOf136
 v146 := Tryz.zeroValue136
 t148 := Tryz.underlying138
 a148 := Tryz.isAgg138
 z148 := Tryz.sizeOf138
 v148 := Tryz.zeroValue138
 t164 := Tryz.underlying140
 a164 := Tryz.isAgg140
 z164 := Tryz.sizeOf140
 v164 := Tryz.zeroValue140 }
theorem Tryz.Builder_Extra_105 : Builder.Extra Tryz.prog Tryz.lays105_ren := {
 sizeBuilder := by kernel_rfl
 liesBuilder := by kernel_rfl
 t5 := Tryz.underlying5
 a5 := Tryz.isAgg5
 z5 := Tryz.sizeOf5
 v5 := Tryz.zeroValue5
 infoByte := by kernel_rfl
 cellsByte := by kernel_rfl
 sizeByte := by kernel_rfl
 neB5 := by decide }
open Go.RowKit Go.Lib in
theorem Tryz.strings_Repeat (s : ByteArray) (c : Nat) (w : World) (hc : c <= 9223372036854775807) (hlen : s.size * c <= 140737488355328) :
  Calls Tryz.prog 59 #[.string s, .int .i64 c] w fun e w' => e = .returned (.string ⟨(Lib.repeatL s.data.toList c).toArray⟩) /\ Below w.heap.size w w' := Any.strings_Repeat Tryz.lays105 Tryz.Builder_Extra_105 s c w hc hlen
end Go.Proofs
end
namespace Go.Proofs.YtkiimfgjimoffaaGreatDoor
namespace Am
section
open Go.RowKit
def zx(l:List UInt8):List AV:=l.map fun b=> .int .u8 b.toNat
theorem z2o{k:Nat}:∀(l:List UInt8),RLs k (zx l)
 | []=>by simp [zx,RLs]
 | _::l=>by have:=z2o (k:=k) l;simp only [zx]at this;simp [zx,RLs,RL,this]
theorem Rel.below{C:Ctx}{γ:Places}{O:Store}{w w':World}(h:Rel C γ O w)(hb:Below w.heap.size w w'):Step γ w γ w'/\ Rel C γ O w':=by
 have hs:Step γ w γ w':=⟨fun r fl pl h=>⟨fl,h⟩,hb.size,fun b hb' _=>hb.block b hb',fun r pl h=> .inl ⟨r,pl,h,rfl⟩,hb.os,hb.tape,hb.output⟩
 refine⟨hs,h.len,fun r o hr=> ?_,h.dead,h.inj,fun g cs hg=>(h.gl g cs hg).mono hs⟩
 obtain⟨pl,h1,h2⟩:=h.alive r o hr
 exact⟨pl,h1,h2.mono hs (hb.block _ h2.lt)⟩
theorem ACallsTo.of_calls{C:Ctx}{f:FuncId}{args:List AV}{O:Store}{v:AV}(hc:(cFn C f).isSome=true)
  (h:∀(γ:Places) (w:World) (cargs:List Value),VRt γ w args cargs->Calls C.P f cargs.toArray w fun e w'=>∃cv,e=.returned cv/\ VR γ w' v cv/\ Below w.heap.size w w'):ACallsTo C f args O v O:=by
 obtain⟨e,hc⟩:=Option.isSome_iff_exists.1 hc
 simp only [cFn,Option.bind_eq_some_iff]at hc
 obtain⟨fn,hf,hc⟩:=hc
 split at hc
 ·cases hc
 ·rename_i hname
  simp only [Option.bind_eq_some_iff,Option.map_eq_some_iff]at hc
  obtain⟨c,hb,_⟩:=hc
  intro γ w cargs hR ha
  left
  constructor
  ·have h1:fn.name ≠ "runtime.NumGoroutine" :=by simpa using hname
   simp [callFunc,hf,h1,hb]
  ·refine(h γ w cargs ha).mono ?_
   rintro e w' ⟨cv,rfl,hv,hbl⟩
   obtain⟨s1,s2⟩:=hR.below hbl
   exact⟨cv,γ,rfl,s1,s2,hv⟩
theorem zr7(b:UInt8):∀n,Lib.repeatL [b] n=List.replicate n b:=by
 intro n
 induction n with
 |zero=>simp [Lib.repeatL]
 |succ n ih=>simp [Lib.repeatL,List.replicate_succ]at ih ⊢ <;>simp [ih]
theorem zie(O:Store)(b:UInt8)(c:Nat)(h:c<=1000000):ACallsTo TC 59 [.str [b],.int .i64 c] O (.str (List.replicate c b)) O:=by
 refine ACallsTo.of_calls (by kernel_rfl) ?_
 intro γ w cargs ha
 simp only [VRt,VR]at ha
 obtain⟨_,_,rfl,rfl,_,_,rfl,rfl,rfl⟩:=ha
 refine(Tryz.strings_Repeat ⟨[b].toArray⟩ c w (by omega) (by simp [ByteArray.size];omega)).mono ?_
 rintro e w' ⟨rfl,hb⟩
 refine⟨_,rfl,?_,hb⟩
 simp only [VR]
 rw [zr7]
theorem zmj(O:Store)(s:List UInt8)(h:s.length<1000000000000):ACallsTo TC 39 [.str s] O (.str (padS s)) O:=by
 refine ACallsTo.of_body qeok (by simp) fun hw _=> ?_
 obtain⟨z,hz⟩:∃z:Nat,z=(119-s.length%64)%64:=⟨_,rfl⟩
 have hz64:z<64:=by rw [hz];exact Nat.mod_lt _ (by decide)
 have hz2:(119-(s.length:Int)%64)%64=z:=by omega
 have hp:putS ((s.length:Int)*8) 8=be 8 (s.length*8):=by
  unfold putS
  rw [if_pos (by omega)]
  rfl
 have hpl:(be 8 (s.length*8)).length=8:=z3c _ _
 repeat' (first|apply zs_|apply zb_|apply zc_|apply zt_ rfl|apply zf_ rfl|(apply zd_ rfl<;>intro ht<;>try omega)|((first|apply zr_|apply zk_|apply ze_|apply zq_|(apply callW.mk_pu;(first|exact(fun _=>zie _ 0 z (by omega))|exact(fun _=>z6h _ ((s.length:Int)*8) 8 (by omega) (by omega))))|(apply callW.za;(first|exact(zie _ 0 z (by omega))|exact(z6h _ ((s.length:Int)*8) 8 (by omega) (by omega))))|(apply zG<;>intro ht));all_goals try simp (disch:=first|omega|(simp only [lens];first|done|omega)) only [go_sem,hz2,hp,hpl,List.length_replicate]))
 have e:s++([128]++(List.replicate z 0++be 8 (s.length*8)))=padS s:=by unfold padS;rw [<-hz];rfl
 rw [show s++128::(List.replicate z 0++be 8 (s.length*8))=padS s by unfold padS;rw [<-hz]]
 exact DownV.same hw (z13 _ rfl)
theorem zhl(s:List UInt8):(padS s).length%64=0/\ (padS s).length<s.length+80:=by
 unfold padS
 simp only [List.length_append,List.length_cons,List.length_replicate,z3c]
 omega
theorem zmu:zcn=v0.c8:=rfl
theorem put4(x:W):putS (x.toNat:Int) 4=be 4 x.toNat:=by
 unfold putS
 rw [if_pos (by omega)]
 rfl
theorem mix_c8(O:Store)(v:V8)(s:List UInt8)(h:64<=s.length)(hs:s.length<9223372036854775808):ACallsTo TC 40 [.agg v.c8,.str s] O (.agg (mixS v s).c8) O:=mix_to O v s h hs
theorem zmn{l:List W}{j:Nat}(h:j<l.length):(l.flatMap fun x=>be 4 x.toNat).take (4*j)++be 4 (l[j]).toNat=(l.flatMap fun x=>be 4 x.toNat).take (4*(j+1)):=by
 induction l generalizing j with
 |nil=>simp at h
 |cons x l ih=>
  have hb:(be 4 x.toNat).length=4:=z3c _ _
  rw [List.flatMap_cons]
  cases j with
  |zero=>
   simp only [Nat.mul_zero,List.take_zero,List.nil_append,List.getElem_cons_zero,Nat.zero_add,Nat.mul_one]
   rw [List.take_append_of_le_length (by omega),List.take_of_length_le (by omega)]
  |succ j=>
   simp only [List.length_cons]at h
   have e1:(be 4 x.toNat).take (4*(j+1))=be 4 x.toNat:=List.take_of_length_le (by omega)
   have e2:(be 4 x.toNat).take (4*(j+1+1))=be 4 x.toNat:=List.take_of_length_le (by omega)
   rw [List.getElem_cons_succ,List.take_append,List.take_append,e1,e2,hb,List.append_assoc,show 4*(j+1)-4=4*j by omega,show 4*(j+1+1)-4=4*(j+1)by omega,ih (by omega)]
theorem z4p(v:V8):(outV v).length=32:=by
 simp [outV,V8.l,z3c]
def z3y(v:V8)(j:Nat):List AV:=zx ((outV v).take (4*j))++List.replicate (32-4*j) (.int .u8 0)
theorem zu(l:List UInt8):(zx l).length=l.length:=by simp [zx]
theorem zn5(v:V8){j:Nat}(h:j<=8):(z3y v j).length=32:=by
 simp [z3y,zu,z4p];omega
theorem zf8(l:List UInt8):(zh l).flatten=zx l:=by
 induction l with
 |nil=>rfl
 |cons b l ih=>simp [zh,zx,B8]at ih ⊢;exact ih
theorem zn6(v:V8){j:Nat}(h:j<8):z19 (z3y v j) (4*j) (zx (be 4 (wat v.l j).toNat))=z3y v (j+1):=by
 have hl:v.l.length=8:=rfl
 have e:=zmn (l:=v.l) (j:=j) (by omega)
 have hw:wat v.l j=v.l[j]'(by omega):=by simp [wat,List.getD_eq_getElem?_getD,List.getElem?_eq_getElem (show j<v.l.length by omega)]
 have h1:(zx ((outV v).take (4*j))).length=4*j:=by rw [zu,List.length_take,z4p];omega
 have h2:(zx (be 4 (wat v.l j).toNat)).length=4:=by rw [zu,z3c]
 unfold z19 z3y
 rw [List.take_append_of_le_length (by omega),List.take_of_length_le (by omega),List.drop_append,List.drop_of_length_le (by omega),h1,h2,List.nil_append]
 rw [show 4*j+4-4*j=4 by omega,List.drop_replicate,show 32-4*j-4=32-4*(j+1)by omega]
 congr 1
 unfold zx
 rw [<-List.map_append]
 congr 1
 rw [hw]
 exact e
theorem z7r(O:Store)(s:List UInt8)(h:s.length<100000000000):ACallsTo TC 21 [.str s] O (.agg (zx (shaS s))) O:=by
 obtain⟨p,hp⟩:∃p,p=padS s:=⟨_,rfl⟩
 obtain⟨hp1,hp2⟩:=zhl s
 rw [<-hp]at hp1 hp2
 obtain⟨N,hN⟩:∃N,p.length=64*N:=⟨p.length/64,by omega⟩
 obtain⟨V,hV⟩:∃V,V=blocks N v0 p:=⟨_,rfl⟩
 have hS:shaS s=outV V:=by
  unfold shaS
  rw [<-hp,hV]
  have:p.length/64=N:=by omega
  rw [this]
 rw [hS]
 have hf:=fun O=>zmj O s (by omega)
 rw [<-hp]at hf
 refine ACallsTo.of_body qbok (by simp) fun hw _=> ?_
 repeat' (first|apply zs_|apply zb_|apply zc_|apply zt_ rfl|apply zf_ rfl|(apply zd_ rfl<;>intro ht<;>try omega)|((first|apply zr_|apply zk_|apply ze_|apply zq_|(apply callW.mk_pu;(first|exact(fun _=>hf _)))|(apply callW.za;(first|exact(hf _)))|(apply zG<;>intro ht));all_goals try simp (disch:=first|omega|(simp only [lens];first|done|omega)) only [go_sem,zmu,V8.c8]))
 refine zW.loop (fun m Z O'=>∃u q,q.length=64*m/\ q.length<=p.length/\ blocks m u q=V/\ Z 2=.ptr O.length 0 0/\ Z 3=.ptr (O.length+1) 0 0/\ Z 4=.str q/\ O'=O++ [some [zx (List.replicate 32 0)],some [u.c8]]) N ?_ ?_
 ·exact⟨v0,p,hN,Nat.le_refl _,hV.symm,by simp (disch:=first|omega|(simp only [lens];first|done|omega)) only [go_sem],by simp (disch:=first|omega|(simp only [lens];first|done|omega)) only [go_sem],by simp (disch:=first|omega|(simp only [lens];first|done|omega)) only [go_sem],rfl⟩
 ·rintro m Z O' ⟨u,q,hq,hqp,hb,q2,q3,q4,rfl⟩
  have hz:(zx (List.replicate 32 0)).length=32:=rfl
  cases m with
  |succ m=>
   have hne:(q==[])=false:=by cases q with
    |nil=>simp at hq
    |cons a q=>rfl
   have hmix:=fun O=>mix_c8 O u (q.take 64) (by rw [List.length_take];omega) (by rw [List.length_take];omega)
   obtain⟨M,hM⟩:∃M,M=mixS u (q.take 64):=⟨_,rfl⟩
   rw [<-hM]at hmix
   have hb2:blocks m M (q.drop 64)=V:=by rw [hM];exact hb
   unfold V8.c8 at hmix
   repeat' (first|refine zs_ ?_|refine zb_ ?_|refine zc_ ?_|refine zt_ rfl ?_|refine zf_ rfl ?_|(refine zd_ rfl (fun ht=> ?_) (fun ht=> ?_)<;>try (exfalso;omega))|((first|refine zW.regS ?_|refine zk_ ?_|refine ze_ ?_|refine zq_ ?_|(apply callW.mk_pu;(first|exact(fun _=>hmix _)))|(apply callW.za;(first|exact(hmix _)))|(apply zG<;>intro ht));all_goals try simp (disch:=first|omega|(simp only [lens];first|done|omega)) only [go_sem,q2,q3,q4,hne,V8.c8]))
   refine⟨m,by omega,M,q.drop 64,by rw [List.length_drop];omega,by rw [List.length_drop];omega,hb2,rfl,rfl⟩
  |zero=>
   have hq0:q=[]:=List.eq_nil_of_length_eq_zero (by omega)
   subst hq0
   have hu:u=V:=hb
   subst hu
   repeat' (first|apply zs_|apply zb_|apply zc_|apply zt_ rfl|apply zf_ rfl|(apply zd_ rfl<;>intro ht<;>try omega)|((first|apply zr_|apply zk_|apply ze_|apply zq_|(apply zG<;>intro ht));all_goals try simp (disch:=first|omega|(simp only [lens];first|done|omega)) only [go_sem,q2,q3,q4,V8.c8]))
   refine zW.loop (fun m Z O'=>∃j:Nat,m+j=8/\ Z 2=.ptr O.length 0 0/\ Z 5=.ptr (O.length+2) 0 0/\ Z 19=.agg u.c8/\ Z 20=.int .i64 j/\ O'=O++ [some [zx (List.replicate 32 0)],some [u.c8],some [z3y u j]]) 8 ?_ ?_
   ·exact⟨0,by omega,by simp (disch:=first|omega|(simp only [lens];first|done|omega)) only [go_sem,q2],by simp (disch:=first|omega|(simp only [lens];first|done|omega)) only [go_sem],by simp (disch:=first|omega|(simp only [lens];first|done|omega)) only [go_sem];rfl,by simp (disch:=first|omega|(simp only [lens];first|done|omega)) only [go_sem];rfl,rfl⟩
   ·clear q2 q3 q4
    rintro m Z O' ⟨j,hm,q2,q5,q19,q20,rfl⟩
    have hlen:=zn5 u (j:=j) (by omega)
    have h8:u.c8.length=8:=rfl
    by_cases hj:j<8
    ·have hst:=zn6 u hj
     have hw:=z7u (w:=u.l) (i:=j) (by simpa [V8.l]using hj)
     rw [ws_l]at hw
     generalize wat u.l j=x at*
     generalize z3y u j=cc at*
     generalize hcc:z3y u (j+1)=cc' at*
     have hx:x.toNat<4294967296:=x.isLt
     have hb4:(be 4 x.toNat).length=4:=z3c _ _
     have ht4:(zh (be 4 x.toNat)).take (32-4*j)=zh (be 4 x.toNat):=List.take_of_length_le (by rw [z8,hb4];omega)
     have hn4:(4*(j:Int)).toNat=4*j:=by omega
     repeat' (first|refine zs_ ?_|refine zb_ ?_|refine zc_ ?_|refine zt_ rfl ?_|refine zf_ rfl ?_|(refine zd_ rfl (fun ht=> ?_) (fun ht=> ?_)<;>try (exfalso;omega))|((first|refine zW.regS ?_|refine zk_ ?_|refine ze_ ?_|refine zq_ ?_|(apply callW.mk_pu;(first|exact(fun _=>z6h _ _ _ (by omega) (by omega))))|(apply callW.za;(first|exact(z6h _ _ _ (by omega) (by omega))))|(apply zG<;>intro ht));all_goals try simp (disch:=first|omega|(simp only [lens];first|done|omega)) only [go_sem,q2,q5,q19,q20,hlen,h8,hw,put4,hb4,ht4,hst,hn4,zf8]))
     unfold z19 at hst
     rw [List.append_assoc]at hst
     exact⟨8-(j+1),by omega,j+1,by omega,by simp,by rw [hst,hcc]⟩
    ·obtain rfl:j=8:=by omega
     have e8:z3y u 8=zx (outV u):=by
      unfold z3y
      rw [List.take_of_length_le (by rw [z4p];decide)]
      exact List.append_nil _
     have hd:List.drop 32 (zx (List.replicate 32 0))=[]:=rfl
     have hl:(zx (outV u)).length=32:=by rw [zu,z4p]
     rw [e8]at*
     repeat' (first|apply zs_|apply zb_|apply zc_|apply zt_ rfl|apply zf_ rfl|(apply zd_ rfl<;>intro ht<;>try omega)|((first|apply zr_|apply zk_|apply ze_|apply zq_|(apply zG<;>intro ht));all_goals try simp (disch:=first|omega|(simp only [lens];first|done|omega)) only [go_sem,q2,q5,q19,q20,hl,h8,hd]))
     exact DownV.pure hw (z43 (z2o _))
end
end Am
end Go.Proofs.YtkiimfgjimoffaaGreatDoor
section
/- strings.Builder: the contracts of copyCheck and String over the abstract store. -/
namespace Go.Proofs
open Go.Shelf Go.RowKit
def Tryz.lays240_ren:Go.Shelf.Ren:=⟨fun| 240=>87| 276=>97|n=>n,fun| 0=>0| 4=>4| 9=>9| 20=>20| 70=>105| 72=>107| 164=>140| 37=>76|n=>n,fun|n=>n⟩
theorem Tryz.lays240:Go.Proofs.Lays.n240 Tryz.prog Tryz.lays240_ren:={
 mixed:=by kernel_rfl
 f240:=Tryz.func87.trans (congrArg some (by kernel_rfl))
 f276:=Tryz.func97.trans (congrArg some (by kernel_rfl))
 t0:=Tryz.underlying0
 a0:=Tryz.isAgg0
 z0:=Tryz.sizeOf0
 v0:=Tryz.zeroValue0
 t4:=Tryz.underlying4
 a4:=Tryz.isAgg4
 z4:=Tryz.sizeOf4
 v4:=Tryz.zeroValue4
 t9:=Tryz.underlying9
 a9:=Tryz.isAgg9
 z9:=Tryz.sizeOf9
 v9:=Tryz.zeroValue9
 t20:=Tryz.underlying20
 a20:=Tryz.isAgg20
 z20:=Tryz.sizeOf20
 v20:=Tryz.zeroValue20
 t70:=Tryz.underlying105
 a70:=Tryz.isAgg105
 z70:=Tryz.sizeOf105
 v70:=Tryz.zeroValue105
 t72:=Tryz.underlying107
 a72:=Tryz.isAgg107
 z72:=Tryz.sizeOf107
 v72:=Tryz.zeroValue107
 t164:=Tryz.underlying140
 a164:=Tryz.isAgg140
 z164:=Tryz.sizeOf140
 v164:=Tryz.zeroValue140 }
theorem Tryz.x72_240:Builder.X72 Tryz.prog Tryz.lays240_ren:={
 sizeBuilder:=by kernel_rfl
 liesBuilder:=by kernel_rfl }
section
variable {P:Program} {Z:Ren}
set_option maxRecDepth 100000 in
theorem Tryz.string_ex(L:Lays.n169 P Z)(X:Builder.Extra P Z)(b g cap:Nat)(cur:Array Value)(p:Value)(fb fg:Nat × Nat)(l:List UInt8)(w:World)(h0:l ≠ [])
  (hbk:w.heap[b]? =some (.cells #[p,.slice (some ⟨g,0,none⟩) l.length cap] (Z.t 72) fb)) (hg:w.heap[g]? =some (.cells cur (Z.t 5) fg)) (hnc:l.length<=cap) (hcs:l.length<=cur.size) (hln:l.length<=9223372036854775807)
  (hcl:∀j x,l[j]? =some x->w.cell? ((⟨g,0,none⟩:Addr).add j)=some (.int .u8 x.toNat)):
  Calls P (Z.f 169) #[.pointer (some ⟨b,0,none⟩)] w fun e w'=>e=.returned (.string ⟨l.toArray⟩)/\ w'=w.drew.freeze ⟨g,0,none⟩ l.length:=by
 have hl0:l.length ≠ 0:=by simpa using h0
 have c1:w.drew.cell? ⟨b,1,none⟩=some (.slice (some ⟨g,0,none⟩) l.length cap):=by
  have:w.drew.heap[b]? =some (.cells #[p,.slice (some ⟨g,0,none⟩) l.length cap] (Z.t 72) fb):=hbk
  rw [Lib.cell_of_heap this];rfl
 have hSD:(Builtin.unsafeSliceData_ #[(Z.t 37)] (Z.t 127) #[.slice (some ⟨g,0,none⟩) l.length cap]).run P w.drew=.ok (.pointer (some ⟨g,0,none⟩)) w.drew:=
  Lib.run_unsafeSliceData_row _ _ _ _ _ _ (by omega)
 have hUS:(Builtin.unsafeString_ #[(Z.t 127),(Z.t 3)] (Z.t 9) #[.pointer (some ⟨g,0,none⟩),.int .i64 l.length]).run P w.drew=.ok (.string ⟨l.toArray⟩) (w.drew.freeze ⟨g,0,none⟩ l.length):=
  Lib.run_unsafeString_row w.drew (Z.t 127) (Z.t 3) (Z.t 9) (Z.t 5) L.t127 X.cellsByte g cur.size (by have hg':w.drew.heap[g]? =some (.cells cur (Z.t 5) fg):=hg;simp [World.shape?,hg']) l h0 hcs hln hcl
 have mixed:=L.mixed
 have t72:=L.t72;have a72:=L.a72;have z72:=L.z72;have v72:=L.v72;have u72:=run_underlying L.t72
 have t70:=L.t70;have a70:=L.a70;have z70:=L.z70;have v70:=L.v70;have u70:=run_underlying L.t70
 have t37:=L.t37;have a37:=L.a37;have z37:=L.z37;have v37:=L.v37;have u37:=run_underlying L.t37
 have t127:=L.t127;have a127:=L.a127;have z127:=L.z127;have v127:=L.v127;have u127:=run_underlying L.t127
 have t3:=L.t3;have a3:=L.a3;have z3:=L.z3;have v3:=L.v3;have u3:=run_underlying L.t3
 have t9:=L.t9;have a9:=L.a9;have z9:=L.z9;have v9:=L.v9;have u9:=run_underlying L.t9
 have t5:=X.t5;have a5:=X.a5;have z5:=X.z5;have v5:=X.v5;have u5:=run_underlying X.t5
 clear hcl hcs hln hg hbk hnc
 go_enter L.f169,Body.n169_ntmps Z
 go_wp2
 go_region_o
 all_goals (go_wp2;go_ret;exact⟨rfl,rfl⟩)
end
end Go.Proofs
namespace Go.Proofs.YtkiimfgjimoffaaGreatDoor
namespace Am
open Go.RowKit
section
variable {C:Ctx} {γ:Places} {O:Store} {w w':World}
theorem Rel.lose(h:Rel C γ O w){r:Nat}{pl:Place}(hr:γ[r]? =some (true,pl))(hsz:w'.heap.size=w.heap.size)(hother:∀b,b ≠ pl.b->w'.heap[b]? =w.heap[b]?)(ho:w'.os=w.os)(ht:w'.tape=w.tape)(hp:w'.output=w.output):
  Step γ w (γ.set r (false,pl)) w'/\ Rel C (γ.set r (false,pl)) (O.set r none) w':=by
 obtain⟨k1,k2⟩:=h.kill hr
 have hrl:r<γ.length:=(List.getElem?_eq_some_iff.1 hr).1
 have hs:Step γ w (γ.set r (false,pl)) w':=⟨k1.keep,by omega,fun b _ hn=>hother b fun e=>hn r pl hr e.symm,fun q x hx=>by
  rcases k1.new q x hx with h|h
  ·exact .inl h
  ·exact .inr h,ho,ht,hp⟩
 refine⟨hs,by simp [h.len],fun q o hq=> ?_,fun q hq=>k2.dead q hq,fun q q' x x' h1 h2 h3=>k2.inj q q' x x' h1 h2 h3,fun g cs hg=>(h.gl g cs hg).mono hs⟩
 by_cases e:r=q
 ·subst e
  rw [List.getElem?_set_self (by rw [<-h.len];exact hrl)]at hq;cases hq
 ·rw [List.getElem?_set_ne e]at hq
  obtain⟨x,h1,h2⟩:=h.alive q o hq
  exact⟨x,by rw [List.getElem?_set_ne e];exact h1,h2.mono hs (hother _ fun e'=>e (h.inj r q pl x hr h1 e'.symm))⟩
theorem Rel.bld_at(hR:Rel C γ O w){r:Nat}{x:AV}(hr:O[r]? =some (some [[.bld r,x]])):∃(pl:Place) (v0 v1:Value) (fz:Nat × Nat),γ[r]? =some (true,pl)/\ pl.base=0/\ pl.esz=2/\ w.heap[pl.b]? =some (.cells #[v0,v1] bldT fz) ∧
  (v0=.pointer none \/v0=.pointer (some ⟨pl.b,0,none⟩))/\ VR γ w x v1/\ (∀k,k<2->(decide (fz.1<=k) && decide (k<fz.2))=false):=by
 obtain⟨pl,hpl,hok⟩:=hR.alive r _ hr
 obtain⟨c,ty,fz,pre,mid,post,q1,q2,q3,q4,q5,q6⟩:=hok.ex
 simp only [List.flatten_cons,List.flatten_nil,List.append_nil,VRs]at q5
 obtain⟨v0,_,rfl,⟨k1,_⟩,v1,_,rfl,⟨k2,_⟩,rfl⟩:=q5
 simp only [VR]at k1
 obtain⟨fl,pl',hpl',⟨e1,e2,e3,e4,e5⟩,k3⟩:=k1
 rw [hpl]at hpl';cases hpl'
 have hty:ty=bldT:=by
  obtain⟨c0,fz0,h0⟩:=hok.tyk
  rw [q1]at h0;cases h0;exact e1
 have hpre:pre=[]:=List.eq_nil_of_length_eq_zero (by omega)
 subst hpre
 have hlen:c.toList.length=2:=by rw [Array.length_toList,q4,e5]
 have hpost:post=[]:=by
  rw [q2]at hlen
  simpa using hlen
 subst hpost
 have hc:c= #[v0,v1]:=by
  apply Array.ext'
  rw [q2];rfl
 subst hc hty
 exact⟨pl,v0,v1,fz,hpl,e2,e3,q1,k3,k2,fun k hk=>q6.1.lt k (by omega)⟩
end
theorem zrv{O:Store}{r:Nat}{x:Option AObj}(h:O[r]? =some x):O.set r x=O:=by
 apply List.ext_getElem?
 intro i
 by_cases e:r=i
 ·subst e
  rw [List.getElem?_set_self (List.getElem?_eq_some_iff.1 h).1,h]
 ·rw [List.getElem?_set_ne e]
theorem zcc(O:Store)(r:Nat)(x:AV)(hr:O[r]? =some (some [[.bld r,x]])):ACallsTo TC 87 [.ptr r 0 0] O (.tup []) O:=by
 obtain⟨e,hc⟩:=Option.isSome_iff_exists.1 (show (cFn TC 87).isSome=true by kernel_rfl)
 simp only [cFn,Option.bind_eq_some_iff]at hc
 obtain⟨fn,hf,hc⟩:=hc
 split at hc
 ·cases hc
 ·rename_i hname
  simp only [Option.bind_eq_some_iff,Option.map_eq_some_iff]at hc
  obtain⟨c,hb,_⟩:=hc
  intro γ w cargs hR ha
  left
  constructor
  ·have h1:fn.name ≠ "runtime.NumGoroutine" :=by simpa using hname
   simp [callFunc,hf,h1,hb]
  ·obtain⟨pl,v0,v1,fz,hpl,hb0,hez,hw,hv0,hv1,hfz⟩:=hR.bld_at hr
   simp only [VRt,VR]at ha
   obtain⟨_,_,rfl,⟨fl,pl',hpl',rfl⟩,rfl⟩:=ha
   rw [hpl]at hpl';cases hpl'
   have ea:pl.base+0*pl.esz+0=0:=by rw [hb0];omega
   rw [ea]
   have hcell:w.cell? ⟨pl.b,0,none⟩=some v0:=by rw [Lib.cell_of_heap hw];rfl
   rcases hv0 with rfl|rfl
   ·refine(Any.Builder_copyCheck_fresh Tryz.lays240 Tryz.x72_240 pl.b w hcell (by simp [World.shape?,hw];rfl) (by simp only [World.frozen?,hw];exact hfz 0 (by omega))).mono ?_
    rintro e w' ⟨rfl,rfl⟩
    obtain⟨w2,k1,k2,k3⟩:=hR.storeElem (i:=0) (off:=0) (vs:=[.bld r]) (vals:=[.pointer (some ⟨pl.b,0,none⟩)]) hr hpl rfl (by simp) (VRs.one ⟨by
     simp only [VR]
     obtain⟨pl2,hpl2,hok⟩:=hR.alive r _ hr
     rw [hpl]at hpl2;cases hpl2
     obtain⟨c,ty,fz2,pre,mid,post,q1,q2,q3,q4,q5,q6⟩:=hok.ex
     simp only [List.flatten_cons,List.flatten_nil,List.append_nil,VRs,VR]at q5
     obtain⟨u0,_,_,⟨⟨fl3,pl3,hpl3,k,_⟩,_⟩,_⟩:=q5
     rw [hpl]at hpl3;cases hpl3
     exact⟨true,pl,hpl,k,.inr rfl⟩,rfl⟩)
    rw [ea]at k1
    have e2:w2=w.setCell ⟨pl.b,0,none⟩ (.pointer (some ⟨pl.b,0,none⟩)):=by
     have hfr:w.frozen? ⟨pl.b,0,none⟩=false:=by simp only [World.frozen?,hw];exact hfz 0 (by omega)
     have hst:(store ⟨pl.b,0,none⟩ (.pointer (some ⟨pl.b,0,none⟩))).run TC.P w=.ok () (w.setCell ⟨pl.b,0,none⟩ (.pointer (some ⟨pl.b,0,none⟩))):=by
      rw [run_store TC.P w _ _ _ rfl,hcell];simp [hfr]
     have:=k1
     simp only [storeCells,z2s,Nat.add_zero,Sem.run_bind,hst,Result.andThen_ok,Sem.run_pure,Result.ok.injEq,true_and]at this
     exact this.symm
    rw [<-e2]
    have e3:O.set r (some ([[.bld r,x]].set 0 (z19 [.bld r,x] 0 [.bld r])))=O:=by
     have:([[AV.bld r,x]]:List (List AV)).set 0 (z19 [.bld r,x] 0 [.bld r])=[[.bld r,x]]:=by simp [z19]
     rw [this]
     exact zrv hr
    rw [e3]at k3
    exact⟨_,γ,rfl,k2,k3,by simp only [VR];exact⟨[],rfl,VRt.nil⟩⟩
   ·refine(Any.Builder_copyCheck_used Tryz.lays240 Tryz.x72_240 pl.b w hcell).mono ?_
    rintro e w' ⟨rfl,rfl⟩
    exact⟨_,γ,rfl,Step.refl _ _,hR,by simp only [VR];exact⟨[],rfl,VRt.nil⟩⟩
theorem zbw(O:Store)(r rb:Nat)(s:List UInt8)(h0:s ≠ [])(hs:s.length<=1073741824)(h1:O[r]? =some (some [[.bld r,.bsl rb s.length]]))(h2:O[rb]? =some (some (zh s))):
  ACallsTo TC 64 [.ptr r 0 0] O (.str s) (O.set rb none):=by
 obtain⟨e,hc⟩:=Option.isSome_iff_exists.1 (show (cFn TC 64).isSome=true by kernel_rfl)
 simp only [cFn,Option.bind_eq_some_iff]at hc
 obtain⟨fn,hf,hc⟩:=hc
 split at hc
 ·cases hc
 ·rename_i hname
  simp only [Option.bind_eq_some_iff,Option.map_eq_some_iff]at hc
  obtain⟨c,hb,_⟩:=hc
  intro γ w cargs hR ha
  left
  constructor
  ·have h1:fn.name ≠ "runtime.NumGoroutine" :=by simpa using hname
   simp [callFunc,hf,h1,hb]
  ·obtain⟨pl,v0,v1,fz,hpl,hb0,hez,hw,hv0,hv1,hfz⟩:=hR.bld_at h1
   simp only [VRt,VR]at ha
   obtain⟨_,_,rfl,⟨fl,pl',hpl',rfl⟩,rfl⟩:=ha
   rw [hpl]at hpl';cases hpl'
   have ea:pl.base+0*pl.esz+0=0:=by rw [hb0];omega
   rw [ea]
   simp only [VR]at hv1
   obtain⟨fl2,pb,cap,hpb,⟨t1,t2,t3⟩,rfl,hso⟩:=hv1
   obtain⟨pb',hpb',hok⟩:=hR.alive rb _ h2
   rw [hpb]at hpb';cases hpb'
   obtain⟨cur,ty,fg,pre,mid,post,q1,q2,q3,q4,q5,q6⟩:=hok.ex
   have hty:ty=u8T:=by
    obtain⟨c0,fz0,h0⟩:=hok.tyk
    rw [q1]at h0;cases h0;exact t1
   subst hty
   have hpre:pre=[]:=List.eq_nil_of_length_eq_zero (by omega)
   subst hpre
   rw [zbz]at q5
   have hml:=q5.length
   rw [List.length_map]at hml
   have hcs:s.length<=cur.size:=by
    rw [<-Array.length_toList,q2];simp;omega
   refine(Tryz.string_ex Tryz.lays169 Tryz.Builder_Extra_169 pl.b pb.b cap cur v0 fz fg s w h0 hw q1 hso.le hcs (by omega) (fun j x hj=> ?_)).mono ?_
   ·obtain⟨v,k1,k2⟩:=q5.get (i:=j) (a:=B8 x) (by rw [List.getElem?_map,hj];rfl)
    have hv:=k2.1
    simp only [B8,VR]at hv
    rw [z2s,Nat.zero_add,Lib.cell_of_heap q1]
    show cur[j]? =_
    rw [<-Array.getElem?_toList,q2,List.nil_append,List.getElem?_append_left (by
     rcases Nat.lt_or_ge j mid.length with h|h
     ·exact h
     ·simp [List.getElem?_eq_none h]at k1),k1,hv]
   ·rintro e w' ⟨rfl,rfl⟩
    have hz:s.length ≠ 0:=by simpa using h0
    obtain⟨k1,k2⟩:=hR.lose (w':=w.drew.freeze ⟨pb.b,0,none⟩ s.length) hpb (by show (World.freeze w.drew _ _).heap.size=w.drew.heap.size;unfold World.freeze;rw [if_neg hz];exact Array.size_modify) (fun b hb=>by
     show (World.freeze w.drew _ _).heap[b]? =w.drew.heap[b]?
     unfold World.freeze
     rw [if_neg hz]
     simp only [Array.getElem?_modify]
     rw [if_neg (fun e=>hb e.symm)]) (by unfold World.freeze;rw [if_neg hz];rfl) (by unfold World.freeze;rw [if_neg hz];rfl) (by unfold World.freeze;rw [if_neg hz];rfl)
    exact⟨_,_,rfl,k1,k2,by simp only [VR]⟩
end Am
end Go.Proofs.YtkiimfgjimoffaaGreatDoor
end
namespace Go.Proofs.YtkiimfgjimoffaaGreatDoor
namespace Am
section
theorem zk8{k:Nat}(l:List UInt8):RLss k (zh l):=by
 induction l with
 |nil=>simp [zh,RLss]
 |cons b l ih=>simp only [zh,B8]at ih;simp [zh,RLss,B8,RLs,RL,ih]
def OwnB(O O':Store)(v:AV)(b:List UInt8):Prop:=∃news j,O'=O++news/\ v=.sl (O.length+j) 0 b.length none 1/\ news[j]? =some (some (zh b))
theorem OwnB.down{O O':Store}{v:AV}{b:List UInt8}(hw:Wf O.length O)(h:OwnB O O' v b):DownV O.length v O' (.vsl 1 (zh b) false) O:=by
 obtain⟨news,j,rfl,rfl,h⟩:=h
 have hl:(zh b).length=b.length:=z8 b
 have e:((zh b).drop 0).take b.length=zh b:=by rw [List.drop_zero,List.take_of_length_le (by omega)]
 have:=DownV.froze (off:=0) (len:=b.length) (esz:=1) (lim:=none) hw h (by omega) (by rw [e];exact zk8 b)
 rw [e]at this
 exact this
theorem OwnB.app{O O':Store}{r n:Nat}{b c:List UInt8}(h:OwnB O O' (.sl r 0 n none 1) b):OwnB O (O'.set r none++ [some (zh c)]) (.sl O'.length 0 c.length none 1) c:=by
 obtain⟨news,j,rfl,e,h⟩:=h
 simp only [AV.sl.injEq,true_and,and_true]at e
 obtain⟨rfl,rfl⟩:=e
 refine⟨news.set j none++ [some (zh c)],news.length,?_,by simp,?_⟩
 ·rw [List.set_append_right _ _ (by omega),Nat.add_sub_cancel_left,List.append_assoc]
 ·rw [List.getElem?_append_right (by simp)];simp
theorem OwnB.get{O O':Store}{v:AV}{b:List UInt8}(h:OwnB O O' v b):∃r,v=.sl r 0 b.length none 1/\ O'[r]? =some (some (zh b)):=by
 obtain⟨news,j,rfl,rfl,h⟩:=h
 exact⟨_,rfl,by rw [List.getElem?_append_right (by omega),Nat.add_sub_cancel_left];exact h⟩
theorem zf9(b:List UInt8)(x:Nat)(m:Int)(h:m=((x%256:Nat):Int)):zh b++ [[AV.int .u8 m]]=zh (b++ [UInt8.ofNat x]):=by
 subst h
 simp [zh,B8]
theorem zkr(x:Nat){j:Nat}(h:j<8):(be 8 x).take j++ [UInt8.ofNat (x/2^(8*(7-j)))]=(be 8 x).take (j+1):=by
 have e:be 8 x=[UInt8.ofNat (x/256^7),UInt8.ofNat (x/256^6),UInt8.ofNat (x/256^5),UInt8.ofNat (x/256^4),UInt8.ofNat (x/256^3),UInt8.ofNat (x/256^2),UInt8.ofNat (x/256^1),UInt8.ofNat (x/256^0)]:=by
  simp only [z8b]
  rfl
 rw [e]
 have hj:j=0 \/j=1 \/j=2 \/j=3 \/j=4 \/j=5 \/j=6 \/j=7:=by omega
 rcases hj with rfl|rfl|rfl|rfl|rfl|rfl|rfl|rfl<;>rfl
theorem pad_to(O:Store)(s:List UInt8)(h:s.length<1000000000):ACallsTo TC 78 [.str s] O (.vsl 1 (zh (padS s)) false) O:=by
 obtain⟨z,hz⟩:∃z:Nat,z=(119-s.length%64)%64:=⟨_,rfl⟩
 have hz64:z<64:=by rw [hz];exact Nat.mod_lt _ (by decide)
 obtain⟨P,hP⟩:∃P,P=padS s:=⟨_,rfl⟩
 have hP2:P=(s++128::List.replicate z 0)++be 8 (s.length*8):=by rw [hP,padS,hz];simp
 rw [<-hP]
 refine ACallsTo.of_body qcok (by simp) fun hw _=> ?_
 repeat' (first|apply zs_|apply zb_|apply zc_|apply zt_ rfl|apply zf_ rfl|(apply zd_ rfl<;>intro ht<;>try omega)|((first|apply zr_|apply zk_|apply ze_|apply zq_|(apply zG<;>intro ht));all_goals try simp (disch:=first|omega|(simp only [lens];first|done|omega)) only [go_sem]))
 refine zW.loop (fun m Z O'=>∃k:Nat,m+k=z/\ Z 0=.str s/\ OwnB O O' (Z 3) (s++128::List.replicate k 0)) z ?_ ?_
 ·refine⟨0,by omega,by simp (disch:=first|omega|(simp only [lens];first|done|omega)) only [go_sem],?_⟩
  simp (disch:=first|omega|(simp only [lens];first|done|omega)) only [go_sem]
  refine⟨[none,some (zh (s++ [128]))],1,?_,?_,rfl⟩
  ·simp [zh,B8]
  ·simp
 ·rintro m Z O' ⟨k,hm,q0,hO⟩
  obtain⟨r,q3,hg⟩:=hO.get
  have hb:(s++128::List.replicate k 0).length=s.length+1+k:=by simp;omega
  have hbe:=z8 (s++128::List.replicate k 0)
  by_cases hk:k<z
  ·rw [q3]at hO
   rw [hb]at q3 hbe hO
   have e0:zh (s++128::List.replicate k 0)++ [[AV.int .u8 0]]=zh (s++128::List.replicate (k+1) 0):=by
    rw [zf9 _ 0 0 (by simp),List.append_assoc,List.cons_append,List.replicate_succ']
    rfl
   have hO2:=hO.app (c:=s++128::List.replicate (k+1) 0)
   have hc:(s++128::List.replicate (k+1) 0).length=s.length+1+k+1:=by simp;omega
   rw [hc]at hO2
   generalize zh (s++128::List.replicate k 0)=bb at*
   repeat' (first|apply zs_|apply zb_|apply zc_|apply zt_ rfl|apply zf_ rfl|(apply zd_ rfl<;>intro ht<;>try omega)|((first|apply zr_|apply zk_|apply ze_|apply zq_|(apply zG<;>intro ht));all_goals try simp (disch:=first|omega|(simp only [lens];first|done|omega)) only [go_sem,q0,q3,hg,hbe,e0]))
   exact⟨z-(k+1),by omega,k+1,by omega,hO2⟩
  ·obtain rfl:k=z:=by omega
   obtain⟨N,hN⟩:∃N,N=s.length*8:=⟨_,rfl⟩
   have hN2:(s.length:Int)*8=N:=by omega
   have hb8:(be 8 N).length=8:=z3c _ _
   rw [<-hN]at hP2
   rw [hb]at q3 hbe
   have h56:((s.length:Int)+1+k)%64=56:=by omega
   generalize hB:s++128::List.replicate k 0=B at*
   repeat' (first|apply zs_|apply zb_|apply zc_|apply zt_ rfl|apply zf_ rfl|(apply zd_ rfl<;>intro ht<;>try omega)|((first|apply zr_|apply zk_|apply ze_|apply zq_|(apply zG<;>intro ht));all_goals try simp (disch:=first|omega|(simp only [lens];first|done|omega)) only [go_sem,q0,q3,h56,hN2,Int.natCast_add,Int.natCast_one]))
   refine zW.loop (fun m Z O'=>∃j:Nat,m+j=8/\ Z 4=.int .u64 N/\ Z 5=.int .i64 (7-j)/\ OwnB O O' (Z 3) (B++(be 8 N).take j)) 8 ?_ ?_
   ·refine⟨0,by omega,by simp (disch:=first|omega|(simp only [lens];first|done|omega)) only [go_sem],by simp (disch:=first|omega|(simp only [lens];first|done|omega)) only [go_sem];rfl,?_⟩
    simp (disch:=first|omega|(simp only [lens];first|done|omega)) only [go_sem,q3]
    rw [q3]at hO
    exact hO
   ·clear q0 q3 hO hg
    rintro m Z O' ⟨j,hm,q4,q5,hO⟩
    obtain⟨r,q3,hg⟩:=hO.get
    have hl:(B++(be 8 N).take j).length=s.length+1+k+j:=by rw [List.length_append,hb,List.length_take,hb8];omega
    have hbe:=z8 (B++(be 8 N).take j)
    by_cases hj:j<8
    ·rw [q3]at hO
     rw [hl]at q3 hbe hO
     have hO2:=hO.app (c:=B++(be 8 N).take (j+1))
     have hc:(B++(be 8 N).take (j+1)).length=s.length+1+k+j+1:=by rw [List.length_append,hb,List.length_take,hb8];omega
     rw [hc]at hO2
     have hs:(8*(7-(j:Int))).toNat=8*(7-j):=by omega
     have e0:zh (B++(be 8 N).take j)++ [[AV.int .u8 ((N:Int)/2^(8*(7-j))%256)]]=zh (B++(be 8 N).take (j+1)):=by
      rw [zf9 _ (N/2^(8*(7-j))) _ (by rw [Int.natCast_emod,Int.natCast_ediv,Int.natCast_pow];rfl),List.append_assoc,zkr N hj]
     generalize zh (B++(be 8 N).take j)=bb at*
     repeat' (first|apply zs_|apply zb_|apply zc_|apply zt_ rfl|apply zf_ rfl|(apply zd_ rfl<;>intro ht<;>try omega)|((first|apply zr_|apply zk_|apply ze_|apply zq_|(apply zG<;>intro ht));all_goals try simp (disch:=first|omega|(simp only [lens];first|done|omega)) only [go_sem,q3,q4,q5,hg,hbe,hs,e0]))
     exact⟨8-(j+1),by omega,j+1,by omega,by rw [show (7:Int)-((j+1:Nat):Int)=7-j-1 by omega],hO2⟩
    ·obtain rfl:j=8:=by omega
     have e8:B++(be 8 N).take 8=P:=by rw [List.take_of_length_le (by omega)];exact hP2.symm
     rw [e8]at hO q3
     repeat' (first|apply zs_|apply zb_|apply zc_|apply zt_ rfl|apply zf_ rfl|(apply zd_ rfl<;>intro ht<;>try omega)|((first|apply zr_|apply zk_|apply ze_|apply zq_|(apply zG<;>intro ht));all_goals try simp (disch:=first|omega|(simp only [lens];first|done|omega)) only [go_sem,q3,q5]))
     rw [q3]at hO
     exact hO.down hw
end
section
def z32:List AV:=zx (List.replicate 32 0)
def mkS(τ:Store)(u:V8)(cells:List AV):Store:=τ++ [some [z32],some [gl_sha_rounds],some [u.c8],some [cells]]
def Rk(Z:Env)(a:Nat)(p:List UInt8)(n:Nat):Prop:=
 Z 2=.ptr a 0 0/\ Z 3=.ptr (a+1) 0 0/\ Z 4=.ptr (a+2) 0 0/\ Z 5=.vsl 1 (zh p) false/\ Z 6=.ptr (a+3) 0 0/\ Z 7=.int .i64 n
theorem zfk{w:List W}{x:W}{n:Nat}{rest:List AV}(h:w.length=n)(hr:0<rest.length):(ws w++rest).take n++AV.int .u32 x.toNat::(ws w++rest).drop (n+1)=ws (w++ [x])++rest.drop 1:=by
 have hl:(ws w).length=n:=by rw [z3v,h]
 rw [List.take_append_of_le_length (by omega),List.take_of_length_le (by omega),List.drop_append,List.drop_of_length_le (by omega),hl]
 rw [show n+1-n=1 by omega,List.nil_append]
 simp [ws,wc]
theorem ztn{p:List UInt8}{n i:Nat}(h:n+4*i+4<=p.length)(hi:i<16):
  ((p.getD (n+4*i) 0).toNat:Int)*16777216+(p.getD (n+4*i+1) 0).toNat*65536+(p.getD (n+4*i+2) 0).toNat*256+(p.getD (n+4*i+3) 0).toNat=((zj ((p.drop n).take 64) i).toNat:Int):=by
 have e:((((p.drop n).take 64).drop (4*i)).take 4)=[p.getD (n+4*i) 0,p.getD (n+4*i+1) 0,p.getD (n+4*i+2) 0,p.getD (n+4*i+3) 0]:=by
  rw [List.drop_take,List.take_take,List.drop_drop,show min 4 (64-4*i)=4 by omega]
  obtain⟨A,hA⟩:∃A,A=p.drop (n+4*i):=⟨_,rfl⟩
  have g:∀k,p.getD (n+4*i+k) 0=A.getD k 0:=by
   intro k
   rw [hA,List.getD_eq_getElem?_getD,List.getD_eq_getElem?_getD,List.getElem?_drop]
  have g0:=g 0
  rw [Nat.add_zero]at g0
  rw [g0,g 1,g 2,g 3,<-hA]
  have hl:4<=A.length:=by rw [hA,List.length_drop];omega
  match A,hl with
  |a::b::c::d::A,_=>rfl
 unfold zj
 rw [e]
 generalize p.getD (n+4*i) 0=a
 generalize p.getD (n+4*i+1) 0=b
 generalize p.getD (n+4*i+2) 0=c
 generalize p.getD (n+4*i+3) 0=d
 have h1:=a.toNat_lt
 have h2:=b.toNat_lt
 have h3:=c.toNat_lt
 have h4:=d.toNat_lt
 simp only [getS,val,List.take_of_length_le (show [a,b,c,d].length<=8 by simp),List.foldl_cons,List.foldl_nil,BitVec.toNat_ofNat]
 omega
section
variable {k:Nat} {Q:AExit->Env->Store->Prop} {Z:Env} {τ:Store} {u:V8} {p:List UInt8} {n:Nat}
theorem zr6{cells:List AV}(K:Rk Z τ.length p n)(hp:n+64<=p.length)(hpl:p.length<2000000000)(hc:cells.length=64)
  (hQ:∀Z' rest,rest.length=48->Rk Z' τ.length p n->Q .normal Z' (mkS τ u (ws (z12 ((p.drop n).take 64) 16)++rest))):zW TC 252 k qac21 Q Z (mkS τ u cells):=by
 obtain⟨k2,k3,k4,k5,k6,k7⟩:=K
 obtain⟨q,hq⟩:∃q,q=(p.drop n).take 64:=⟨_,rfl⟩
 rw [<-hq]at hQ
 repeat' (first|apply zs_|apply zb_|apply zc_|apply zt_ rfl|apply zf_ rfl|(apply zd_ rfl<;>intro ht<;>try omega)|((first|apply zr_|apply zk_|apply ze_|apply zq_|(apply zG<;>intro ht));all_goals try simp (disch:=first|omega|(simp only [lens];first|done|omega)) only [go_sem]))
 refine zW.loop (fun m Z O'=>∃(i:Nat) (rest:List AV),m+i=16/\ rest.length=64-i/\ Rk Z τ.length p n/\ Z 8=.int .i64 i/\ O'=mkS τ u (ws (z12 q i)++rest)) 16 ?_ ?_
 ·exact⟨0,cells,by omega,hc,⟨by simp (disch:=first|omega|(simp only [lens];first|done|omega)) only [go_sem,k2],by simp (disch:=first|omega|(simp only [lens];first|done|omega)) only [go_sem,k3],by simp (disch:=first|omega|(simp only [lens];first|done|omega)) only [go_sem,k4],by simp (disch:=first|omega|(simp only [lens];first|done|omega)) only [go_sem,k5],by simp (disch:=first|omega|(simp only [lens];first|done|omega)) only [go_sem,k6],by simp (disch:=first|omega|(simp only [lens];first|done|omega)) only [go_sem,k7]⟩,by simp (disch:=first|omega|(simp only [lens];first|done|omega)) only [go_sem];rfl,rfl⟩
 ·rintro m Z O' ⟨i,rest,hm,hr,⟨q2,q3,q4,q5,q6,q7⟩,q8,rfl⟩
  by_cases hi:i<16
  ·have hwd:=ztn (p:=p) (n:=n) (i:=i) (by omega) hi
   rw [<-hq]at hwd
   have hset:=zfk (x:=zj q i) (rest:=rest) (z45 q i) (by omega)
   have hlen:(ws (z12 q i)++rest).length=64:=by rw [List.length_append,z3v,z45,hr];omega
   have hsc:z12 q (i+1)=z12 q i++ [zj q i]:=by rw [z12,z2p,z45,if_pos hi]
   have n0:((n:Int)+4*i).toNat=n+4*i:=by omega
   have n1:((n:Int)+4*i+1).toNat=n+4*i+1:=by omega
   have n2:((n:Int)+4*i+2).toNat=n+4*i+2:=by omega
   have n3:((n:Int)+4*i+3).toNat=n+4*i+3:=by omega
   have b0:=(p.getD (n+4*i) 0).toNat_lt
   have b1:=(p.getD (n+4*i+1) 0).toNat_lt
   have b2:=(p.getD (n+4*i+2) 0).toNat_lt
   have b3:=(p.getD (n+4*i+3) 0).toNat_lt
   have g0:=zgf (s:=p) (i:=n+4*i) (by omega)
   have e0:=z8e (s:=p) (i:=n+4*i) (by omega)
   have e1:=z8e (s:=p) (i:=n+4*i+1) (by omega)
   have e2:=z8e (s:=p) (i:=n+4*i+2) (by omega)
   have e3:=z8e (s:=p) (i:=n+4*i+3) (by omega)
   have hpb:=z8 p
   unfold mkS
   generalize p.getD (n+4*i) 0=x0 at*
   generalize p.getD (n+4*i+1) 0=x1 at*
   generalize p.getD (n+4*i+2) 0=x2 at*
   generalize p.getD (n+4*i+3) 0=x3 at*
   generalize hpb2:zh p=pb at*
   generalize hcc:ws (z12 q i)++rest=cc at*
   repeat' (first|refine zs_ ?_|refine zb_ ?_|refine zc_ ?_|refine zt_ rfl ?_|refine zf_ rfl ?_|(refine zd_ rfl (fun ht=> ?_) (fun ht=> ?_)<;>try (exfalso;omega))|((first|refine zW.regS ?_|refine zk_ ?_|refine ze_ ?_|refine zq_ ?_|(apply zG<;>intro ht));all_goals try simp (disch:=first|omega|(simp only [lens];first|done|omega)) only [go_sem,q2,q3,q4,q5,q6,q7,q8,hlen,n0,n1,n2,n3,e0,e1,e2,e3]))
   refine⟨16-(i+1),by omega,i+1,rest.drop 1,by omega,by rw [List.length_drop];omega,⟨by simp (disch:=first|omega|(simp only [lens];first|done|omega)) only [go_sem,q2],by simp (disch:=first|omega|(simp only [lens];first|done|omega)) only [go_sem,q3],by simp (disch:=first|omega|(simp only [lens];first|done|omega)) only [go_sem,q4],(by simp (disch:=first|omega|(simp only [lens];first|done|omega)) only [go_sem,q5];rw [hpb2]),by simp (disch:=first|omega|(simp only [lens];first|done|omega)) only [go_sem,q6],by simp (disch:=first|omega|(simp only [lens];first|done|omega)) only [go_sem,q7]⟩,by simp,?_⟩
   rw [hwd,hset,hsc]
  ·obtain rfl:i=16:=by omega
   repeat' (first|apply zs_|apply zb_|apply zc_|apply zt_ rfl|apply zf_ rfl|(apply zd_ rfl<;>intro ht<;>try omega)|((first|apply zr_|apply zk_|apply ze_|apply zq_|(apply zG<;>intro ht));all_goals try simp (disch:=first|omega|(simp only [lens];first|done|omega)) only [go_sem,q8]))
   exact hQ _ rest (by omega) ⟨by simp (disch:=first|omega|(simp only [lens];first|done|omega)) only [go_sem,q2],by simp (disch:=first|omega|(simp only [lens];first|done|omega)) only [go_sem,q3],by simp (disch:=first|omega|(simp only [lens];first|done|omega)) only [go_sem,q4],by simp (disch:=first|omega|(simp only [lens];first|done|omega)) only [go_sem,q5],by simp (disch:=first|omega|(simp only [lens];first|done|omega)) only [go_sem,q6],by simp (disch:=first|omega|(simp only [lens];first|done|omega)) only [go_sem,q7]⟩
theorem zr5{q:List UInt8}{rest:List AV}(K:Rk Z τ.length p n)(hr:rest.length=48)
  (hQ:∀Z',Rk Z' τ.length p n->Q .normal Z' (mkS τ u (ws (z12 q 64)))):zW TC 252 k qac34 Q Z (mkS τ u (ws (z12 q 16)++rest)):=by
 obtain⟨R,hR⟩:∃R,R=z12 q 64:=⟨_,rfl⟩
 rw [<-hR]at hQ
 obtain⟨k2,k3,k4,k5,k6,k7⟩:=K
 repeat' (first|apply zs_|apply zb_|apply zc_|apply zt_ rfl|apply zf_ rfl|(apply zd_ rfl<;>intro ht<;>try omega)|((first|apply zr_|apply zk_|apply ze_|apply zq_|(apply zG<;>intro ht));all_goals try simp (disch:=first|omega|(simp only [lens];first|done|omega)) only [go_sem]))
 refine zW.loop (fun m Z O'=>∃(i:Nat) (rest:List AV),m+i=64/\ 16<=i/\ rest.length=64-i/\ Rk Z τ.length p n/\ Z 10=.int .i64 i/\ O'=mkS τ u (ws (z12 q i)++rest)) 48 ?_ ?_
 ·exact⟨16,rest,by omega,by omega,hr,⟨by simp (disch:=first|omega|(simp only [lens];first|done|omega)) only [go_sem,k2],by simp (disch:=first|omega|(simp only [lens];first|done|omega)) only [go_sem,k3],by simp (disch:=first|omega|(simp only [lens];first|done|omega)) only [go_sem,k4],by simp (disch:=first|omega|(simp only [lens];first|done|omega)) only [go_sem,k5],by simp (disch:=first|omega|(simp only [lens];first|done|omega)) only [go_sem,k6],by simp (disch:=first|omega|(simp only [lens];first|done|omega)) only [go_sem,k7]⟩,by simp (disch:=first|omega|(simp only [lens];first|done|omega)) only [go_sem];rfl,rfl⟩
 ·clear hr
  rintro m Z O' ⟨i,rest,hm,h16,hr,⟨q2,q3,q4,q5,q6,q7⟩,q10,rfl⟩
  have hsl:=z45 q i
  by_cases hi:i<64
  ·have hset:=zfk (x:=z2p q (z12 q i)) (rest:=rest) hsl (by omega)
   have hlen:(ws (z12 q i)++rest).length=64:=by rw [List.length_append,z3v,z45,hr];omega
   have hsc:z12 q (i+1)=z12 q i++ [z2p q (z12 q i)]:=by rw [z12]
   have en:z2p q (z12 q i)=wat (z12 q i) (i-16)+wat (z12 q i) (i-7)+ss0 (wat (z12 q i) (i-15))+ss1 (wat (z12 q i) (i-2)):=by rw [z2p,if_neg (by omega),hsl]
   have hwi:∀j,j<i->(ws (z12 q i)++rest)[j]? =some (.int .u32 (wat (z12 q i) j).toNat):=by
    intro j hj
    rw [List.getElem?_append_left (by rw [z3v];omega),z7u (by omega)]
   have g16:=hwi (i-16) (by omega)
   have g7:=hwi (i-7) (by omega)
   have g15:=hwi (i-15) (by omega)
   have g2:=hwi (i-2) (by omega)
   have t16:((i:Int)-16).toNat=i-16:=by omega
   have t7:((i:Int)-7).toNat=i-7:=by omega
   have t15:((i:Int)-15).toNat=i-15:=by omega
   have t2:((i:Int)-2).toNat=i-2:=by omega
   have r7:32-(7:Int).toNat=25:=rfl
   clear hwi
   generalize z2p q (z12 q i)=nx at*
   generalize wat (z12 q i) (i-16)=w16 at*
   generalize wat (z12 q i) (i-7)=w7 at*
   generalize wat (z12 q i) (i-15)=w15 at*
   generalize wat (z12 q i) (i-2)=w2 at*
   unfold mkS
   generalize hpb2:zh p=pb at*
   generalize hcc:ws (z12 q i)++rest=cc at*
   repeat' (first|refine zs_ ?_|refine zb_ ?_|refine zc_ ?_|refine zt_ rfl ?_|refine zf_ rfl ?_|(refine zd_ rfl (fun ht=> ?_) (fun ht=> ?_)<;>try (exfalso;omega))|((first|refine zW.regS ?_|refine zk_ ?_|refine ze_ ?_|refine zq_ ?_|(apply callW.mk_pu;(first|exact(fun _=>zbj _ _ _ (by omega))))|(apply callW.za;(first|exact(zbj _ _ _ (by omega))))|(apply zG<;>intro ht));all_goals try simp (disch:=first|omega|(simp only [lens];first|done|omega)) only [go_sem,q2,q3,q4,q5,q6,q7,q10,hlen,g16,g7,g15,g2,t16,t7,t15,t2]))
   refine⟨64-(i+1),by omega,i+1,rest.drop 1,by omega,by omega,by rw [List.length_drop];omega,⟨by simp (disch:=first|omega|(simp only [lens];first|done|omega)) only [go_sem,q2],by simp (disch:=first|omega|(simp only [lens];first|done|omega)) only [go_sem,q3],by simp (disch:=first|omega|(simp only [lens];first|done|omega)) only [go_sem,q4],(by simp (disch:=first|omega|(simp only [lens];first|done|omega)) only [go_sem,q5];rw [hpb2]),by simp (disch:=first|omega|(simp only [lens];first|done|omega)) only [go_sem,q6],by simp (disch:=first|omega|(simp only [lens];first|done|omega)) only [go_sem,q7]⟩,by simp,?_⟩
   rw [hsc,<-hset,en]
   have ec:∀s t:W,w16+s+w7+t=w16+w7+s+t:=fun s t=>by rw [BitVec.add_assoc w16 s w7,BitVec.add_comm s w7,<-BitVec.add_assoc w16 w7 s]
   rw [ec]
   rfl
  ·obtain rfl:i=64:=by omega
   have hr0:rest=[]:=List.eq_nil_of_length_eq_zero (by omega)
   rw [hr0,<-hR,List.append_nil]
   clear hsl hR
   repeat' (first|apply zs_|apply zb_|apply zc_|apply zt_ rfl|apply zf_ rfl|(apply zd_ rfl<;>intro ht<;>try omega)|((first|apply zr_|apply zk_|apply ze_|apply zq_|(apply zG<;>intro ht));all_goals try simp (disch:=first|omega|(simp only [lens];first|done|omega)) only [go_sem,q10]))
   exact hQ _ ⟨by simp (disch:=first|omega|(simp only [lens];first|done|omega)) only [go_sem,q2],by simp (disch:=first|omega|(simp only [lens];first|done|omega)) only [go_sem,q3],by simp (disch:=first|omega|(simp only [lens];first|done|omega)) only [go_sem,q4],by simp (disch:=first|omega|(simp only [lens];first|done|omega)) only [go_sem,q5],by simp (disch:=first|omega|(simp only [lens];first|done|omega)) only [go_sem,q6],by simp (disch:=first|omega|(simp only [lens];first|done|omega)) only [go_sem,q7]⟩
end
end
section
theorem k_get{i:Nat}(h:i<64):gl_sha_rounds[i]? =some (.int .u32 (kAt i).toNat):=by
 have:=zgu h
 rwa [List.getElem?_drop,Nat.add_zero]at this
section
variable {k:Nat} {Q:AExit->Env->Store->Prop} {Z:Env} {τ:Store} {u:V8} {p:List UInt8} {n:Nat}
theorem zr4{q:List UInt8}(K:Rk Z τ.length p n)
  (hQ:∀Z',Rk Z' τ.length p n->Q .normal Z' (mkS τ (mixS u q) (ws (z12 q 64)))):zW TC 252 k qac53 Q Z (mkS τ u (ws (z12 q 64))):=by
 obtain⟨R,hR⟩:∃R,R=z12 q 64:=⟨_,rfl⟩
 have hRl:R.length=64:=by rw [hR,z45]
 have hwR:(ws R).length=64:=by rw [z3v,hRl]
 have hst:∀n,rnds q u (n+1)=rnd (rnds q u n) (kAt n) (wat R n):=fun n=>by rw [rnds,hR]
 obtain⟨U,hU⟩:∃U,U=rnds q u 64:=⟨_,rfl⟩
 have hmix:mixS u q=U.add u:=by rw [mixS,hU]
 rw [hmix]at hQ
 rw [<-hR]at hQ ⊢
 obtain⟨k2,k3,k4,k5,k6,k7⟩:=K
 unfold mkS
 refine zs_ ?_
 (refine zW.regS ?_;(simp (disch:=first|omega|(simp only [lens];first|done|omega)) only [go_sem,k4,V8.c8]))
 (refine zW.slots [2,3,4,5,6,7,13,14,15,16,17,18,19,20] ?_;intro Z1 hs;simp (disch:=first|omega|(simp only [lens];first|done|omega)) only [go_sem,k2,k3,k4,k5,k6,k7]at hs;obtain⟨s2,s3,s4,s5,s6,s7,s13,s14,s15,s16,s17,s18,s19,s20⟩:=hs)
 refine zs_ ?_
 refine zs_ ?_
 (refine zW.regS ?_;(simp (disch:=first|omega|(simp only [lens];first|done|omega)) only [go_sem]))
 refine zb_ ?_
 refine zW.loop (fun m Z O'=>∃i:Nat,m+i=64/\ Rk Z τ.length p n/\ Z 21=.int .i64 i/\ Z 13=.int .u32 (rnds q u i).a.toNat/\ Z 14=.int .u32 (rnds q u i).b.toNat/\ Z 15=.int .u32 (rnds q u i).c.toNat/\ Z 16=.int .u32 (rnds q u i).d.toNat ∧
  Z 17=.int .u32 (rnds q u i).e.toNat/\ Z 18=.int .u32 (rnds q u i).f.toNat/\ Z 19=.int .u32 (rnds q u i).g.toNat/\ Z 20=.int .u32 (rnds q u i).h.toNat/\ O'=mkS τ u (ws R)) 64 ?_ ?_
 ·exact⟨0,by omega,⟨by simp (disch:=first|omega|(simp only [lens];first|done|omega)) only [go_sem,s2],by simp (disch:=first|omega|(simp only [lens];first|done|omega)) only [go_sem,s3],by simp (disch:=first|omega|(simp only [lens];first|done|omega)) only [go_sem,s4],by simp (disch:=first|omega|(simp only [lens];first|done|omega)) only [go_sem,s5],by simp (disch:=first|omega|(simp only [lens];first|done|omega)) only [go_sem,s6],by simp (disch:=first|omega|(simp only [lens];first|done|omega)) only [go_sem,s7]⟩,by simp (disch:=first|omega|(simp only [lens];first|done|omega)) only [go_sem];rfl,by simp (disch:=first|omega|(simp only [lens];first|done|omega)) only [go_sem,s13];rfl,by simp (disch:=first|omega|(simp only [lens];first|done|omega)) only [go_sem,s14];rfl,by simp (disch:=first|omega|(simp only [lens];first|done|omega)) only [go_sem,s15];rfl,by simp (disch:=first|omega|(simp only [lens];first|done|omega)) only [go_sem,s16];rfl,by simp (disch:=first|omega|(simp only [lens];first|done|omega)) only [go_sem,s17];rfl,by simp (disch:=first|omega|(simp only [lens];first|done|omega)) only [go_sem,s18];rfl,by simp (disch:=first|omega|(simp only [lens];first|done|omega)) only [go_sem,s19];rfl,by simp (disch:=first|omega|(simp only [lens];first|done|omega)) only [go_sem,s20];rfl,rfl⟩
 ·clear s2 s3 s4 s5 s6 s7 s13 s14 s15 s16 s17 s18 s19 s20
  rintro m Z O' ⟨i,hm,⟨q2,q3,q4,q5,q6,q7⟩,q21,q13,q14,q15,q16,q17,q18,q19,q20,rfl⟩
  by_cases hi:i<64
  ·have hk:=k_get hi
   have hw:=z7u (w:=R) (i:=i) (by omega)
   have hst:=hst i
   generalize rnds q u i=v at*
   obtain⟨a,b,c,d,e,f,g,h⟩:=v
   simp only at q13 q14 q15 q16 q17 q18 q19 q20
   generalize kAt i=kk at*
   generalize wat R i=ww at*
   generalize hpb:zh p=pb at*
   unfold mkS
   refine zs_ ?_
   refine zs_ ?_
   (refine zW.regS ?_;(simp (disch:=first|omega|(simp only [lens];first|done|omega)) only [go_sem,q21]))
   refine zt_ rfl ?_
   refine zk_ ?_
   simp (disch:=first|omega|(simp only [lens];first|done|omega)) only [go_sem]
   refine zs_ ?_
   refine zb_ ?_
   refine zs_ ?_
   (refine zW.regS ?_;(simp (disch:=first|omega|(simp only [lens];first|done|omega)) only [go_sem,q3,q6,q17,q18,q19,q20,q21,hwR,hk,hw,z8p]);repeat' (apply callW.za;(first|exact(zbj _ _ _ (by omega)));all_goals try (simp (disch:=first|omega|(simp only [lens];first|done|omega)) only [go_sem,q3,q6,q17,q18,q19,q20,q21,hwR,hk,hw,z8p])))
   (refine zW.slots [2,3,4,5,6,7,13,14,15,16,17,18,19,20,21,22] ?_;intro Z2 hs;simp (disch:=first|omega|(simp only [lens];first|done|omega)) only [go_sem,q2,q3,q4,q5,q6,q7,q13,q14,q15,q16,q17,q18,q19,q20,q21]at hs;obtain⟨s2,s3,s4,s5,s6,s7,s13,s14,s15,s16,s17,s18,s19,s20,s21,s22⟩:=hs)
   refine zs_ ?_
   (refine zW.regS ?_;(simp (disch:=first|omega|(simp only [lens];first|done|omega)) only [go_sem,s13,s14,s15]);repeat' (apply callW.za;(first|exact(zbj _ _ _ (by omega)));all_goals try (simp (disch:=first|omega|(simp only [lens];first|done|omega)) only [go_sem,s13,s14,s15])))
   (refine zW.slots [2,3,4,5,6,7,13,14,15,16,17,18,19,20,21,22,23] ?_;intro Z3 hs;simp (disch:=first|omega|(simp only [lens];first|done|omega)) only [go_sem,s2,s3,s4,s5,s6,s7,s13,s14,s15,s16,s17,s18,s19,s20,s21,s22]at hs;obtain⟨s2,s3,s4,s5,s6,s7,s13,s14,s15,s16,s17,s18,s19,s20,s21,s22,s23⟩:=hs)
   (refine zW.regS ?_;(simp (disch:=first|omega|(simp only [lens];first|done|omega)) only [go_sem,s13,s14,s15,s16,s17,s18,s19,s22,s23]))
   (refine zW.slots [2,3,4,5,6,7,13,14,15,16,17,18,19,20,21] ?_;intro Z4 hs;simp (disch:=first|omega|(simp only [lens];first|done|omega)) only [go_sem,s2,s3,s4,s5,s6,s7,s21]at hs;obtain⟨s2,s3,s4,s5,s6,s7,s13,s14,s15,s16,s17,s18,s19,s20,s21⟩:=hs)
   (refine zW.regS ?_;(simp (disch:=first|omega|(simp only [lens];first|done|omega)) only [go_sem,s21]))
   refine⟨64-(i+1),by omega,i+1,by omega,⟨s2,s3,s4,by rw [hpb];exact s5,s6,s7⟩,by simp,?_⟩
   rw [hst]
   simp only [rnd,bs1,chW,bs0,majW]
   exact⟨s13,s14,s15,s16,s17,s18,s19,s20⟩
  ·obtain rfl:i=64:=by omega
   rw [<-hU]at q13 q14 q15 q16 q17 q18 q19 q20
   clear hst hU hmix
   obtain⟨a,b,c,d,e,f,g,h⟩:=U
   obtain⟨a',b',c',d',e',f',g',h'⟩:=u
   simp only at q13 q14 q15 q16 q17 q18 q19 q20
   unfold mkS
   unfold mkS at hQ
   simp only [V8.add,V8.c8]at hQ
   simp only [V8.c8]
   generalize hpb:zh p=pb at*
   refine zs_ ?_
   refine zs_ ?_
   (refine zW.regS ?_;(simp (disch:=first|omega|(simp only [lens];first|done|omega)) only [go_sem,q21]))
   refine zf_ rfl ?_
   refine ze_ ?_
   simp (disch:=first|omega|(simp only [lens];first|done|omega)) only [go_sem]
   (refine zW.regS ?_;(simp (disch:=first|omega|(simp only [lens];first|done|omega)) only [go_sem,q4,q13,q14,q15,q16,q17,q18,q19,q20]))
   rw [BitVec.add_comm a' a,BitVec.add_comm b' b,BitVec.add_comm c' c,BitVec.add_comm d' d,BitVec.add_comm e' e,BitVec.add_comm f' f,BitVec.add_comm g' g,BitVec.add_comm h' h]
   exact hQ _ ⟨by simp (disch:=first|omega|(simp only [lens];first|done|omega)) only [go_sem,q2],by simp (disch:=first|omega|(simp only [lens];first|done|omega)) only [go_sem,q3],by simp (disch:=first|omega|(simp only [lens];first|done|omega)) only [go_sem,q4],(by simp (disch:=first|omega|(simp only [lens];first|done|omega)) only [go_sem,q5];rw [hpb]),by simp (disch:=first|omega|(simp only [lens];first|done|omega)) only [go_sem,q6],by simp (disch:=first|omega|(simp only [lens];first|done|omega)) only [go_sem,q7]⟩
end
end
section
theorem sum_r1{C:Ctx}{K:Env->Store->Prop}{H:Hist}{Z:Env}{O:Store}:zn C K qar1 H Z O=zn C K (qar1.drop 1) H (upd Z 26 (.agg gl_sha_rounds)) O:=by kernel_rfl
theorem zmm{l:List W}{i:Nat}(h:i<4*l.length):(l.flatMap fun x=>be 4 x.toNat)[i]? =(be 4 (wat l (i/4)).toNat)[i%4]?:=by
 induction l generalizing i with
 |nil=>simp at h
 |cons x l ih=>
  have hb:(be 4 x.toNat).length=4:=z3c _ _
  rw [List.flatMap_cons]
  by_cases hi:i<4
  ·rw [List.getElem?_append_left (by omega),Nat.div_eq_of_lt hi,Nat.mod_eq_of_lt hi];rfl
  ·simp only [List.length_cons]at h
   rw [List.getElem?_append_right (by omega),hb,ih (by omega),show i/4=(i-4)/4+1 by omega,show (i-4)%4=i%4 by omega]
   rfl
theorem zkq(x:Nat){j:Nat}(h:j<4):(be 4 x)[j]? =some (UInt8.ofNat (x/2^(24-8*j))):=by
 have e:be 4 x=[UInt8.ofNat (x/256^3),UInt8.ofNat (x/256^2),UInt8.ofNat (x/256^1),UInt8.ofNat (x/256^0)]:=by
  simp only [z8b]
  rfl
 rw [e]
 have hj:j=0 \/j=1 \/j=2 \/j=3:=by omega
 rcases hj with rfl|rfl|rfl|rfl<;>rfl
theorem zpr(v:V8){i:Nat}(h:i<32):(outV v)[i]? =some (UInt8.ofNat ((wat v.l (i/4)).toNat/2^(24-8*(i%4)))):=by
 unfold outV
 rw [zmm (by simp [V8.l];omega),zkq _ (Nat.mod_lt _ (by decide))]
def z41(v:V8)(i:Nat):List AV:=zx ((outV v).take i)++List.replicate (32-i) (.int .u8 0)
theorem zox(v:V8){i:Nat}(h:i<=32):(z41 v i).length=32:=by simp [z41,zu,z4p];omega
theorem zoy(v:V8){i:Nat}(h:i<32){b:Int}(hb:b=(((wat v.l (i/4)).toNat/2^(24-8*(i%4))%256:Nat):Int)):
  (z41 v i).take i++AV.int .u8 b::(z41 v i).drop (i+1)=z41 v (i+1):=by
 have h1:(zx ((outV v).take i)).length=i:=by rw [zu,List.length_take,z4p];omega
 have hg:=zpr v h
 have hs:(outV v).take (i+1)=(outV v).take i++ [UInt8.ofNat ((wat v.l (i/4)).toNat/2^(24-8*(i%4)))]:=by
  rw [List.take_add_one,hg];rfl
 unfold z41
 rw [List.take_append_of_le_length (by omega),List.take_of_length_le (by omega),List.drop_append,List.drop_of_length_le (by omega),h1,show i+1-i=1 by omega,List.nil_append,hs]
 rw [List.drop_replicate,show 32-i-1=32-(i+1)by omega]
 simp [zx,hb]
theorem zid(O:Store)(s:List UInt8)(h:s.length<900000000):ACallsTo TC 54 [.str s] O (.agg (zx (shaS s))) O:=by
 obtain⟨p,hp⟩:∃p,p=padS s:=⟨_,rfl⟩
 obtain⟨hp1,hp2⟩:=zhl s
 rw [<-hp]at hp1 hp2
 obtain⟨N,hN⟩:∃N,p.length=64*N:=⟨p.length/64,by omega⟩
 obtain⟨V,hV⟩:∃V,V=blocks N v0 p:=⟨_,rfl⟩
 have hS:shaS s=outV V:=by
  unfold shaS
  rw [<-hp,hV]
  have:p.length/64=N:=by omega
  rw [this]
 rw [hS]
 have hf:=fun O=>pad_to O s (by omega)
 rw [<-hp]at hf
 refine ACallsTo.of_body qaok (by simp) fun hw _=> ?_
 refine zs_ ?_
 refine zr_ ?_
 simp (disch:=first|omega|(simp only [lens];first|done|omega)) only [go_sem]
 refine zs_ ?_
 refine zr_ ?_
 rw [sum_r1]
 simp (disch:=first|omega|(simp only [lens];first|done|omega)) only [go_sem,z8p]
 refine zs_ ?_
 refine zr_ ?_
 simp (disch:=first|omega|(simp only [lens];first|done|omega)) only [go_sem]
 refine zs_ ?_
 repeat' (first|apply zs_|apply zb_|apply zc_|apply zt_ rfl|apply zf_ rfl|(apply zd_ rfl<;>intro ht<;>try omega)|((first|apply zr_|apply zk_|apply ze_|apply zq_|(apply callW.mk_pu;(first|exact(fun _=>hf _)))|(apply callW.za;(first|exact(hf _)))|(apply zG<;>intro ht));all_goals try simp (disch:=first|omega|(simp only [lens];first|done|omega)) only [go_sem]))
 refine zW.loop (fun m Z O'=>∃(u:V8) (n:Nat) (cells:List AV),n+64*m=p.length/\ Rk Z O.length p n/\ cells.length=64/\ blocks m u (p.drop n)=V/\ O'=mkS O u cells) N ?_ ?_
 ·exact⟨v0,0,List.replicate 64 (.int .u32 0),by omega,⟨by simp (disch:=first|omega|(simp only [lens];first|done|omega)) only [go_sem],by simp (disch:=first|omega|(simp only [lens];first|done|omega)) only [go_sem],by simp (disch:=first|omega|(simp only [lens];first|done|omega)) only [go_sem],by simp (disch:=first|omega|(simp only [lens];first|done|omega)) only [go_sem],by simp (disch:=first|omega|(simp only [lens];first|done|omega)) only [go_sem],by simp (disch:=first|omega|(simp only [lens];first|done|omega)) only [go_sem];rfl⟩,rfl,by rw [List.drop_zero];exact hV.symm,rfl⟩
 ·rintro m Z O' ⟨u,n,cells,hn,⟨q2,q3,q4,q5,q6,q7⟩,hc,hb,rfl⟩
  have hpb:=z8 p
  cases m with
  |succ m=>
   refine zs_ ?_
   refine zs_ ?_
   (refine zW.regS ?_;(simp (disch:=first|omega|(simp only [lens];first|done|omega)) only [go_sem,q5,q7,hpb]))
   refine zt_ rfl ?_
   refine zk_ ?_
   simp (disch:=first|omega|(simp only [lens];first|done|omega)) only [go_sem]
   refine zs_ ?_
   refine zb_ ?_
   refine zs_ ?_
   refine zr6 (p:=p) (n:=n) (u:=u) (cells:=cells) ⟨by simp (disch:=first|omega|(simp only [lens];first|done|omega)) only [go_sem,q2],by simp (disch:=first|omega|(simp only [lens];first|done|omega)) only [go_sem,q3],by simp (disch:=first|omega|(simp only [lens];first|done|omega)) only [go_sem,q4],by simp (disch:=first|omega|(simp only [lens];first|done|omega)) only [go_sem,q5],by simp (disch:=first|omega|(simp only [lens];first|done|omega)) only [go_sem,q6],by simp (disch:=first|omega|(simp only [lens];first|done|omega)) only [go_sem,q7]⟩ (by omega) (by omega) hc ?_
   intro Z1 rest hr K1
   refine zs_ ?_
   refine zr5 K1 hr ?_
   intro Z2 K2
   refine zr4 K2 ?_
   intro Z3 ⟨t2,t3,t4,t5,t6,t7⟩
   simp only [z2b,blkQ]
   (refine zW.regS ?_;(simp (disch:=first|omega|(simp only [lens];first|done|omega)) only [go_sem,t7]))
   refine⟨m,by omega,mixS u ((p.drop n).take 64),n+64,ws (z12 ((p.drop n).take 64) 64),by omega,⟨by simp (disch:=first|omega|(simp only [lens];first|done|omega)) only [go_sem,t2],by simp (disch:=first|omega|(simp only [lens];first|done|omega)) only [go_sem,t3],by simp (disch:=first|omega|(simp only [lens];first|done|omega)) only [go_sem,t4],by simp (disch:=first|omega|(simp only [lens];first|done|omega)) only [go_sem,t5],by simp (disch:=first|omega|(simp only [lens];first|done|omega)) only [go_sem,t6],by simp (disch:=first|omega|(simp only [lens];first|done|omega)) only [go_sem];rw [Int.natCast_add];rfl⟩,by rw [z3v,z45],?_,rfl⟩
   rw [<-hb,blocks,List.drop_drop]
  |zero=>
   have hd:p.drop n=[]:=List.drop_of_length_le (by omega)
   rw [hd]at hb
   have hu:u=V:=hb
   subst hu
   clear hb hd hV
   unfold mkS
   repeat' (first|apply zs_|apply zb_|apply zc_|apply zt_ rfl|apply zf_ rfl|(apply zd_ rfl<;>intro ht<;>try omega)|((first|apply zr_|apply zk_|apply ze_|apply zq_|(apply zG<;>intro ht));all_goals try simp (disch:=first|omega|(simp only [lens];first|done|omega)) only [go_sem,q5,q7,hpb]))
   refine zW.loop (fun m Z O'=>∃i:Nat,m+i=32/\ Z 2=.ptr O.length 0 0/\ Z 4=.ptr (O.length+2) 0 0/\ Z 24=.ptr (O.length+4) 0 0/\ Z 25=.int .i64 i/\ O'=O++ [some [z32],some [gl_sha_rounds],some [u.c8],some [cells],some [z41 u i]]) 32 ?_ ?_
   ·exact⟨0,by omega,by simp (disch:=first|omega|(simp only [lens];first|done|omega)) only [go_sem,q2],by simp (disch:=first|omega|(simp only [lens];first|done|omega)) only [go_sem,q4],by simp (disch:=first|omega|(simp only [lens];first|done|omega)) only [go_sem],by simp (disch:=first|omega|(simp only [lens];first|done|omega)) only [go_sem];rfl,rfl⟩
   ·clear q2 q3 q4 q5 q6 q7
    rintro m Z O' ⟨i,hm,q2,q4,q24,q25,rfl⟩
    have hlen:=zox u (i:=i) (by omega)
    have h8:u.c8.length=8:=rfl
    have hz:z32.length=32:=rfl
    by_cases hi:i<32
    ·have hst:=zoy u hi (b:=((((wat u.l (i/4)).toNat/2^(24-8*(i%4))%256:Nat)):Int)) rfl
     have hw:=z7u (w:=u.l) (i:=i/4) (by simp [V8.l];omega)
     rw [ws_l]at hw
     generalize wat u.l (i/4)=x at*
     generalize z41 u i=cc at*
     have hd4:((i:Int)/4).toNat=i/4:=by omega
     have hsh:(24-8*((i:Int)%4)).toNat=24-8*(i%4):=by omega
     repeat' (first|refine zs_ ?_|refine zb_ ?_|refine zc_ ?_|refine zt_ rfl ?_|refine zf_ rfl ?_|(refine zd_ rfl (fun ht=> ?_) (fun ht=> ?_)<;>try (exfalso;omega))|((first|refine zW.regS ?_|refine zk_ ?_|refine ze_ ?_|refine zq_ ?_|(apply zG<;>intro ht));all_goals try simp (disch:=first|omega|(simp only [lens];first|done|omega)) only [go_sem,q2,q4,q24,q25,hlen,h8,hw,hd4,hsh]))
     refine⟨32-(i+1),by omega,i+1,by omega,by simp,?_⟩
     rw [BitVec.toNat_ushiftRight,Nat.shiftRight_eq_div_pow,<-hst,Int.natCast_emod]
     rfl
    ·obtain rfl:i=32:=by omega
     have e32:z41 u 32=zx (outV u):=by
      unfold z41
      rw [List.take_of_length_le (by rw [z4p];decide)]
      exact List.append_nil _
     have hd:List.drop 32 z32=[]:=rfl
     have hl:(zx (outV u)).length=32:=by rw [zu,z4p]
     rw [e32]at*
     repeat' (first|apply zs_|apply zb_|apply zc_|apply zt_ rfl|apply zf_ rfl|(apply zd_ rfl<;>intro ht<;>try omega)|((first|apply zr_|apply zk_|apply ze_|apply zq_|(apply zG<;>intro ht));all_goals try simp (disch:=first|omega|(simp only [lens];first|done|omega)) only [go_sem,q2,q4,q24,q25,hl,h8,hd,hz]))
     exact DownV.pure hw (z43 (z2o _))
end
section
set_option maxRecDepth 10000
def qhr0:yW:=[
 yI 1 (.box (.t 0)),
 yI 2 (.alloc zZ0)]
def qhr1:yW:=[
 yL 4 false 1 1,
 yI 5 (.lenSl (.t 4)),
 yJ 6 .eql 5 .i64 0]
def qhr2:yW:=[
 yI 7 (.call (.v (.fn 21 [])) [(.v (.str []))]),
 yS 32 2 7]
def qhc3:yX:=yq qhr2 .ret
def qhc4:yX:=.cond (.t 6) qhc3 .skip
def qhc5:yX:=yq qhr1 qhc4
def qhr6:yW:=[
 yI 3 (.alloc [.nilfn])]
def qhr7:yW:=[
 yI 8 (.mkfn 70 [(.t 1),(.t 3)]),
 yS 1 3 8]
def qhr8:yW:=[
 yL 9 false 1 3,
 yL 10 false 1 1,
 yI 11 (.lenSl (.t 10)),
 yI 12 (.call (.t 9) [(.v (.int .i64 0)),(.t 11)]),
 yS 32 2 12]
def qhc9:yX:=yq qhr8 .ret
def qhc10:yX:=yq qhr7 qhc9
def qhc11:yX:=yq qhr6 qhc10
def qhc12:yX:=.seq qhc5 qhc11
def qhc13:yX:=yq qhr0 qhc12
attribute [go_sem] qhr0 qhr1 qhr2 qhr6 qhr7 qhr8
theorem qhok:cFn TC 46=some (13,[.c 2 true 32],qhc13):=by kernel_rfl
def qir0:yW:=[
 yI 2 (.box (.t 0)),
 yI 3 (.box (.t 1)),
 yI 4 (.alloc zZ0)]
def qir1:yW:=[
 ⟨some 5,none,.rd,.load true 32 (.t 2)⟩,
 ⟨some 6,none,.ef,.call (.v (.fn 51 [])) [(.t 5)]⟩,
 yI 7 (.bin .add .none (.v (.str [1])) (.t 6)),
 ⟨some 8,none,.rd,.load true 32 (.t 3)⟩,
 yC 9 51 8,
 yB 10 .add 7 9,
 yC 11 21 10,
 yS 32 4 11]
def qic2:yX:=yq qir1 .ret
def qic3:yX:=yq qir0 qic2
attribute [go_sem] qir0 qir1
theorem qiok:cFn TC 48=some (12,[.c 4 true 32],qic3):=by kernel_rfl
def qjr0:yW:=[
 yK 2 .i64 0]
def qjr1:yW:=[
 yM 4 0,
 yJ 5 .lss 4 .i64 2]
def qjr2:yW:=[
 yK 2 .i64 0]
def qjc3:yX:=yq qjr2 .ret
def qjc4:yX:=.cond (.t 5) qjc3 .skip
def qjc5:yX:=yq qjr1 qjc4
def qjr6:yW:=[
 yK 3 .i64 1]
def qjr7:yW:=[
 yM 6 3,
 yM 7 0,
 yM 8 3,
 yB 9 .sub 7 8,
 yB 10 .lss 6 9]
def qjc8:yX:=.cond (.t 10) .skip (.exit 0)
def qjc9:yX:=yq qjr7 qjc8
def qjr10:yW:=[
 yM 11 3,
 yJ 12 .mul 11 .i64 2,
 yM 3 12]
def qjc11:yX:=.block 1 (.reg qjr10)
def qjc12:yX:=.seq qjc9 qjc11
def qjc13:yX:=.loop qjc12
def qjr14:yW:=[
 yM 13 3,
 yM 2 13]
def qjc15:yX:=yq qjr14 .ret
def qjc16:yX:=.seq (.block 0 qjc13) qjc15
def qjc17:yX:=yq qjr6 qjc16
def qjc18:yX:=.seq qjc5 qjc17
def qjc19:yX:=yq qjr0 qjc18
attribute [go_sem] qjr0 qjr1 qjr2 qjr6 qjr7 qjr10 qjr14
theorem qjok:cFn TC 37=some (14,[.t 2],qjc19):=by kernel_rfl
def qkr0:yW:=[
 yI 6 (.alloc zZ0)]
def qkr1:yW:=[
 yM 8 1,
 yM 9 0,
 yB 10 .sub 8 9,
 yC 11 37 10,
 yM 7 11]
def qkr2:yW:=[
 yM 12 7,
 yJ 13 .eql 12 .i64 0]
def qkr3:yW:=[
 yL 14 false 1 2,
 yM 15 0,
 yI 16 (.iaSl 32 (.t 14) (.t 15)),
 yL 17 true 32 16,
 yS 32 6 17]
def qkc4:yX:=yq qkr3 .ret
def qkc5:yX:=.cond (.t 13) qkc4 .skip
def qkc6:yX:=yq qkr2 qkc5
def qkr7:yW:=[
 ⟨some 18,none,.rd,.load false 1 (.t 3)⟩,
 yM 19 0,
 yM 20 0,
 yM 21 7,
 yB 22 .add 20 21,
 ⟨some 23,none,.ef,.call (.t 18) [(.t 19),(.t 22)]⟩,
 ⟨some 24,none,.rd,.load false 1 (.t 3)⟩,
 yM 25 0,
 yM 26 7,
 yB 27 .add 25 26,
 yM 28 1,
 yI 29 (.call (.t 24) [(.t 27),(.t 28)]),
 yD 30 48 23 29,
 yS 32 6 30]
def qkc8:yX:=yq qkr7 .ret
def qkc9:yX:=.seq qkc6 qkc8
def qkc10:yX:=yq qkr1 qkc9
def qkc11:yX:=yq qkr0 qkc10
attribute [go_sem] qkr0 qkr1 qkr2 qkr3 qkr7
theorem qkok:cFn TC 70=some (31,[.c 6 true 32],qkc11):=by kernel_rfl
def qlr0:yW:=[
 yI 2 (.box (.t 0)),
 yI 3 (.box (.t 1)),
 yI 4 (.alloc zZ0)]
def qlr1:yW:=[
 ⟨some 5,none,.rd,.load true 32 (.t 2)⟩,
 ⟨some 6,none,.ef,.call (.v (.fn 56 [])) [(.t 5)]⟩,
 yI 7 (.bin .add .none (.v (.str [1])) (.t 6)),
 ⟨some 8,none,.rd,.load true 32 (.t 3)⟩,
 yC 9 56 8,
 yB 10 .add 7 9,
 yC 11 54 10,
 yS 32 4 11]
def qlc2:yX:=yq qlr1 .ret
def qlc3:yX:=yq qlr0 qlc2
attribute [go_sem] qlr0 qlr1
theorem qlok:cFn TC 91=some (12,[.c 4 true 32],qlc3):=by kernel_rfl
def qmr0:yW:=[
 yI 1 (.box (.t 0)),
 yI 2 (.mv (.v (.str [])))]
def qmr1:yW:=[
 yI 3 (.mv (.v .nilsl))]
def qmr2:yW:=[
 yK 4 .i64 0]
def qmr3:yW:=[
 yM 5 4,
 yJ 6 .lss 5 .i64 32]
def qmc4:yX:=.cond (.t 6) .skip (.exit 0)
def qmc5:yX:=yq qmr3 qmc4
def qmr6:yW:=[
 yM 9 3,
 yM 10 4,
 yI 11 (.iaArr 32 1 (.t 1) (.t 10)),
 yL 12 false 1 11,
 yI 13 (.lit 1 [(.t 12)]),
 yI 14 (.appB (.t 9) (.t 13)),
 yM 3 14]
def qmr7:yW:=[
 yM 7 4,
 yJ 8 .add 7 .i64 1,
 yM 4 8]
def qmc8:yX:=.seq (.block 1 (.reg qmr6)) (.reg qmr7)
def qmc9:yX:=.seq qmc5 qmc8
def qmc10:yX:=.loop qmc9
def qmc11:yX:=.block 0 qmc10
def qmc12:yX:=yq qmr2 qmc11
def qmr13:yW:=[
 yM 15 3,
 yI 16 (.conv .str (.t 15)),
 yM 2 16]
def qmc14:yX:=yq qmr13 .ret
def qmc15:yX:=.seq qmc12 qmc14
def qmc16:yX:=yq qmr1 qmc15
def qmc17:yX:=yq qmr0 qmc16
attribute [go_sem] qmr0 qmr1 qmr2 qmr3 qmr6 qmr7 qmr13
theorem qmok:cFn TC 56=some (17,[.t 2],qmc17):=by kernel_rfl
def qnr0:yW:=[
 yI 1 (.box (.t 0)),
 yI 2 (.mv (.v (.str [])))]
def qnr1:yW:=[
 yI 3 (.slice (.arr 32 1) (.t 1) none none none),
 yI 4 (.conv .str (.t 3)),
 yM 2 4]
def qnc2:yX:=yq qnr1 .ret
def qnc3:yX:=yq qnr0 qnc2
attribute [go_sem] qnr0 qnr1
theorem qnok:cFn TC 51=some (5,[.t 2],qnc3):=by kernel_rfl
def qor0:yW:=[
 yK 2 .i64 0]
def qor1:yW:=[
 yK 3 .i64 0]
def qor2:yW:=[
 yK 4 .i64 1]
def qor3:yW:=[
 yM 5 4,
 yM 6 0,
 yB 7 .lss 5 6,
 yM 8 7,
 yV 9 8 true 4,
 yG 10 8 true (.bin .gtr .none (.t 9) (.v (.int .i64 0))),
 yQ 11 8 10]
def qoc4:yX:=.cond (.t 11) .skip (.exit 0)
def qoc5:yX:=yq qor3 qoc4
def qor6:yW:=[
 yM 14 4,
 yM 3 14]
def qor7:yW:=[
 yM 12 4,
 yJ 13 .mul 12 .i64 2,
 yM 4 13]
def qoc8:yX:=.seq (.block 1 (.reg qor6)) (.reg qor7)
def qoc9:yX:=.seq qoc5 qoc8
def qoc10:yX:=.loop qoc9
def qoc11:yX:=.block 0 qoc10
def qoc12:yX:=yq qor2 qoc11
def qor13:yW:=[
 yM 15 3,
 yM 2 15]
def qoc14:yX:=yq qor13 .ret
def qoc15:yX:=.seq qoc12 qoc14
def qoc16:yX:=yq qor1 qoc15
def qoc17:yX:=yq qor0 qoc16
attribute [go_sem] qor0 qor1 qor2 qor3 qor6 qor7 qor13
theorem qook:cFn TC 90=some (16,[.t 2],qoc17):=by kernel_rfl
end
section
theorem ze0(s:List UInt8):(shaS s).length=32:=z4p _
def z1x(a b:List UInt8):List UInt8:=shaS (1::(a++b))
theorem zan(a b:List UInt8):(z1x a b).length=32:=ze0 _
theorem zc8:∀(l:List UInt8),chunk 1 l.length (zx l)=zh l
 | []=>rfl
 |b::l=>by
  have:=zc8 l
  simp only [zx,zh]at this
  simp [zx,zh,chunk,B8]at this ⊢
  exact this
theorem z8k(O:Store)(h:List UInt8)(hl:h.length=32):ACallsTo TC 51 [.agg (zx h)] O (.str h) O:=by
 refine ACallsTo.of_body qnok (by simp) fun hw _=> ?_
 have h1:=zu h
 have hc:=zc8 h
 rw [hl]at h1 hc
 repeat' (first|apply zs_|apply zb_|apply zc_|apply zt_ rfl|apply zf_ rfl|(apply zd_ rfl<;>intro ht<;>try omega)|((first|apply zr_|apply zk_|apply ze_|apply zq_|(apply zG<;>intro ht));all_goals try simp (disch:=first|omega|(simp only [lens];first|done|omega)) only [go_sem,h1,hc]))
 exact DownV.pure hw (z13 _ rfl)
def OwnN(sz:Nat)(τ O':Store)(v:AV)(es:List (List AV)):Prop:=
 ∃news,O'=τ++news/\ ((es=[]/\ v=.nilsl) \/ ∃j,es ≠ []/\ v=.sl (τ.length+j) 0 es.length none sz/\ news[j]? =some (some es))
theorem OwnN.len{sz:Nat}{τ O':Store}{v:AV}{es:List (List AV)}(h:OwnN sz τ O' v es):z1c v=some (.int .i64 es.length):=by
 obtain⟨news,rfl,⟨rfl,rfl⟩| ⟨j,_,rfl,h⟩⟩:=h<;>rfl
theorem OwnN.appB{sz:Nat}{τ O':Store}{v:AV}{es ys:List (List AV)}(h:OwnN sz τ O' v es):z2j O' v ys=aApp O' 1 v ys:=by
 obtain⟨news,rfl,⟨rfl,rfl⟩| ⟨j,_,rfl,h⟩⟩:=h<;>rfl
theorem OwnN.nil{sz:Nat}{τ news:Store}:OwnN sz τ (τ++news) .nilsl []:=⟨news,rfl,.inl ⟨rfl,rfl⟩⟩
theorem OwnN.ext{sz:Nat}{τ O':Store}{v:AV}{es:List (List AV)}(h:OwnN sz τ O' v es):∃news,O'=τ++news:=by
 obtain⟨news,h,_⟩:=h;exact⟨news,h⟩
theorem OwnN.more{sz:Nat}{τ O':Store}{v:AV}{es:List (List AV)}(h:OwnN sz τ O' v es)(y:Store):OwnN sz τ (O'++y) v es:=by
 obtain⟨news,rfl,h| ⟨j,h0,rfl,h⟩⟩:=h
 ·exact⟨news++y,by rw [List.append_assoc],.inl h⟩
 ·exact⟨news++y,by rw [List.append_assoc],.inr ⟨j,h0,rfl,by rw [List.getElem?_append_left (List.getElem?_eq_some_iff.1 h).1];exact h⟩⟩
theorem OwnN.app{sz:Nat}{τ O':Store}{v:AV}{es ys:List (List AV)}(h:OwnN sz τ O' v es)(h0:ys.length ≠ 0)(hl:es.length+ys.length<=1073741824):
  ∃v' O'',aApp O' sz v ys=some (v',O'')/\ OwnN sz τ O'' v' (es++ys):=by
 have hne:es++ys ≠ []:=fun e=>h0 (by rw [(List.append_eq_nil_iff.1 e).2];rfl)
 obtain⟨news,rfl,⟨rfl,rfl⟩| ⟨j,_,rfl,h⟩⟩:=h
 ·refine⟨_,_,by rw [za0,if_neg h0,if_pos (by simpa using hl)],news++ [some ys],by rw [List.append_assoc],.inr ⟨news.length,hne,by simp,by rw [List.getElem?_append_right (Nat.le_refl _)];simp⟩⟩
 ·have hj:=(List.getElem?_eq_some_iff.1 h).1
  have hg:(τ++news)[τ.length+j]? =some (some es):=by rw [List.getElem?_append_right (by omega),Nat.add_sub_cancel_left];exact h
  refine⟨.sl (τ++news).length 0 (es.length+ys.length) none sz,(τ++news).set (τ.length+j) none++ [some (es++ys)],?_,news.set j none++ [some (es++ys)],?_,.inr ⟨news.length,hne,by simp,by rw [List.getElem?_append_right (by simp)];simp⟩⟩
  ·rw [za1,if_neg h0,hg]
   simp only
   rw [if_pos ⟨trivial,by omega,by omega⟩,if_neg (by omega),List.drop_zero,List.take_of_length_le (Nat.le_refl _)]
  ·rw [List.set_append_right _ _ (by omega),Nat.add_sub_cancel_left,List.append_assoc]
theorem OwnN.sl{sz:Nat}{τ O':Store}{v:AV}{es:List (List AV)}(h:OwnN sz τ O' v es)(h0:es ≠ []):∃r,v=.sl r 0 es.length none sz/\ O'[r]? =some (some es)/\ τ.length<=r:=by
 obtain⟨news,rfl,⟨rfl,rfl⟩| ⟨j,_,rfl,h⟩⟩:=h
 ·exact absurd rfl h0
 ·exact⟨_,rfl,by rw [List.getElem?_append_right (by omega),Nat.add_sub_cancel_left];exact h,by omega⟩
def SlV(sz:Nat)(es:List (List AV))(x:AV):Prop:=(x=.nilsl/\ es=[]) \/ ∃ex,x=.vsl sz es ex
theorem SlV.len{sz:Nat}{es:List (List AV)}{x:AV}(h:SlV sz es x):z1c x=some (.int .i64 es.length):=by
 rcases h with⟨rfl,rfl⟩| ⟨ex,rfl⟩<;>rfl
theorem SlV.vsl{sz:Nat}{es:List (List AV)}{x:AV}(h:SlV sz es x)(h0:0<es.length):∃ex,x=.vsl sz es ex:=by
 rcases h with⟨rfl,rfl⟩|h
 ·simp at h0
 ·exact h
def z18(sz:Nat)(es:List (List AV)):AV:=if es=[]then .nilsl else .vsl sz es false
theorem z69(sz:Nat)(es:List (List AV)):SlV sz es (z18 sz es):=by
 unfold z18
 split
 ·rename_i h;exact .inl ⟨rfl,h⟩
 ·exact .inr ⟨false,rfl⟩
def ownV(O:Store)(sz:Nat)(es:List (List AV)):AV:=if es=[]then .nilsl else .sl O.length 0 es.length none sz
def ownS(O:Store)(es:List (List AV)):Store:=if es=[]then O else O++ [some es]
theorem z7g(O:Store)(sz:Nat)(es:List (List AV)):OwnN sz O (ownS O es) (ownV O sz es) es:=by
 unfold ownV ownS
 by_cases h:es=[]
 ·rw [if_pos h,if_pos h];exact⟨[],by simp,.inl ⟨h,rfl⟩⟩
 ·rw [if_neg h,if_neg h];exact⟨[some es],rfl,.inr ⟨0,h,rfl,rfl⟩⟩
theorem OwnN.froze{sz:Nat}{O O':Store}{v:AV}{es:List (List AV)}(hw:Wf O.length O)(h:OwnN sz O O' v es)(hr:RLss O.length es):DownV O.length v O' (z18 sz es) O:=by
 unfold z18
 obtain⟨news,rfl,⟨rfl,rfl⟩| ⟨j,h0,rfl,h⟩⟩:=h
 ·rw [if_pos rfl];exact DownV.pure hw (z13 _ rfl)
 ·have e:(es.drop 0).take es.length=es:=by rw [List.drop_zero,List.take_of_length_le (Nat.le_refl _)]
  have:=DownV.froze (off:=0) (len:=es.length) (esz:=sz) (lim:=none) hw h (by omega) (by rw [e];exact hr)
  rw [e]at this
  rw [if_neg h0];exact this
theorem OwnN.own{sz:Nat}{O O':Store}{v:AV}{es:List (List AV)}(hw:Wf O.length O)(h:OwnN sz O O' v es)(hr:RLss O.length es):DownV O.length v O' (ownV O sz es) (ownS O es):=by
 unfold ownV ownS
 obtain⟨news,rfl,⟨rfl,rfl⟩| ⟨j,h0,rfl,h⟩⟩:=h
 ·rw [if_pos rfl,if_pos rfl];exact DownV.pure hw (z13 _ rfl)
 ·rw [if_neg h0,if_neg h0];exact DownV.own (off:=0) (len:=es.length) (esz:=sz) (lim:=none) hw h hr
theorem zkx{l:List UInt8}{i:Nat}(h:i<l.length):(zx l)[i]? =some (.int .u8 (l.getD i 0).toNat):=by
 simp [zx,List.getD_eq_getElem?_getD,List.getElem?_eq_getElem h]
theorem z93(O:Store)(h:List UInt8)(hl:h.length=32):ACallsTo TC 56 [.agg (zx h)] O (.str h) O:=by
 refine ACallsTo.of_body qmok (by simp) fun hw _=> ?_
 have h1:=zu h
 rw [hl]at h1
 repeat' (first|apply zs_|apply zb_|apply zc_|apply zt_ rfl|apply zf_ rfl|(apply zd_ rfl<;>intro ht<;>try omega)|((first|apply zr_|apply zk_|apply ze_|apply zq_|(apply zG<;>intro ht));all_goals try simp (disch:=first|omega|(simp only [lens];first|done|omega)) only [go_sem,h1]))
 refine zW.loop (fun m Z O'=>∃i:Nat,m+i=32/\ Z 1=.ptr O.length 0 0/\ Z 4=.int .i64 i/\ OwnN 1 (O++ [some [zx h]]) O' (Z 3) (zh (h.take i))) 32 ?_ ?_
 ·refine⟨0,by omega,by simp (disch:=first|omega|(simp only [lens];first|done|omega)) only [go_sem],by simp (disch:=first|omega|(simp only [lens];first|done|omega)) only [go_sem];rfl,?_⟩
  simp (disch:=first|omega|(simp only [lens];first|done|omega)) only [go_sem]
  have:=OwnN.nil (sz:=1) (τ:=O++ [some [zx h]]) (news:=[])
  rwa [List.append_nil]at this
 ·rintro m Z O' ⟨i,hm,q1,q4,hO⟩
  by_cases hi:i<32
  ·have hg:=zkx (l:=h) (i:=i) (by omega)
   have hs:h.take (i+1)=h.take i++ [h.getD i 0]:=by
    rw [List.take_add_one,List.getD_eq_getElem?_getD,List.getElem?_eq_getElem (by omega)];rfl
   obtain⟨v',O2,he,hO2⟩:=hO.app (ys:=zh [h.getD i 0]) (by simp [zh]) (by simp [z8];omega)
   have ho:O'[O.length]? =some (some [zx h]):=by
    obtain⟨news,rfl,_⟩:=hO
    rw [List.append_assoc,List.getElem?_append_right (Nat.le_refl _),Nat.sub_self];rfl
   have hb:zh [h.getD i 0]=[[.int .u8 (h.getD i 0).toNat]]:=rfl
   rw [hb]at he
   rw [<-hO.appB]at he
   generalize h.getD i 0=x at*
   generalize hv:Z 3=v at*
   repeat' (first|apply zs_|apply zb_|apply zc_|apply zt_ rfl|apply zf_ rfl|(apply zd_ rfl<;>intro ht<;>try omega)|((first|apply zr_|apply zk_|apply ze_|apply zq_|(apply zG<;>intro ht));all_goals try simp (disch:=first|omega|(simp only [lens];first|done|omega)) only [go_sem,q1,q4,hv,ho,h1,hg,he]))
   refine⟨32-(i+1),by omega,i+1,by omega,by simp,?_⟩
   rw [hs,<-z8d]
   exact hO2
  ·obtain rfl:i=32:=by omega
   rw [List.take_of_length_le (by omega)]at hO
   obtain⟨r,q3,hg,_⟩:=hO.sl (by intro e;have:=z8 h;rw [e]at this;simp at this;omega)
   rw [z8]at q3
   repeat' (first|apply zs_|apply zb_|apply zc_|apply zt_ rfl|apply zf_ rfl|(apply zd_ rfl<;>intro ht<;>try omega)|((first|apply zr_|apply zk_|apply ze_|apply zq_|(apply zG<;>intro ht));all_goals try simp (disch:=first|omega|(simp only [lens];first|done|omega)) only [go_sem,q1,q4,q3,hg]))
   obtain⟨news,rfl,_⟩:=hO
   rw [List.append_assoc]
   exact DownV.pure hw (z13 _ rfl)
theorem zee(O:Store)(a b:List UInt8)(ha:a.length=32)(hb:b.length=32):ACallsTo TC 48 [.agg (zx a),.agg (zx b)] O (.agg (zx (z1x a b))) O:=by
 refine ACallsTo.of_body qiok (by simp) fun hw _=> ?_
 have h1:=zu a
 have h2:=zu b
 have h3:=zu (z1x a b)
 rw [ha]at h1
 rw [hb]at h2
 rw [zan]at h3
 obtain⟨n,hn⟩:∃n,n=z1x a b:=⟨_,rfl⟩
 have hs:∀O,ACallsTo TC 21 [.str (1::(a++b))] O (.agg (zx n)) O:=fun O=>by rw [hn];exact z7r O _ (by simp;omega)
 rw [<-hn]at h3 ⊢
 repeat' (first|refine zs_ ?_|refine zb_ ?_|refine zc_ ?_|refine zt_ rfl ?_|refine zf_ rfl ?_|(refine zd_ rfl (fun ht=> ?_) (fun ht=> ?_)<;>try (exfalso;omega))|((first|refine zW.regS ?_|refine zk_ ?_|refine ze_ ?_|refine zq_ ?_|(apply callW.mk_pu;(first|exact(fun _=>z8k _ _ ha)|exact(fun _=>z8k _ _ hb)|exact(fun _=>hs _)))|(apply callW.za;(first|exact(z8k _ _ ha)|exact(z8k _ _ hb)|exact(hs _)))|(apply zG<;>intro ht));all_goals try simp (disch:=first|omega|(simp only [lens];first|done|omega)) only [go_sem,h1,h2,h3]))
 exact DownV.pure hw (z43 (z2o _))
theorem zr1(O:Store)(a b:List UInt8)(ha:a.length=32)(hb:b.length=32):ACallsTo TC 91 [.agg (zx a),.agg (zx b)] O (.agg (zx (z1x a b))) O:=by
 refine ACallsTo.of_body qlok (by simp) fun hw _=> ?_
 have h1:=zu a
 have h2:=zu b
 have h3:=zu (z1x a b)
 rw [ha]at h1
 rw [hb]at h2
 rw [zan]at h3
 obtain⟨n,hn⟩:∃n,n=z1x a b:=⟨_,rfl⟩
 have hs:∀O,ACallsTo TC 54 [.str (1::(a++b))] O (.agg (zx n)) O:=fun O=>by rw [hn];exact zid O _ (by simp;omega)
 rw [<-hn]at h3 ⊢
 repeat' (first|refine zs_ ?_|refine zb_ ?_|refine zc_ ?_|refine zt_ rfl ?_|refine zf_ rfl ?_|(refine zd_ rfl (fun ht=> ?_) (fun ht=> ?_)<;>try (exfalso;omega))|((first|refine zW.regS ?_|refine zk_ ?_|refine ze_ ?_|refine zq_ ?_|(apply callW.mk_pu;(first|exact(fun _=>z93 _ _ ha)|exact(fun _=>z93 _ _ hb)|exact(fun _=>hs _)))|(apply callW.za;(first|exact(z93 _ _ ha)|exact(z93 _ _ hb)|exact(hs _)))|(apply zG<;>intro ht));all_goals try simp (disch:=first|omega|(simp only [lens];first|done|omega)) only [go_sem,h1,h2,h3]))
 exact DownV.pure hw (z43 (z2o _))
end
section
def zm(n:Nat):Nat:=if n<2 then 0 else 2^Nat.log2 (n-1)
theorem z49{n:Nat}(h:2<=n):zm n<n/\ n<=2*zm n/\ 0<zm n:=by
 unfold zm
 rw [if_neg (by omega)]
 have h1:=Nat.log2_self_le (n:=n-1) (by omega)
 have h2:=Nat.lt_log2_self (n:=n-1)
 rw [Nat.pow_succ]at h2
 have h3:0<2^Nat.log2 (n-1):=Nat.pow_pos (by decide)
 omega
theorem zbc{n j:Nat}(h1:2^j<n)(h2:n<=2^(j+1)):zm n=2^j:=by
 have h3:0<2^j:=Nat.pow_pos (by decide)
 unfold zm
 rw [if_neg (by omega)]
 have h4:=Nat.log2_self_le (n:=n-1) (by omega)
 have h5:=Nat.lt_log2_self (n:=n-1)
 congr 1
 generalize Nat.log2 (n-1)=i at*
 have a1:2^j<2^(i+1):=by omega
 have a2:2^i<2^(j+1):=by omega
 have b1:=(Nat.pow_lt_pow_iff_right (by decide:1<2)).1 a1
 have b2:=(Nat.pow_lt_pow_iff_right (by decide:1<2)).1 a2
 omega
theorem zbi(O:Store)(n:Nat)(h:n<1000000000000):ACallsTo TC 37 [.int .i64 n] O (.int .i64 (zm n)) O:=by
 refine ACallsTo.of_body qjok (by simp) fun hw _=> ?_
 by_cases h2:n<2
 ·have e:zm n=0:=by unfold zm;rw [if_pos h2]
  rw [e]
  repeat' (first|apply zs_|apply zb_|apply zc_|apply zt_ rfl|apply zf_ rfl|(apply zd_ rfl<;>intro ht<;>try omega)|((first|apply zr_|apply zk_|apply ze_|apply zq_|(apply zG<;>intro ht));all_goals try simp (disch:=first|omega|(simp only [lens];first|done|omega)) only [go_sem]))
  exact DownV.same hw (z13 _ rfl)
 ·repeat' (first|apply zs_|apply zb_|apply zc_|apply zt_ rfl|apply zf_ rfl|(apply zd_ rfl<;>intro ht<;>try omega)|((first|apply zr_|apply zk_|apply ze_|apply zq_|(apply zG<;>intro ht));all_goals try simp (disch:=first|omega|(simp only [lens];first|done|omega)) only [go_sem]))
  refine zW.loop (fun m Z O'=>∃j:Nat,m=n-2^j/\ 2^j<n/\ Z 0=.int .i64 n/\ Z 3=.int .i64 ((2^j:Nat):Int)/\ O'=O) (n-1) ?_ ?_
  ·exact⟨0,rfl,by omega,by simp (disch:=first|omega|(simp only [lens];first|done|omega)) only [go_sem],by simp (disch:=first|omega|(simp only [lens];first|done|omega)) only [go_sem];rfl,rfl⟩
  ·rintro m Z O' ⟨j,hm,hj,q0,q3,rfl⟩
   have hp:0<2^j:=Nat.pow_pos (by decide)
   have hs:2^(j+1)=2^j*2:=Nat.pow_succ ..
   generalize hk:2^j=k at*
   by_cases hc:(k:Int)<n-k
   ·repeat' (first|apply zs_|apply zb_|apply zc_|apply zt_ rfl|apply zf_ rfl|(apply zd_ rfl<;>intro ht<;>try omega)|((first|apply zr_|apply zk_|apply ze_|apply zq_|(apply zG<;>intro ht));all_goals try simp (disch:=first|omega|(simp only [lens];first|done|omega)) only [go_sem,q0,q3]))
    exact⟨n-k*2,by omega,j+1,by rw [hs],by omega,by rw [hs];rfl⟩
   ·have e:zm n=k:=by rw [<-hk];exact zbc (by omega) (by omega)
    rw [e]
    repeat' (first|apply zs_|apply zb_|apply zc_|apply zt_ rfl|apply zf_ rfl|(apply zd_ rfl<;>intro ht<;>try omega)|((first|apply zr_|apply zk_|apply ze_|apply zq_|(apply zG<;>intro ht));all_goals try simp (disch:=first|omega|(simp only [lens];first|done|omega)) only [go_sem,q0,q3]))
    exact DownV.same hw (z13 _ rfl)
theorem zr2(O:Store)(n:Nat)(h:n<1000000000000):ACallsTo TC 90 [.int .i64 n] O (.int .i64 (zm n)) O:=by
 refine ACallsTo.of_body qook (by simp) fun hw _=> ?_
 repeat' (first|apply zs_|apply zb_|apply zc_|apply zt_ rfl|apply zf_ rfl|(apply zd_ rfl<;>intro ht<;>try omega)|((first|apply zr_|apply zk_|apply ze_|apply zq_|(apply zG<;>intro ht));all_goals try simp (disch:=first|omega|(simp only [lens];first|done|omega)) only [go_sem]))
 refine zW.loop (fun m Z O'=>∃j k:Nat,m=n-2^j/\ ((j=0/\ k=0) \/(k<n/\ 2^j=k*2/\ ∃i,k=2^i))/\ Z 0=.int .i64 n/\ Z 3=.int .i64 k/\ Z 4=.int .i64 ((2^j:Nat):Int)/\ O'=O) (n-1) ?_ ?_
 ·exact⟨0,0,rfl,.inl ⟨rfl,rfl⟩,by simp (disch:=first|omega|(simp only [lens];first|done|omega)) only [go_sem],by simp (disch:=first|omega|(simp only [lens];first|done|omega)) only [go_sem];rfl,by simp (disch:=first|omega|(simp only [lens];first|done|omega)) only [go_sem];rfl,rfl⟩
 ·rintro m Z O' ⟨j,k,hm,hk,q0,q3,q4,rfl⟩
  have hp:0<2^j:=Nat.pow_pos (by decide)
  have hs:2^(j+1)=2^j*2:=Nat.pow_succ ..
  by_cases hc:2^j<n
  ·generalize hmm:2^j=mm at*
   repeat' (first|apply zs_|apply zb_|apply zc_|apply zt_ rfl|apply zf_ rfl|(apply zd_ rfl<;>intro ht<;>try omega)|((first|apply zr_|apply zk_|apply ze_|apply zq_|(apply zG<;>intro ht));all_goals try simp (disch:=first|omega|(simp only [lens];first|done|omega)) only [go_sem,q0,q3,q4]))
   clear hk
   exact⟨n-mm*2,by omega,j+1,mm,by rw [hs],.inr ⟨hc,hs,j,hmm.symm⟩,rfl,by rw [hs];rfl⟩
  ·have e:zm n=k:=by
    rcases hk with⟨rfl,rfl⟩| ⟨h1,h2,i,rfl⟩
    ·unfold zm;rw [if_pos (by simp at hc;omega)]
    ·exact zbc h1 (by rw [Nat.pow_succ];omega)
   rw [e]
   clear e hk hs
   generalize hmm:2^j=mm at*
   repeat' (first|apply zs_|apply zb_|apply zc_|apply zt_ rfl|apply zf_ rfl|(apply zd_ rfl<;>intro ht<;>try omega)|((first|apply zr_|apply zk_|apply ze_|apply zq_|(apply zG<;>intro ht));all_goals try simp (disch:=first|omega|(simp only [lens];first|done|omega)) only [go_sem,q0,q3,q4]))
   exact DownV.same hw (z13 _ rfl)
def z6q:Nat->List (List UInt8)->List UInt8
 | 0,_=>[]
 | _+1,[]=>shaS []
 | _+1,[h]=>h
 |f+1,a::b::l=>z1x (z6q f ((a::b::l).take (zm (l.length+2)))) (z6q f ((a::b::l).drop (zm (l.length+2))))
theorem zb5:∀(f g:Nat) (l:List (List UInt8)),l.length<f->l.length<g->z6q f l=z6q g l
 | 0,_,_,h,_=>by omega
 | _+1,0,_,_,h=>by omega
 |f+1,g+1,[],_,_=>rfl
 |f+1,g+1,[_],_,_=>rfl
 |f+1,g+1,a::b::l,h,h'=>by
  obtain⟨s1,s2,s3⟩:=z49 (n:=l.length+2) (by omega)
  simp only [List.length_cons]at h h'
  simp only [z6q]
  rw [zb5 f g ((a::b::l).take (zm (l.length+2))) (by rw [List.length_take];simp;omega) (by rw [List.length_take];simp;omega),
   zb5 f g ((a::b::l).drop (zm (l.length+2))) (by rw [List.length_drop];simp;omega) (by rw [List.length_drop];simp;omega)]
def z21(l:List (List UInt8)):List UInt8:=z6q (l.length+1) l
theorem zrf:z21 []=shaS []:=rfl
theorem zdr{l:List (List UInt8)}(h:2<=l.length):z21 l=z1x (z21 (l.take (zm l.length))) (z21 (l.drop (zm l.length))):=by
 match l,h with
 |a::b::l,_=>
  obtain⟨s1,s2,s3⟩:=z49 (n:=l.length+2) (by omega)
  unfold z21
  simp only [z6q,List.length_cons]
  congr 1
  ·refine zb5 _ _ _ ?_ (Nat.lt_succ_self _)
   rw [List.length_take]
   simp only [List.length_cons]
   omega
  ·refine zb5 _ _ _ ?_ (Nat.lt_succ_self _)
   rw [List.length_drop]
   simp only [List.length_cons]
   omega
def H32(l:List (List UInt8)):Prop:=∀h ∈ l,h.length=32
theorem H32.take{l:List (List UInt8)}(h:H32 l)(n:Nat):H32 (l.take n):=fun x hx=>h x (List.mem_of_mem_take hx)
theorem H32.drop{l:List (List UInt8)}(h:H32 l)(n:Nat):H32 (l.drop n):=fun x hx=>h x (List.mem_of_mem_drop hx)
theorem z94{l:List (List UInt8)}(h:H32 l):(z21 l).length=32:=by
 match l,h with
 | [],_=>exact ze0 _
 | [x],h=>exact h x (by simp)
 |a::b::l,_=>rw [zdr (by simp)];exact zan _ _
end
section
def z29(l:List (List UInt8)):List (List AV):=l.map zx
theorem zgo(l:List (List UInt8)):(z29 l).length=l.length:=by simp [z29]
theorem zdo{k:Nat}:∀(l:List (List UInt8)),RLss k (z29 l)
 | []=>by simp [z29,RLss]
 |h::l=>by have:=zdo (k:=k) l;simp only [z29]at this;simp [z29,RLss,this,z2o]
theorem zkc(hs:List (List UInt8))(hH:H32 hs)(hl:hs.length<1000000000)(ex:Bool)(r1 r3:Nat):
  ∀(d:Nat) (O:Store) (a:Nat),0<d->a+d<=hs.length->O[r1]? =some (some [[.vsl 32 (z29 hs) ex]])->O[r3]? =some (some [[.fn 70 [.ptr r1 0 0,.ptr r3 0 0]]])->
   ACallsTo TC 70 [.int .i64 a,.int .i64 ((a+d:Nat):Int),.ptr r1 0 0,.ptr r3 0 0] O (.agg (zx (z21 ((hs.drop a).take d)))) O:=by
 intro d
 induction d using Nat.strongRecOn with
 | _ d ih=>
  intro O a h0 had hg1 hg3
  have hr1:=(List.getElem?_eq_some_iff.1 hg1).1
  have hr3:=(List.getElem?_eq_some_iff.1 hg3).1
  obtain⟨L,hL⟩:∃L,L=(hs.drop a).take d:=⟨_,rfl⟩
  have hLl:L.length=d:=by rw [hL,List.length_take,List.length_drop];omega
  have hLH:H32 L:=by rw [hL];exact(hH.drop a).take d
  have hn:=z94 hLH
  have hc:=zu (z21 L)
  rw [hn]at hc
  rw [<-hL]
  have hsub:((a+d:Nat):Int)-a=d:=by omega
  by_cases h1:d=1
  ·have e0:zm d=0:=by unfold zm;rw [if_pos (by omega)]
   have hsp:=fun O=>zbi O d (by omega)
   rw [e0]at hsp
   obtain⟨x,hx⟩:∃x,hs[a]? =some x:=⟨_,List.getElem?_eq_getElem (by omega)⟩
   have hgr:(z29 hs)[a]? =some (zx x):=by simp [z29,hx]
   have eL:z21 L=x:=by
    have:L=[x]:=by
     rw [hL,h1]
     apply List.ext_getElem?
     intro i
     cases i with
     |zero=>simp [List.getElem?_take,List.getElem?_drop,hx]
     |succ i=>simp [List.getElem?_take]
    rw [this];rfl
   rw [eL]at hc ⊢
   have hrl:=zgo hs
   clear eL
   generalize z29 hs=rows at*
   refine ACallsTo.of_body qkok (by simp) fun hw _=> ?_
   repeat' (first|apply zs_|apply zb_|apply zc_|apply zt_ rfl|apply zf_ rfl|(apply zd_ rfl<;>intro ht<;>try omega)|((first|apply zr_|apply zk_|apply ze_|apply zq_|(apply callW.mk_pu;(first|exact(fun _=>hsp _)))|(apply callW.za;(first|exact(hsp _)))|(apply zG<;>intro ht));all_goals try simp (disch:=first|omega|(simp only [lens];first|done|omega)) only [go_sem,hsub,hg1,hgr,hc]))
   exact DownV.pure hw (z43 (z2o _))
  ·obtain⟨s1,s2,s3⟩:=z49 (n:=d) (by omega)
   have hsp:=fun O=>zbi O d (by omega)
   have eL:=zdr (l:=L) (by omega)
   rw [hLl]at eL
   have t1:L.take (zm d)=(hs.drop a).take (zm d):=by rw [hL,List.take_take,Nat.min_eq_left (by omega)]
   have t2:L.drop (zm d)=(hs.drop (a+zm d)).take (d-zm d):=by rw [hL,List.drop_take,List.drop_drop]
   generalize hk:zm d=k at*
   have i1:=fun y=>ih k (by omega) (O++y) a (by omega) (by omega) (by rw [gapp hr1];exact hg1) (by rw [gapp hr3];exact hg3)
   have i2:=fun y=>ih (d-k) (by omega) (O++y) (a+k) (by omega) (by omega) (by rw [gapp hr1];exact hg1) (by rw [gapp hr3];exact hg3)
   rw [<-t1]at i1
   rw [<-t2]at i2
   rw [show a+k+(d-k)=a+d by omega]at i2
   have n1:=z94 (hLH.take k)
   have n2:=z94 (hLH.drop k)
   have e1:((a:Int)+k)=((a+k:Nat):Int):=by omega
   rw [eL]at hc ⊢
   generalize z21 (L.take k)=A at*
   generalize z21 (L.drop k)=B at*
   have k0:¬(k:Int)=0:=by omega
   refine ACallsTo.of_body qkok (by simp) fun hw _=> ?_
   repeat' (first|refine zs_ ?_|refine zb_ ?_|refine zc_ ?_|refine zt_ rfl ?_|refine zf_ rfl ?_|(refine zd_ rfl (fun ht=> ?_) (fun ht=> ?_)<;>try (exfalso;omega))|((first|refine zW.regS ?_|refine zk_ ?_|refine ze_ ?_|refine zq_ ?_|(apply callW.mk_pu;(first|exact(fun _=>hsp _)|exact(fun _=>i1 _)|exact(fun _=>i2 _)|exact(fun _=>zee _ _ _ n1 n2)))|(apply callW.za;(first|exact(hsp _)|exact(i1 _)|exact(i2 _)|exact(zee _ _ _ n1 n2)))|(apply zG<;>intro ht));all_goals try simp (disch:=first|omega|(simp only [lens];first|done|omega)) only [go_sem,hsub,hg1,hg3,hc,e1]))
   exact DownV.pure hw (z43 (z2o _))
theorem ztb(O:Store)(hs:List (List UInt8))(x:AV)(hx:SlV 32 (z29 hs) x)(hH:H32 hs)(hl:hs.length<1000000000):ACallsTo TC 46 [x] O (.agg (zx (z21 hs))) O:=by
 have hc:=zu (z21 hs)
 rw [z94 hH]at hc
 have hrl:=zgo hs
 by_cases h0:hs=[]
 ·subst h0
  have hx':=hx.len
  unfold z1c at hx'
  refine ACallsTo.of_body qhok (by simp) fun hw _=> ?_
  rw [zrf]at hc ⊢
  rcases hx with⟨rfl,h⟩| ⟨ex,rfl⟩
  ·repeat' (first|apply zs_|apply zb_|apply zc_|apply zt_ rfl|apply zf_ rfl|(apply zd_ rfl<;>intro ht<;>try omega)|((first|apply zr_|apply zk_|apply ze_|apply zq_|(apply callW.mk_pu;(first|exact(fun _=>z7r _ [] (by simp))))|(apply callW.za;(first|exact(z7r _ [] (by simp))))|(apply zG<;>intro ht));all_goals try simp (disch:=first|omega|(simp only [lens];first|done|omega)) only [go_sem,hc]))
   exact DownV.pure hw (z43 (z2o _))
  ·repeat' (first|apply zs_|apply zb_|apply zc_|apply zt_ rfl|apply zf_ rfl|(apply zd_ rfl<;>intro ht<;>try omega)|((first|apply zr_|apply zk_|apply ze_|apply zq_|(apply callW.mk_pu;(first|exact(fun _=>z7r _ [] (by simp))))|(apply callW.za;(first|exact(z7r _ [] (by simp))))|(apply zG<;>intro ht));all_goals try simp (disch:=first|omega|(simp only [lens];first|done|omega)) only [go_sem,hc,hrl]))
   exact DownV.pure hw (z43 (z2o _))
 ·have hpos:0<hs.length:=List.length_pos_iff.2 h0
  obtain⟨ex,rfl⟩:=hx.vsl (by rw [hrl];exact hpos)
  have h1:=zkc hs hH hl ex O.length (O.length+2) hs.length
  refine ACallsTo.of_body qhok (by simp) fun hw _=> ?_
  have h1:=fun O'=>h1 O' 0 hpos (by omega)
  simp only [Nat.zero_add,List.drop_zero,List.take_length]at h1
  generalize z21 hs=R at*
  generalize z29 hs=rows at*
  repeat' (first|apply zs_|apply zb_|apply zc_|apply zt_ rfl|apply zf_ rfl|(apply zd_ rfl<;>intro ht<;>try omega)|((first|apply zr_|apply zk_|apply ze_|apply zq_|(apply callW.mk_pu;(first|exact(fun _=>h1 _ (by simp) (by simp))))|(apply callW.za;(first|exact(h1 _ (by simp) (by simp))))|(apply zG<;>intro ht));all_goals try simp (disch:=first|omega|(simp only [lens];first|done|omega)) only [go_sem,hc,hrl]))
  exact DownV.pure hw (z43 (z2o _))
end
section
def RdSl(O:Store)(sz:Nat)(es:List (List AV))(x:AV):Prop:=
 SlV sz es x \/ ∃r off lim o,x=.sl r off es.length lim sz/\ O[r]? =some (some o)/\ off+es.length<=o.length/\ (o.drop off).take es.length=es
theorem RdSl.of{O:Store}{sz:Nat}{es:List (List AV)}{x:AV}(h:SlV sz es x):RdSl O sz es x:=.inl h
theorem OwnN.rd{sz:Nat}{τ O':Store}{v:AV}{es:List (List AV)}(h:OwnN sz τ O' v es):RdSl O' sz es v:=by
 by_cases h0:es=[]
 ·obtain⟨news,rfl,⟨rfl,rfl⟩| ⟨j,h1,_⟩⟩:=h
  ·exact .inl (.inl ⟨rfl,rfl⟩)
  ·exact absurd h0 h1
 ·obtain⟨r,rfl,hg,_⟩:=h.sl h0
  exact .inr ⟨r,0,none,es,rfl,hg,by omega,by rw [List.drop_zero,List.take_of_length_le (Nat.le_refl _)]⟩
theorem RdSl.app{O y:Store}{sz:Nat}{es:List (List AV)}{x:AV}(h:RdSl O sz es x):RdSl (O++y) sz es x:=by
 rcases h with h| ⟨r,off,lim,o,rfl,hg,h1,h2⟩
 ·exact .inl h
 ·exact .inr ⟨r,off,lim,o,rfl,by rw [gapp (List.getElem?_eq_some_iff.1 hg).1];exact hg,h1,h2⟩
theorem RdSl.len{O:Store}{sz:Nat}{es:List (List AV)}{x:AV}(h:RdSl O sz es x):z1c x=some (.int .i64 es.length):=by
 rcases h with h| ⟨r,off,lim,o,rfl,_⟩
 ·exact h.len
 ·rfl
theorem RdSl.lend{O:Store}{sz:Nat}{es:List (List AV)}{x:AV}(h:RdSl O sz es x)(hr:RLss 0 es):∃x0,SlV sz es x0/\ DR (z3j O) x0 x:=by
 rcases h with h| ⟨r,off,lim,o,rfl,hg,h1,h2⟩
 ·refine⟨x,h,DR.refl (k:=0) (by omega) x ?_⟩
  rcases h with⟨rfl,_⟩| ⟨ex,rfl⟩
  ·simp [RL]
  ·simpa only [RL]using hr
 ·refine⟨.vsl sz es false,.inr ⟨false,rfl⟩,?_⟩
  simp only [DR,z3j]
  exact .inr (.inl ⟨r,off,lim,o,rfl,trivial,hg,h1,by simp,by rw [h2];exact DRss.refl (k:=0) (by omega) es hr⟩)
theorem zoa{O:Store}{r i off cap esz:Nat}{o es:List (List AV)}{cs rest:List AV}(hg:O[r]? =some (some o))(hi:o[i]? =some cs)(ho:off<=cs.length)(hd:cs.drop off=es.flatten++rest)(he:∀e ∈ es,e.length=esz)(hn:es.length ≠ 0)(hr:RLss 0 es):
  DR (z3j O) (.vsl esz es false) (.asl r i off es.length cap esz):=by
 simp only [DR,z3j]
 exact .inr (.inr ⟨r,i,off,cap,o,cs,es,rest,rfl,trivial,hg,hi,ho,hd,he,hn,by simp,DRss.refl (k:=0) (by omega) es hr⟩)
theorem rl0{a:AV}(h:RL 0 a)(O:Store):DR (z3j O) a a:=DR.refl (k:=0) (by omega) a h
theorem drs1{D:DC}{a b:AV}(h:DR D a b):DRs D [a] [b]:=by simp only [DRs];exact⟨b,[],rfl,h,rfl⟩
theorem drsc{D:DC}{a b:AV}{l m:List AV}(h:DR D a b)(h2:DRs D l m):DRs D (a::l) (b::m):=by simp only [DRs];exact⟨b,m,rfl,h,h2⟩
theorem ze1(k:Nat):∀(l:List UInt8),shs k (zx l)=zx l
 | []=>rfl
 |b::l=>by have:=ze1 k l;simp only [zx]at this;simp [zx,shs,sh,this]
theorem zs1(k:Nat)(l:List UInt8):sh k (.agg (zx l))=.agg (zx l):=by simp only [sh,ze1]
theorem z7q(k:Nat):shS k []=[]:=rfl
theorem zta(O:Store)(hs:List (List UInt8))(x:AV)(hx:RdSl O 32 (z29 hs) x)(hH:H32 hs)(hl:hs.length<1000000000):ACallsTo TC 46 [x] O (.agg (zx (z21 hs))) O:=by
 obtain⟨x0,h0,hd⟩:=hx.lend (zdo hs)
 have:=ACallsTo.lend glok (ztb [] hs x0 h0 hH hl) (drs1 hd)
 rwa [zs1,z7q,List.append_nil]at this
theorem zfw:∀(a b:List UInt8),z1q (zx a) (zx b)=decide (a=b)
 | [],[]=>rfl
 | [],_::_=>rfl
 | _::_,[]=>rfl
 |a::l,b::m=>by
  have ih:=zfw l m
  simp only [zx,List.map_cons,z1q,z6j]at ih ⊢
  rw [ih,Bool.eq_iff_iff]
  simp [<-UInt8.toNat_inj]
  intro _
  omega
theorem zgw:∀(l:List UInt8),(zx l).map z1k=List.replicate l.length (some (LK.i .u8))
 | []=>rfl
 | _::l=>by have:=zgw l;simp only [zx]at this;simp [zx,z1k,this,List.replicate_succ]
theorem zo1{l:List UInt8}(h:l.length=32):(zx l).map z1k=(List.replicate 32 (LK.i .u8)).map some:=by rw [zgw,h];rfl
end
section
set_option maxRecDepth 10000

end
section
def subF:Nat->List (List UInt8)->Nat->Bool->List (List UInt8)
 | 0,_,_,_=>[]
 |f+1,l,m,known=>
  if m=l.length then(if known then []else [z21 l])
  else if m<=zm l.length then subF f (l.take (zm l.length)) m known++ [z21 (l.drop (zm l.length))]
  else subF f (l.drop (zm l.length)) (m-zm l.length) false++ [z21 (l.take (zm l.length))]
def subS(l:List (List UInt8))(m:Nat)(known:Bool):List (List UInt8):=subF (l.length+1) l m known
theorem DownV.tup2{k:Nat}{v v2:AV}{O O2:Store}{i:IntKind}{e:Int}(h:DownV k v O v2 O2):DownV k (.tup [v,.int i e]) O (.tup [v2,.int i e]) O2:=by
 obtain⟨D,a,b,c⟩:=h
 exact⟨D,a,b,by simp only [DR,DRs];exact⟨_,rfl,_,_,rfl,c,_,_,rfl,rfl,rfl⟩⟩
theorem zg9{O O':Store}(h:O.length<=O'.length)(h2:∀q,q<O.length->O'[q]? =O[q]?):∃y,O'=O++y:=by
 refine⟨O'.drop O.length,?_⟩
 have e:O'.take O.length=O:=by
  refine List.ext_getElem? fun i=> ?_
  by_cases hi:i<O.length
  ·rw [List.getElem?_take_of_lt hi];exact h2 i hi
  ·rw [List.getElem?_eq_none (by simp;omega),List.getElem?_eq_none (by omega)]
 calc O'=O'.take O.length++O'.drop O.length:=(List.take_append_drop _ _).symm
  _=O++O'.drop O.length:=by rw [e]
def zav(hs:List (List UInt8))(m:Int):List (List UInt8):=if 0<m/\ m<hs.length then subS hs m.toNat true else []
def zau(hs:List (List UInt8))(m:Int):Int:=if m<0 \/(hs.length:Int)<m then 2 else 0
def ProofP(O:Store)(hs:List (List UInt8))(m:Int)(v:AV)(O':Store):Prop:=∃v2,v=.tup [v2,.int .i64 (zau hs m)]/\ OwnN 32 O O' v2 (z29 (zav hs m))
theorem ProofP.ex(O:Store)(hs:List (List UInt8))(m:Int):∃v O',ProofP O hs m v O':=⟨_,_,_,rfl,z7g O 32 _⟩
theorem ProofP.none{O:Store}{hs:List (List UInt8)}{m:Int}(h:zav hs m=[]):ProofP O hs m (.tup [.nilsl,.int .i64 (zau hs m)]) O:=⟨.nilsl,rfl,by rw [h];exact⟨[],by simp,.inl ⟨rfl,rfl⟩⟩⟩
end
section
def OwnA(sz:Nat)(τ O':Store)(v:AV)(es:List (List AV)):Prop:=OwnN sz τ O' v es \/(v=.vsl sz es true/\ es ≠ []/\ ∃news,O'=τ++news)
theorem OwnA.app{sz:Nat}{τ O':Store}{v:AV}{es ys:List (List AV)}(h:OwnA sz τ O' v es)(h0:ys.length ≠ 0)(hl:es.length+ys.length<=1073741824):
  ∃v' O'',aApp O' sz v ys=some (v',O'')/\ OwnN sz τ O'' v' (es++ys):=by
 rcases h with h| ⟨rfl,h1,news,rfl⟩
 ·exact h.app h0 hl
 ·refine⟨.sl (τ++news).length 0 (es.length+ys.length) none sz,(τ++news)++ [some (es++ys)],by rw [z89,if_neg h0,if_pos ⟨rfl,rfl,hl⟩],news++ [some (es++ys)],by rw [List.append_assoc],.inr ⟨news.length,by simp [h1],by simp,by rw [List.getElem?_append_right (Nat.le_refl _)];simp⟩⟩
theorem OwnA.rd{sz:Nat}{τ O':Store}{v:AV}{es:List (List AV)}(h:OwnA sz τ O' v es):RdSl O' sz es v:=by
 rcases h with h| ⟨rfl,_⟩
 ·exact h.rd
 ·exact .inl (.inr ⟨true,rfl⟩)
theorem OwnA.more{sz:Nat}{τ O':Store}{v:AV}{es:List (List AV)}(h:OwnA sz τ O' v es)(y:Store):OwnA sz τ (O'++y) v es:=by
 rcases h with h| ⟨rfl,h1,news,rfl⟩
 ·exact .inl (h.more y)
 ·exact .inr ⟨rfl,h1,news++y,by rw [List.append_assoc]⟩
theorem OwnA.ext{sz:Nat}{τ O':Store}{v:AV}{es:List (List AV)}(h:OwnA sz τ O' v es):∃news,O'=τ++news:=by
 rcases h with h| ⟨_,_,h⟩
 ·exact h.ext
 ·exact h
theorem OwnA.down{sz:Nat}{O O':Store}{v:AV}{es:List (List AV)}(hw:Wf O.length O)(h:OwnA sz O O' v es)(hr:RLss O.length es):∃v2 O2,OwnA sz O O2 v2 es/\ DownV O.length v O' v2 O2:=by
 rcases h with h| ⟨rfl,h1,news,rfl⟩
 ·exact⟨_,_,.inl (z7g O sz es),h.own hw hr⟩
 ·exact⟨_,O,.inr ⟨rfl,h1,[],by simp⟩,DownV.pure hw (by simpa only [RL]using hr)⟩
def OwnQ(kn:Bool)(τ O':Store)(v:AV)(es:List (List AV)):Prop:=OwnA 32 τ O' v es/\ (kn=true->OwnN 32 τ O' v es)
theorem OwnQ.is(kn:Bool)(O:Store)(es:List (List AV)):OwnQ kn O (ownS O es) (ownV O 32 es) es:=⟨.inl (z7g O 32 es),fun _=>z7g O 32 es⟩
theorem OwnQ.down{kn:Bool}{O O':Store}{v:AV}{es:List (List AV)}(hw:Wf O.length O)(h:OwnN 32 O O' v es)(hr:RLss O.length es):∃v2 O2,OwnQ kn O O2 v2 es/\ DownV O.length v O' v2 O2:=
 ⟨_,_,OwnQ.is kn O es,h.own hw hr⟩
end
section
def RefP(O:Store)(hs:List (List UInt8))(m:Int)(v:AV)(O':Store):Prop:=∃v2,v=.tup [v2,.int .i64 (zau hs m)]/\ OwnA 32 O O' v2 (z29 (zav hs m))
def st(i last:Nat):Nat × Nat:=if h:i%2=1 then st (i/2) (last/2)else(i,last)
termination_by i
decreasing_by omega
def lp(i last:Nat):List Bool:=
 if h:last=0 then []else if i%2=1 then true::lp (i/2) (last/2)else if i=last then lp (i/2) (last/2)else false::lp (i/2) (last/2)
termination_by last
decreasing_by all_goals omega
def run:List Bool->List (List UInt8)->List UInt8->List UInt8->Option (List UInt8 × List UInt8)
 | [],[],a,b=>some (a,b)
 |true::p,h::ps,a,b=>run p ps (z1x h a) (z1x h b)
 |false::p,h::ps,a,b=>run p ps a (z1x b h)
 | _,_,_,_=>none
def chkG(i last:Nat)(o:List UInt8)(ps:List (List UInt8)):Option (List UInt8 × List UInt8):=
 if 0<i then match ps with
  | []=>none
  |h::ps=>run (lp i last) ps h h
 else run (lp i last) ps o o
def chkS(i last:Nat)(o:List UInt8)(ps:List (List UInt8)):Option (List UInt8 × List UInt8):=chkG (st i last).1 (st i last).2 o ps
def fitI(r:Option (List UInt8 × List UInt8))(o nw:List UInt8):Int:=
 match r with
 |some (a,b)=>if a=o/\ b=nw then 0 else 80
 |none=>80
def chkI(m n:Int)(o nw:List UInt8)(ps:List (List UInt8)):Int:=
 if n<0 \/4096<n \/m<0 \/n<m then 2
 else if m=0 then(if ps=[]/\ o=z21 []/\ (0<n \/nw=o)then 0 else 80)
 else if m=n then(if ps=[]/\ o=nw then 0 else 80)
 else fitI (chkS (m.toNat-1) (n.toNat-1) o ps) o nw
end
section
structure ChkM(ia ib:Nat)(O O':Store)(o nw:List UInt8)(pv:AV)(ps:List (List UInt8))(a b:List UInt8):Prop where
 hab:(ia=3/\ ib=4) \/(ia=4/\ ib=3)
 len:O.length+5<=O'.length
 keep:∀q,q<O.length->O'[q]? =O[q]?
 g0:O'[O.length]? =some (some [zx o])
 g1:O'[O.length+1]? =some (some [zx nw])
 g2:O'[O.length+2]? =some (some [[pv]])
 g3:O'[O.length+ia]? =some (some [zx a])
 g4:O'[O.length+ib]? =some (some [zx b])
 hp:SlV 32 (z29 ps) pv
 ha:a.length=32
 hb:b.length=32
theorem ChkM.app{ia ib:Nat}{O O' y:Store}{o nw:List UInt8}{pv:AV}{ps:List (List UInt8)}{a b:List UInt8}(h:ChkM ia ib O O' o nw pv ps a b):ChkM ia ib O (O'++y) o nw pv ps a b:=by
 have hl:=h.len
 have hab:=h.hab
 refine⟨hab,by rw [List.length_append];omega,fun q hq=> ?_,?_,?_,?_,?_,?_,h.hp,h.ha,h.hb⟩
 ·rw [gapp (by omega)];exact h.keep q hq
 ·rw [gapp (by omega)];exact h.g0
 ·rw [gapp (by omega)];exact h.g1
 ·rw [gapp (by omega)];exact h.g2
 ·rw [gapp (by omega)];exact h.g3
 ·rw [gapp (by omega)];exact h.g4
theorem ChkM.fin{ia ib:Nat}{O O':Store}{o nw:List UInt8}{pv:AV}{ps:List (List UInt8)}{a b:List UInt8}(h:ChkM ia ib O O' o nw pv ps a b)(hw:Wf O.length O){i:Int}:DownV O.length (.int .i64 i) O' (.int .i64 i) O:=by
 have hl:=h.len
 have hab:=h.hab
 obtain⟨y,rfl⟩:=zg9 (by omega) h.keep
 exact DownV.pure hw (z13 _ rfl)
theorem SlV.cells{sz:Nat}{es:List (List AV)}{x:AV}(h:SlV sz es x):cellsOf x=some [x]:=by
 rcases h with⟨rfl,rfl⟩| ⟨ex,rfl⟩<;>rfl
end
section

end
section

end
section
theorem split2:zm 2=1:=by decide
theorem split4:zm 4=2:=by decide
theorem ProofP.is{O O':Store}{hs:List (List UInt8)}{m:Int}{v:AV}(h:ProofP O hs m v O'):∃v2,v=.tup [v2,.int .i64 (zau hs m)]/\ OwnN 32 O O' v2 (z29 (zav hs m)):=h
end
section
def z6k:Ty:=.row (List.replicate 32 (.int .u8))
theorem zfa:∀(n:Nat) (cs:List AV),z3h (List.replicate n (.int .u8)) cs->∃h:List UInt8,cs=zx h/\ h.length=n
 | 0,cs,h=>⟨[],by simpa only [List.replicate_zero,z3h,zx,List.map_nil]using h,rfl⟩
 |n+1,cs,h=>by
  simp only [List.replicate_succ,z3h,ShC]at h
  obtain⟨_,b,rfl,⟨x,rfl,h1,h2⟩,h3⟩:=h
  obtain⟨l,rfl,hl⟩:=zfa n b h3
  simp only [IntKind.min,IntKind.max,IntKind.signed,IntKind.bits]at h1 h2
  simp at h1 h2
  refine⟨UInt8.ofNat x.toNat::l,?_,by simp [hl]⟩
  have:((UInt8.ofNat x.toNat).toNat:Int)=x:=by rw [UInt8.toNat_ofNat'];omega
  simp only [zx,List.map_cons,List.singleton_append,this]
theorem zgi{cs:List AV}(h:ShC z6k cs):∃l:List UInt8,cs=zx l/\ l.length=32:=zfa 32 cs (by simpa only [z6k,ShC]using h)
theorem zgj:∀(es:List (List AV)),(∀x ∈ es,ShC z6k x)->∃hs,es=z29 hs/\ H32 hs
 | [],_=>⟨[],rfl,fun _ h=>by simp at h⟩
 |e::es,h=>by
  obtain⟨l,rfl,hl⟩:=zgi (h e (by simp))
  obtain⟨hs,rfl,hH⟩:=zgj es (fun x hx=>h x (by simp [hx]))
  refine⟨l::hs,rfl,fun x hx=> ?_⟩
  rcases List.mem_cons.1 hx with rfl|hx
  ·exact hl
  ·exact hH x hx
theorem RefP.ex(O:Store)(hs:List (List UInt8))(m:Int):∃v O',RefP O hs m v O':=⟨_,_,_,rfl,.inl (z7g O 32 _)⟩
end
section
abbrev Hash:={l:List UInt8//l.length=32}
def hc(h:Hash):List AV:=zx h.1
def hr(l:List Hash):List (List AV):=l.map hc
def hb(l:List Hash):List (List UInt8):=l.map (·.1)
theorem hb_H(l:List Hash):H32 (hb l):=fun x hx=>by
 simp only [hb,List.mem_map]at hx
 obtain⟨h,_,rfl⟩:=hx
 exact h.2
theorem zcp(l:List Hash):(hb l).length=l.length:=by simp [hb]
theorem zn3(l:List Hash)(n:Nat):(hb l).take n=hb (l.take n):=by simp [hb,List.map_take]
theorem zn2(l:List Hash)(n:Nat):(hb l).drop n=hb (l.drop n):=by simp [hb,List.map_drop]
theorem zcu(l:List Hash):z29 (hb l)=hr l:=by simp [z29,hb,hr,hc]
theorem hb_of:∀{l:List (List UInt8)},H32 l->∃m:List Hash,l=hb m
 | [],_=>⟨[],rfl⟩
 |x::l,h=>by
  obtain⟨m,hm⟩:=hb_of (l:=l) fun y hy=>h y (by simp [hy])
  exact⟨⟨x,h x (by simp)⟩::m,by simp [hb,hm]⟩
@[go_sem] theorem z7 (h:Hash):(hc h).length=32:=by rw [hc,zu,h.2]
@[go_sem] theorem zai (h:Hash):(hc h).drop 32=[]:=List.drop_of_length_le (by rw [z7];decide)
@[go_sem] theorem zn4 (h:Hash):(hc h).take 32=hc h:=List.take_of_length_le (by rw [z7];decide)
@[go_sem] theorem z8q (h:Hash) (l:List AV):(hc h++l).take 32=hc h:=by
 have:=z7 h
 rw [List.take_append_of_le_length (by omega),zn4]
@[go_sem] theorem zcr (h:Hash) (l:List AV):(hc h++l).drop 32=l:=by
 have:=z7 h
 rw [List.drop_append_of_le_length (by omega),zai,List.nil_append]
@[go_sem] theorem hc_eq (a b:Hash):z1q (hc a) (hc b)=decide (a=b):=by
 rw [hc,hc,zfw,Bool.eq_iff_iff]
 simp [Subtype.ext_iff]
@[go_sem] theorem hc_kinds (h:Hash):(hc h).map z1k=(List.replicate 32 (LK.i .u8)).map some:=zo1 h.2
@[go_sem] theorem z6 (l:List Hash):(hr l).length=l.length:=by simp [hr]
@[go_sem] theorem zgn (l:List Hash) (n:Nat):(hr l).take n=hr (l.take n):=by simp [hr,List.map_take]
@[go_sem] theorem hr_drop (l:List Hash) (n:Nat):(hr l).drop n=hr (l.drop n):=by simp [hr,List.map_drop]
@[go_sem] theorem hr_set (l:List Hash) (i:Nat) (h:Hash):(hr l).set i (hc h)=hr (l.set i h):=by simp [hr,List.map_set]
theorem zcv:hr []=[]:=rfl
theorem z8s(h:Hash)(l:List Hash):hr (h::l)=hc h::hr l:=rfl
theorem hr_nil_iff{l:List Hash}:hr l=[] ↔ l=[]:=by simp [hr]
def zeroH:Hash:=⟨List.replicate 32 0,by simp⟩
def hd(l:List Hash)(i:Nat):Hash:=l.getD i zeroH
@[go_sem] theorem z5z {l:List Hash} {i:Nat} (h:i<l.length):(hr l)[i]? =some (hc (hd l i)):=by
 simp [hr,hd,List.getElem?_map,List.getElem?_eq_getElem h]
theorem z78{l:List Hash}{i:Nat}(h:i<l.length):hd l i=l[i]:=by simp [hd,h]
theorem z65{k:Nat}(h:Hash):RLs k (hc h):=z2o _
theorem z33{k:Nat}(l:List Hash):RLss k (hr l):=by rw [<-zcu];exact zdo _
theorem zba(k:Nat)(h:Hash):shs k (hc h)=hc h:=ze1 k _
def zy(a b:Hash):Hash:=⟨z1x a.1 b.1,zan _ _⟩
def zz(l:List Hash):Hash:=⟨z21 (hb l),z94 (hb_H l)⟩
def shaH(s:List UInt8):Hash:=⟨shaS s,ze0 s⟩
theorem zdq(h:Hash):zz [h]=h:=rfl
theorem z7l{l:List Hash}(h:2<=l.length):zz l=zy (zz (l.take (zm l.length))) (zz (l.drop (zm l.length))):=by
 apply Subtype.ext
 show z21 (hb l)=z1x (z21 (hb _)) (z21 (hb _))
 rw [<-zn3,<-zn2]
 have:=zdr (l:=hb l) (by rw [zcp];exact h)
 rwa [zcp]at this
theorem z99(O:Store)(a b:Hash):ACallsTo TC 48 [.agg (hc a),.agg (hc b)] O (.agg (hc (zy a b))) O:=zee O a.1 b.1 a.2 b.2
theorem zic(O:Store)(a b:Hash):ACallsTo TC 91 [.agg (hc a),.agg (hc b)] O (.agg (hc (zy a b))) O:=zr1 O a.1 b.1 a.2 b.2
theorem z9a(O:Store)(l:List Hash)(x:AV)(hx:RdSl O 32 (hr l) x)(hl:l.length<1000000000):ACallsTo TC 46 [x] O (.agg (hc (zz l))) O:=
 zta O (hb l) x (by rw [zcu];exact hx) (hb_H l) (by rw [zcp];exact hl)
theorem zn1{cs:List AV}(h:ShC z6k cs):∃l:Hash,cs=hc l:=by
 obtain⟨l,rfl,hl⟩:=zgi h
 exact⟨⟨l,hl⟩,rfl⟩
end
section
def z2d:Nat->List Hash->Hash->List Hash
 | _,[],h=>[h]
 |m,x::rs,h=>if m%2=1 then z2d (m/2) rs (zy x h)else h::x::rs
theorem z90{m:Nat}{rs:List Hash}{h:Hash}(hm:m%2=0):z2d m rs h=h::rs:=by
 cases rs with
 |nil=>rfl
 |cons x rs=>simp [z2d,hm]
theorem z91{m:Nat}{rs:List Hash}{x h:Hash}(hm:m%2=1):z2d m (x::rs) h=z2d (m/2) rs (zy x h):=by simp [z2d,hm]
theorem zdg:∀(f m:Nat) (rs:List Hash) (h:Hash),m+1<2^f->rs.length=pc f m->(z2d m rs h).length=pc f (m+1)
 | 0,_,_,_,h,_=>by simp at h
 |f+1,m,rs,h,hm,hl=>by
  have e2:=Nat.pow_succ (n:=2) (m:=f)
  simp only [pc]at hl ⊢
  by_cases h1:m%2=1
  ·match rs,hl with
   | [],hl=>simp at hl;omega
   |x::rs,hl=>
    simp only [List.length_cons]at hl
    rw [z91 h1,zdg f (m/2) rs (zy x h) (by omega) (by omega),show (m+1)/2=m/2+1 by omega]
    omega
  ·rw [z90 (by omega),List.length_cons,show (m+1)/2=m/2 by omega]
   omega
theorem pc_two(j f m:Nat):pc (f+j) (2^j*m)=pc f m:=by
 induction j with
 |zero=>simp
 |succ j ih=>
  have h1:2^(j+1)*m=2*(2^j*m):=by rw [Nat.pow_succ,Nat.mul_comm (2^j) 2,Nat.mul_assoc]
  show pc ((f+j)+1) _=_
  simp only [pc]
  rw [h1,Nat.mul_div_cancel_left _ (by decide),ih];omega
def extR:Nat->List Hash->List Hash->List Hash
 | _,rs,[]=>rs
 |n,rs,x::l=>extR (n+1) (z2d n rs x) l
theorem z8m:∀(n:Nat) (rs l m:List Hash),extR n rs (l++m)=extR (n+l.length) (extR n rs l) m
 |n,rs,[],m=>by simp [extR]
 |n,rs,x::l,m=>by
  simp only [List.cons_append,extR,List.length_cons]
  rw [z8m (n+1),show n+1+l.length=n+(l.length+1)by omega]
theorem zag:∀(f n:Nat) (rs l:List Hash),n+l.length<2^f->rs.length=pc f n->(extR n rs l).length=pc f (n+l.length)
 | _,_,_,[],_,h=>h
 |f,n,rs,x::l,h,hl=>by
  simp only [List.length_cons]at h ⊢
  simp only [extR]
  rw [zag f (n+1) _ l (by omega) (zdg f n rs x (by omega) hl),show n+1+l.length=n+(l.length+1)by omega]
def ofR(l:List Hash):List Hash:=extR 0 [] l
theorem z97(j:Nat):zm (2^(j+1))=2^j:=by
 have:0<2^j:=Nat.pow_pos (by decide)
 exact zbc (by rw [Nat.pow_succ];omega) (Nat.le_refl _)
theorem zrg{j:Nat}{c:List Hash}(h:c.length=2^(j+1)):zz c=zy (zz (c.take (2^j))) (zz (c.drop (2^j))):=by
 have:0<2^j:=Nat.pow_pos (by decide)
 rw [z7l (by rw [h,Nat.pow_succ];omega),h,z97]
theorem zah:∀(j q:Nat) (rs c:List Hash),c.length=2^j->extR (2^j*q) rs c=z2d q rs (zz c)
 | 0,q,rs,c,h=>by
  match c,h with
  | [x],_=>simp [extR,zdq]
 |j+1,q,rs,c,h=>by
  have hp:0<2^j:=Nat.pow_pos (by decide)
  have e2:=Nat.pow_succ (n:=2) (m:=j)
  have l1:(c.take (2^j)).length=2^j:=by rw [List.length_take];omega
  have l2:(c.drop (2^j)).length=2^j:=by rw [List.length_drop];omega
  have e:extR (2^(j+1)*q) rs c=extR (2^(j+1)*q) rs (c.take (2^j)++c.drop (2^j)):=by rw [List.take_append_drop]
  rw [e,z8m,l1,show 2^(j+1)*q=2^j*(2*q)by rw [e2,Nat.mul_assoc],zah j (2*q) rs _ l1,show 2^j*(2*q)+2^j=2^j*(2*q+1)by rw [Nat.mul_add,Nat.mul_one],
   zah j (2*q+1) _ _ l2,z90 (m:=2*q) (by omega),z91 (by omega),show (2*q+1)/2=q by omega,zrg h]
def z66:List Hash->Hash
 | []=>shaH []
 |x::rs=>rs.foldl (fun o h=>zy h o) x
theorem zhw:∀(j f i:Nat) (rs:List Hash) (a x:Hash),i+1<2^j->rs.length=pc f i->j<=f->z2d (2^j+i) (rs++ [a]) x=z2d i rs x++ [a]
 | 0,_,_,_,_,_,h,_,_=>by simp at h
 |j+1,0,_,_,_,_,_,_,h=>by omega
 |j+1,f+1,i,rs,a,x,h,hl,hj=>by
  have e2:=Nat.pow_succ (n:=2) (m:=j)
  simp only [pc]at hl
  by_cases h1:i%2=1
  ·match rs,hl with
   | [],hl=>simp at hl;omega
   |y::rs,hl=>
    simp only [List.length_cons]at hl
    rw [List.cons_append,z91 (by omega),z91 h1,show (2^(j+1)+i)/2=2^j+i/2 by omega]
    exact zhw j f (i/2) rs a _ (by omega) (by omega) (by omega)
  ·rw [z90 (by omega),z90 (by omega)];rfl
theorem zg8:∀(j:Nat) (b:List Hash) (i:Nat) (rs:List Hash) (a:Hash),i+b.length<2^j->rs.length=pc j i->extR (2^j+i) (rs++ [a]) b=extR i rs b++ [a]
 | _,[],_,_,_,_,_=>rfl
 |j,x::b,i,rs,a,h,hl=>by
  simp only [List.length_cons]at h
  simp only [extR]
  rw [zhw j j i rs a x (by omega) hl (Nat.le_refl _),Nat.add_assoc]
  exact zg8 j b (i+1) _ a (by omega) (zdg j i rs x (by omega) hl)
theorem zrd{l:List Hash}{a:Hash}(h:l ≠ []):z66 (l++ [a])=zy a (z66 l):=by
 match l,h with
 |x::l,_=>simp [z66]
theorem zhb:∀(f:Nat) (l:List Hash),l.length<f->z66 (ofR l)=zz l
 | 0,_,h=>by omega
 |f+1,[],_=>rfl
 |f+1,x::m,h=>by
  obtain⟨l,hl⟩:∃l,l=x::m:=⟨_,rfl⟩
  have hp:0<l.length:=by rw [hl];simp
  rw [<-hl]at h ⊢
  clear hl
  have h1:=Nat.log2_self_le (n:=l.length) (by omega)
  have h2:=Nat.lt_log2_self (n:=l.length)
  generalize Nat.log2 l.length=j at*
  rw [Nat.pow_succ]at h2
  have hj:0<2^j:=Nat.pow_pos (by decide)
  by_cases h3:l.length=2^j
  ·have:=zah j 0 [] l h3
   rw [Nat.mul_zero]at this
   rw [ofR,this];rfl
  ·have l1:(l.take (2^j)).length=2^j:=by rw [List.length_take];omega
   have e:ofR l=extR 0 [] (l.take (2^j)++l.drop (2^j)):=by rw [List.take_append_drop];rfl
   have c:=zah j 0 [] _ l1
   rw [Nat.mul_zero]at c
   have b:=zg8 j (l.drop (2^j)) 0 [] (zz (l.take (2^j))) (by rw [List.length_drop];omega) (by rw [zat];rfl)
   have hne:extR 0 [] (l.drop (2^j)) ≠ []:=by
    intro hn
    have:=zag (j+1) 0 [] (l.drop (2^j)) (by rw [List.length_drop,Nat.pow_succ];omega) (by rw [zat];rfl)
    rw [hn]at this
    exact z8y (j+1) _ (by rw [List.length_drop];omega) (by rw [List.length_drop,Nat.pow_succ];omega) this.symm
   have ih:=zhb f (l.drop (2^j)) (by rw [List.length_drop];omega)
   simp only [ofR]at ih
   rw [e,z8m,l1,c,show z2d 0 [] (zz (l.take (2^j)))=[]++ [zz (l.take (2^j))]from rfl,show 0+2^j=2^j+0 by omega,b,zrd hne,ih,z7l (l:=l) (by omega),
    zbc (n:=l.length) (j:=j) (by omega) (by rw [Nat.pow_succ];omega)]
where
 z8y:∀(f n:Nat),0<n->n<2^f->pc f n ≠ 0
  | 0,n,h,h'=>by simp at h';omega
  |f+1,n,h,h'=>by
   rw [Nat.pow_succ]at h'
   simp only [pc]
   by_cases h1:n%2=1
   ·omega
   ·have:=z8y f (n/2) (by omega) (by omega);omega
end
section

end
section
set_option maxRecDepth 10000
def qpr0:yW:=[
 yI 2 (.box (.t 0)),
 yI 3 (.box (.t 1)),
 yI 4 (.alloc [(.int .i64 0),.nilsl]),
 yK 5 .i64 0]
def qpr1:yW:=[
 yL 6 true 2 2,
 yL 7 true 32 3,
 yI 8 (.lit 32 [(.t 7)]),
 yD 9 44 6 8,
 yE 10 0 9,
 yE 11 1 9,
 yS 2 4 10,
 yM 5 11]
def qpc2:yX:=yq qpr1 .ret
def qpc3:yX:=yq qpr0 qpc2
attribute [go_sem] qpr0 qpr1
theorem qpok:cFn TC 25=some (12,[.c 4 true 2,.t 5],qpc3):=by kernel_rfl
def qqr0:yW:=[
 yI 2 (.box (.t 0)),
 yI 4 (.alloc [(.int .i64 0),.nilsl]),
 yK 5 .i64 0]
def qqr1:yW:=[
 yL 9 true 2 2,
 yC 10 45 9,
 yI 11 (.un .not (.t 10)),
 yM 8 11]
def qqr2:yW:=[
 yI 12 (.build [(.int .i64 0),.nilsl] []),
 yS 2 4 12,
 yK 5 .i64 2]
def qqc3:yX:=yq qqr2 .ret
def qqr4:yW:=[
 yM 14 1,
 yI 15 (.lenSl (.t 14)),
 yF 16 0 2,
 yL 17 false 1 16,
 yI 18 (.bin .sub .none (.v (.int .i64 4096)) (.t 17)),
 yB 19 .gtr 15 18,
 yM 13 19]
def qqr5:yW:=[
 yI 20 (.build [(.int .i64 0),.nilsl] []),
 yS 2 4 20,
 yK 5 .i64 60]
def qqc6:yX:=yq qqr5 .ret
def qqc7:yX:=.cond (.t 13) qqc6 .skip
def qqc8:yX:=yq qqr4 qqc7
def qqc9:yX:=.cond (.t 8) qqc3 qqc8
def qqc10:yX:=yq qqr1 qqc9
def qqr11:yW:=[
 yF 21 1 2,
 yL 22 false 1 21,
 yC 23 67 22,
 yF 24 1 2,
 yS 1 24 23]
def qqr12:yW:=[
 yM 25 1,
 yI 26 (.lenSl (.t 25)),
 yK 27 .i64 0]
def qqr13:yW:=[
 yB 28 .lss 27 26]
def qqr14:yW:=[
 yI 29 (.iaSl 32 (.t 25) (.t 27)),
 yL 30 true 32 29,
 yI 7 (.alloc zZ0),
 yS 32 7 30]
def qqr15:yW:=[
 yL 31 true 2 2,
 yL 32 true 32 7,
 yI 33 (.call (.v (.fn 68 [])) [(.t 31),(.v (.int .i64 1)),(.t 32)]),
 yS 2 2 33]
def qqc16:yX:=yq qqr14 (.reg qqr15)
def qqr17:yW:=[
 yJ 34 .add 27 .i64 1,
 yM 27 34]
def qqc18:yX:=.seq (.block 2 qqc16) (.reg qqr17)
def qqc19:yX:=.seq (.cond (.t 28) .skip (.exit 1)) qqc18
def qqc20:yX:=yq qqr13 qqc19
def qqc21:yX:=.loop qqc20
def qqc22:yX:=.block 1 qqc21
def qqc23:yX:=yq qqr12 qqc22
def qqr24:yW:=[
 yL 35 true 2 2,
 yS 2 4 35,
 yK 5 .i64 0]
def qqc25:yX:=yq qqr24 .ret
def qqc26:yX:=.seq qqc23 qqc25
def qqc27:yX:=yq qqr11 qqc26
def qqc28:yX:=.seq (.block 0 qqc10) qqc27
def qqc29:yX:=yq qqr0 qqc28
attribute [go_sem] qqr0 qqr1 qqr2 qqr4 qqr5 qqr11 qqr12 qqr13 qqr14 qqr15 qqr17 qqr24
theorem qqok:cFn TC 44=some (36,[.c 4 true 2,.t 5],qqc29):=by kernel_rfl
def qrr0:yW:=[
 yI 1 (.box (.t 0)),
 yI 2 (.mv (.v (.bool false)))]
def qrr1:yW:=[
 yF 3 0 1,
 yL 4 false 1 3,
 yJ 5 .geq 4 .i64 0,
 yM 6 5,
 yT 7 6 true 0 1,
 yU 8 6 true false 1 7,
 yG 9 6 true (.bin .leq .none (.t 8) (.v (.int .i64 4096))),
 yQ 10 6 9,
 yM 11 10,
 yT 12 11 true 1 1,
 ⟨some 13,some (11,true),.rd,.load false 1 (.t 12)⟩,
 yG 14 11 true (.lenSl (.t 13)),
 yT 15 11 true 0 1,
 ⟨some 16,some (11,true),.rd,.load false 1 (.t 15)⟩,
 ⟨some 17,some (11,true),.ef,.call (.v (.fn 69 [])) [(.t 16)]⟩,
 yG 18 11 true (.bin .eql .none (.t 14) (.t 17)),
 yQ 19 11 18,
 yM 2 19]
def qrc2:yX:=yq qrr1 .ret
def qrc3:yX:=yq qrr0 qrc2
attribute [go_sem] qrr0 qrr1
theorem qrok:cFn TC 45=some (20,[.t 2],qrc3):=by kernel_rfl
def qsr0:yW:=[
 yI 1 (.box (.t 0)),
 yI 2 (.alloc zZ0),
 yK 3 .i64 0]
def qsr1:yW:=[
 yL 9 true 2 1,
 yC 10 45 9,
 yI 11 (.un .not (.t 10)),
 yM 8 11]
def qsr2:yW:=[
 yI 12 (.build zZ0 []),
 yS 32 2 12,
 yK 3 .i64 2]
def qsc3:yX:=yq qsr2 .ret
def qsr4:yW:=[
 yF 14 0 1,
 yL 15 false 1 14,
 yJ 16 .eql 15 .i64 0,
 yM 13 16]
def qsr5:yW:=[
 yI 17 (.call (.v (.fn 46 [])) [(.v .nilsl)]),
 yS 32 2 17,
 yK 3 .i64 0]
def qsc6:yX:=yq qsr5 .ret
def qsc7:yX:=.cond (.t 13) qsc6 .skip
def qsc8:yX:=yq qsr4 qsc7
def qsc9:yX:=.cond (.t 8) qsc3 qsc8
def qsc10:yX:=yq qsr1 qsc9
def qsr11:yW:=[
 yF 18 1 1,
 yL 19 false 1 18,
 yI 20 (.lenSl (.t 19)),
 yJ 21 .sub 20 .i64 1,
 yM 4 21]
def qsr12:yW:=[
 yF 22 1 1,
 yL 23 false 1 22,
 yM 24 4,
 yI 25 (.iaSl 32 (.t 23) (.t 24)),
 yL 26 true 32 25,
 yI 5 (.alloc zZ0),
 yS 32 5 26]
def qsr13:yW:=[
 yF 27 1 1,
 yL 28 false 1 27,
 yM 29 4,
 yI 30 (.slice (.sl 32) (.t 28) none (some (.t 29)) none),
 yC 31 47 30]
def qsr14:yW:=[
 yI 7 (.alloc zZ0),
 yS 32 7 33]
def qsr15:yW:=[
 yL 34 true 32 7,
 yL 35 true 32 5,
 yD 36 48 34 35,
 yS 32 5 36]
def qsc16:yX:=.block 2 (.reg qsr15)
def qsc17:yX:=.rangef (.t 31) [32,33] (.reg qsr14) qsc16
def qsc18:yX:=.block 1 qsc17
def qsc19:yX:=yq qsr13 qsc18
def qsr20:yW:=[
 yL 37 true 32 5,
 yS 32 2 37,
 yK 3 .i64 0]
def qsc21:yX:=yq qsr20 .ret
def qsc22:yX:=.seq qsc19 qsc21
def qsc23:yX:=yq qsr12 qsc22
def qsc24:yX:=yq qsr11 qsc23
def qsc25:yX:=.seq (.block 0 qsc10) qsc24
def qsc26:yX:=yq qsr0 qsc25
attribute [go_sem] qsr0 qsr1 qsr2 qsr4 qsr5 qsr11 qsr12 qsr13 qsr14 qsr15 qsr20
theorem qsok:cFn TC 26=some (38,[.c 2 true 32,.t 3],qsc26):=by kernel_rfl
def qtr0:yW:=[
 yI 2 (.mv (.v .nilsl))]
def qtr1:yW:=[
 yM 3 0,
 yI 4 (.bin .eql .slc (.t 3) (.v .nilsl))]
def qtr2:yW:=[
 yI 2 (.mv (.v .nilsl))]
def qtc3:yX:=yq qtr2 .ret
def qtc4:yX:=.cond (.t 4) qtc3 .skip
def qtc5:yX:=yq qtr1 qtc4
def qtr6:yW:=[
 yI 5 (.lit 32 []),
 yM 6 0,
 yI 7 (.app 32 (.t 5) (.t 6)),
 yM 2 7]
def qtc7:yX:=yq qtr6 .ret
def qtc8:yX:=.seq qtc5 qtc7
def qtc9:yX:=yq qtr0 qtc8
attribute [go_sem] qtr0 qtr1 qtr2 qtr6
theorem qtok:cFn TC 67=some (8,[.t 2],qtc9):=by kernel_rfl
def qur0:yW:=[
 yI 3 (.box (.t 0)),
 yI 5 (.box (.t 2)),
 yI 6 (.alloc [(.int .i64 0),.nilsl])]
def qur1:yW:=[
 yF 9 1 3,
 yL 10 false 1 9,
 yC 11 67 10,
 yM 7 11]
def qur2:yW:=[
 yM 12 1,
 yM 8 12]
def qur3:yW:=[
 yF 13 0 3,
 yL 14 false 1 13,
 yM 15 8,
 yB 16 .and 14 15,
 yJ 17 .neq 16 .i64 0]
def quc4:yX:=.cond (.t 17) .skip (.exit 0)
def quc5:yX:=yq qur3 quc4
def qur6:yW:=[
 yM 20 7,
 yM 21 7,
 yI 22 (.lenSl (.t 21)),
 yJ 23 .sub 22 .i64 1,
 yI 24 (.iaSl 32 (.t 20) (.t 23)),
 ⟨some 25,none,.rd,.load true 32 (.t 24)⟩,
 ⟨some 26,none,.rd,.load true 32 (.t 5)⟩,
 yD 27 48 25 26,
 yS 32 5 27]
def qur7:yW:=[
 yM 28 7,
 yM 29 7,
 yI 30 (.lenSl (.t 29)),
 yJ 31 .sub 30 .i64 1,
 yI 32 (.slice (.sl 32) (.t 28) none (some (.t 31)) none),
 yM 7 32]
def quc8:yX:=yq qur6 (.reg qur7)
def qur9:yW:=[
 yM 18 8,
 yJ 19 .mul 18 .i64 2,
 yM 8 19]
def quc10:yX:=.seq (.block 1 quc8) (.reg qur9)
def quc11:yX:=.seq quc5 quc10
def quc12:yX:=.loop quc11
def quc13:yX:=.block 0 quc12
def quc14:yX:=yq qur2 quc13
def qur15:yW:=[
 yF 33 0 3,
 ⟨some 34,none,.rd,.load false 1 (.t 33)⟩,
 yM 35 1,
 yB 36 .add 34 35,
 yM 37 7,
 ⟨some 38,none,.rd,.load true 32 (.t 5)⟩,
 yI 39 (.lit 32 [(.t 38)]),
 ⟨some 40,none,.ef,.app 32 (.t 37) (.t 39)⟩,
 yI 41 (.build [(.int .i64 0),.nilsl] [(0,1,(.t 36)),(1,1,(.t 40))]),
 yS 2 6 41]
def quc16:yX:=yq qur15 .ret
def quc17:yX:=.seq quc14 quc16
def quc18:yX:=yq qur1 quc17
def quc19:yX:=yq qur0 quc18
attribute [go_sem] qur0 qur1 qur2 qur3 qur6 qur7 qur9 qur15
theorem quok:cFn TC 68=some (42,[.c 6 true 2],quc19):=by kernel_rfl
def qvr0:yW:=[
 yI 1 (.box (.t 0)),
 yI 2 (.mv (.v .nilfn))]
def qvr1:yW:=[
 yI 3 (.mkfn 71 [(.t 1)]),
 yM 2 3]
def qvc2:yX:=yq qvr1 .ret
def qvc3:yX:=yq qvr0 qvc2
attribute [go_sem] qvr0 qvr1
theorem qvok:cFn TC 47=some (4,[.t 2],qvc3):=by kernel_rfl
end
section
theorem ACallsP.toDown{C:Ctx}{f:FuncId}{args:List AV}{O O2:Store}{v2:AV}{P:AV->Store->Prop}(h:ACallsP C f args O P)
  (hd:Wf O.length O->∀v O',P v O'->DownV O.length v O' v2 O2):ACallsTo C f args O v2 O2:=by
 intro γ w cargs hR ha
 rcases h γ w cargs hR ha with⟨h1,h2⟩| ⟨cv,v,γ',O',w',h1,hp,h2,h3,h4⟩
 ·refine .inl ⟨h1,h2.mono ?_⟩
  rintro e w' ⟨cv,v,γ',O',rfl,hp,k1,k2,k3⟩
  obtain⟨γ2,q1,q2,q3⟩:=(hd hR.wf v O' hp).sound k2 k3 k1 hR.gl (by rw [hR.len];exact Nat.le_refl _)
  exact⟨cv,γ2,rfl,q1,q2,q3⟩
 ·obtain⟨γ2,q1,q2,q3⟩:=(hd hR.wf v O' hp).sound h3 h4 h2 hR.gl (by rw [hR.len];exact Nat.le_refl _)
  exact .inr ⟨cv,γ2,w',h1,q1,q2,q3⟩
theorem slen{O:Store}{r:Nat}{x:Option AObj}(h:O[r]? =some x):r<O.length:=(List.getElem?_eq_some_iff.1 h).1
def FrzD(τ news:Store):DC:=z2c τ news [] id (fun _=>true)
theorem DownV.all{τ news:Store}{v v2:AV}(hw:Wf τ.length τ)(h:DR (FrzD τ news) v2 v):DownV τ.length v (τ++news) v2 τ:=
 ⟨FrzD τ news,rfl,by show DownS τ.length (z2c τ news [] id (fun _=>true)) τ;simpa using zaj (kept:=[]) (idx:=id) (fzl:=fun _=>true) (news:=news) hw (by simp) (by simp) (by simp) (by simp),h⟩
theorem FrzD.same{τ news:Store}{v:AV}(h:RL τ.length v):DR (FrzD τ news) v v:=DR.refl (z6l _ _ _) v h
theorem FrzD.sl{τ news:Store}{r off:Nat}{lim:Option Nat}{esz:Nat}{o es:AObj}(hk:τ.length<=r)(ho:(τ++news)[r]? =some (some o))(hl:off+es.length<=o.length)(he:(o.drop off).take es.length=es)(hr:RLss τ.length es):
  DR (FrzD τ news) (.vsl esz es false) (.sl r off es.length lim esz):=by
 simp only [DR,FrzD,z2c]
 right
 left
 exact⟨r,off,lim,o,rfl,by simpa using hk,ho,hl,by simp,by rw [he];exact DRss.refl (z6l [] id (fun _=>true)) _ hr⟩
theorem drA{D:DC}{a b:List AV}(h:DRs D a b):DR D (.agg a) (.agg b):=by simp only [DR];exact⟨b,rfl,h⟩
theorem drT{D:DC}{a b:List AV}(h:DRs D a b):DR D (.tup a) (.tup b):=by simp only [DR];exact⟨b,rfl,h⟩
theorem OwnN.frz{sz:Nat}{τ news:Store}{v:AV}{es:List (List AV)}(h:OwnN sz τ (τ++news) v es)(hr:RLss τ.length es):DR (FrzD τ news) (z18 sz es) v:=by
 by_cases h0:es=[]
 ·obtain⟨n2,_,⟨rfl,rfl⟩| ⟨j,h1,_⟩⟩:=h
  ·simp [z18,DR]
  ·exact absurd h0 h1
 ·obtain⟨r,rfl,hg,hk⟩:=h.sl h0
  unfold z18
  rw [if_neg h0]
  exact FrzD.sl hk hg (by omega) (by simp) hr
def lkp:List (Nat × AV)->Env
 | [],_=> .any
 |(a,v)::l,t=>bif t==a then v else lkp l t
@[go_sem] theorem lkp_cons {a t:Nat} {v:AV} {l:List (Nat × AV)}:lkp ((a,v)::l) t=bif t==a then v else lkp l t:=rfl
def OwnE(sz:Nat)(τ O':Store)(v:AV)(es:List (List AV)):Prop:=OwnN sz τ O' v es \/(es=[]/\ v=.vsl sz [] true/\ ∃news,O'=τ++news)
theorem OwnE.ext{sz:Nat}{τ O':Store}{v:AV}{es:List (List AV)}(h:OwnE sz τ O' v es):∃news,O'=τ++news:=by
 rcases h with h| ⟨_,_,h⟩
 ·exact h.ext
 ·exact h
theorem OwnE.rd{sz:Nat}{τ O':Store}{v:AV}{es:List (List AV)}(h:OwnE sz τ O' v es):RdSl O' sz es v:=by
 rcases h with h| ⟨rfl,rfl,_⟩
 ·exact h.rd
 ·exact .inl (.inr ⟨true,rfl⟩)
theorem OwnE.len{sz:Nat}{τ O':Store}{v:AV}{es:List (List AV)}(h:OwnE sz τ O' v es):z1c v=some (.int .i64 es.length):=h.rd.len
theorem OwnE.app{sz:Nat}{τ O':Store}{v:AV}{es ys:List (List AV)}(h:OwnE sz τ O' v es)(h0:ys.length ≠ 0)(hl:es.length+ys.length<=1073741824):
  ∃v' O'',aApp O' sz v ys=some (v',O'')/\ OwnN sz τ O'' v' (es++ys):=by
 rcases h with h| ⟨rfl,rfl,news,rfl⟩
 ·exact h.app h0 hl
 ·refine⟨.sl (τ++news).length 0 ys.length none sz,(τ++news)++ [some ys],by rw [z89,if_neg h0,if_pos ⟨rfl,rfl,hl⟩];simp,news++ [some ys],by rw [List.append_assoc],.inr ⟨news.length,?_,by simp,by rw [List.getElem?_append_right (Nat.le_refl _)];simp⟩⟩
  intro e;exact h0 (by rw [(List.append_eq_nil_iff.1 e).2];rfl)
theorem RdSl.elems{O:Store}{sz:Nat}{es:List (List AV)}{x:AV}(h:RdSl O sz es x):z22 O x=some es:=by
 rcases h with(⟨rfl,rfl⟩| ⟨ex,rfl⟩)| ⟨r,off,lim,o,rfl,hg,h1,h2⟩
 ·rfl
 ·rfl
 ·rw [zbb,hg];simp only;rw [if_pos h1,h2]
theorem zej(O:Store)(l:List Hash)(x:AV)(hx:RdSl O 32 (hr l) x)(hl:l.length<1000000):
  ACallsP TC 67 [x] O (fun v O'=>OwnE 32 O O' v (hr l)/\ (x=.nilsl ↔ v=.nilsl)):=by
 rcases hx with(⟨rfl,hnil⟩| ⟨ex,rfl⟩)| ⟨r,off,lim,o,rfl,hg,h1,h2⟩
 ·refine ACallsTo.toP (v:=.nilsl) (O':=O) ?_ ⟨.inl ⟨[],by simp,.inl ⟨hnil,rfl⟩⟩,Iff.rfl⟩
  refine ACallsTo.of_body qtok (by simp) fun hw _=> ?_
  repeat' (first|apply zs_|apply zb_|apply zc_|apply zt_ rfl|apply zf_ rfl|(apply zd_ rfl<;>intro ht<;>try omega)|((first|apply zr_|apply zk_|apply ze_|apply zq_|(apply zG<;>intro ht));all_goals try simp (disch:=first|omega|(simp only [lens];first|done|omega)) only [go_sem]))
  exact DownV.same hw (z13 _ rfl)
 ·by_cases h0:l=[]
  ·subst h0
   refine ACallsTo.toP (v:=.vsl 32 [] true) (O':=O) ?_ ⟨.inr ⟨rfl,rfl,[],by simp⟩,by simp⟩
   refine ACallsTo.of_body qtok (by simp) fun hw _=> ?_
   rw [zcv]
   repeat' (first|apply zs_|apply zb_|apply zc_|apply zt_ rfl|apply zf_ rfl|(apply zd_ rfl<;>intro ht<;>try omega)|((first|apply zr_|apply zk_|apply ze_|apply zq_|(apply zG<;>intro ht));all_goals try simp (disch:=first|omega|(simp only [lens];first|done|omega)) only [go_sem]))
   exact DownV.same hw (z13 _ rfl)
  ·have hne:¬l.length=0:=fun e=>h0 (List.eq_nil_of_length_eq_zero e)
   refine ACallsP.of_keep qtok (by simp) ?_
   repeat' (first|apply zs_|apply zb_|apply zc_|apply zt_ rfl|apply zf_ rfl|(apply zd_ rfl<;>intro ht<;>try omega)|((first|apply zr_|apply zk_|apply ze_|apply zq_|(apply zG<;>intro ht));all_goals try simp (disch:=first|omega|(simp only [lens];first|done|omega)) only [go_sem,hne,z89]))
   refine .inl ⟨[some (hr l)],by simp,.inr ⟨0,by rw [Ne,hr_nil_iff];exact h0,?_,by simp⟩⟩
   simp [z6]
 ·have hrl:=z6 l
  by_cases h0:l=[]
  ·subst h0
   refine ACallsTo.toP (v:=.vsl 32 [] true) (O':=O) ?_ ⟨.inr ⟨rfl,rfl,[],by simp⟩,by simp⟩
   refine ACallsTo.of_body qtok (by simp) fun hw _=> ?_
   rw [zcv]at*
   repeat' (first|apply zs_|apply zb_|apply zc_|apply zt_ rfl|apply zf_ rfl|(apply zd_ rfl<;>intro ht<;>try omega)|((first|apply zr_|apply zk_|apply ze_|apply zq_|(apply zG<;>intro ht));all_goals try simp (disch:=first|omega|(simp only [lens];first|done|omega)) only [go_sem,hg,zbb,h1,h2]))
   exact DownV.same hw (z13 _ rfl)
  ·have hne:¬l.length=0:=fun e=>h0 (List.eq_nil_of_length_eq_zero e)
   rw [hrl]at h1 h2
   refine ACallsP.of_keep qtok (by simp) ?_
   repeat' (first|apply zs_|apply zb_|apply zc_|apply zt_ rfl|apply zf_ rfl|(apply zd_ rfl<;>intro ht<;>try omega)|((first|apply zr_|apply zk_|apply ze_|apply zq_|(apply zG<;>intro ht));all_goals try simp (disch:=first|omega|(simp only [lens];first|done|omega)) only [go_sem,hg,hne,z89,zbb,h1,h2]))
   refine .inl ⟨[some (hr l)],by simp,.inr ⟨0,by rw [Ne,hr_nil_iff];exact h0,?_,by simp⟩⟩
   simp [z6]
end
section
theorem z6a{l:List Hash}{i:Nat}(h:i<l.length):l.take (i+1)=l.take i++ [hd l i]:=by
 rw [z78 h];exact(List.take_append_getElem h).symm
def z3u(n:Int)(len:Nat):Bool:=decide (0<=n/\ n<=4096/\ len=pc 64 n.toNat)
theorem zhy(O:Store)(n:Int)(hs:List Hash)(x:AV)(hx:RdSl O 32 (hr hs) x):
  ACallsTo TC 45 [.agg [.int .i64 n,x]] O (.bool (z3u n hs.length)) O:=by
 have r1:=hx.len
 rw [z6]at r1
 unfold z1c at r1
 refine ACallsTo.of_body qrok (by simp) fun hw _=> ?_
 by_cases h1:0<=n/\ n<=4096
 ·have h:=fun O=>zks O n (by omega)
  by_cases h2:hs.length=pc 64 n.toNat
  ·have e:z3u n hs.length=true:=decide_eq_true ⟨h1.1,h1.2,h2⟩
   have h2':(hs.length:Int)=pc 64 n.toNat:=by omega
   rw [e]
   repeat' (first|apply zs_|apply zb_|apply zc_|apply zt_ rfl|apply zf_ rfl|(apply zd_ rfl<;>intro ht<;>try omega)|((first|apply zr_|apply zk_|apply ze_|apply zq_|(apply callW.mk_pu;(first|exact(fun _=>h _)))|(apply callW.za;(first|exact(h _)))|(apply zG<;>intro ht));all_goals try simp (disch:=first|omega|(simp only [lens];first|done|omega)) only [go_sem,r1,h2']))
   exact DownV.pure hw (z13 _ rfl)
  ·have e:z3u n hs.length=false:=decide_eq_false fun e=>h2 e.2.2
   have h2':¬(hs.length:Int)=pc 64 n.toNat:=by omega
   rw [e]
   repeat' (first|apply zs_|apply zb_|apply zc_|apply zt_ rfl|apply zf_ rfl|(apply zd_ rfl<;>intro ht<;>try omega)|((first|apply zr_|apply zk_|apply ze_|apply zq_|(apply callW.mk_pu;(first|exact(fun _=>h _)))|(apply callW.za;(first|exact(h _)))|(apply zG<;>intro ht));all_goals try simp (disch:=first|omega|(simp only [lens];first|done|omega)) only [go_sem,r1,h2']))
   exact DownV.pure hw (z13 _ rfl)
 ·have e:z3u n hs.length=false:=decide_eq_false fun e=>h1 ⟨e.1,e.2.1⟩
  rw [e]
  repeat' (first|apply zs_|apply zb_|apply zc_|apply zt_ rfl|apply zf_ rfl|(apply zd_ rfl<;>intro ht<;>try omega)|((first|apply zr_|apply zk_|apply ze_|apply zq_|(apply zG<;>intro ht));all_goals try simp (disch:=first|omega|(simp only [lens];first|done|omega)) only [go_sem,r1]))
  all_goals exact DownV.pure hw (z13 _ rfl)
end
section
def Ext(O O':Store):Prop:=∃news,O'=O++news
theorem Ext.refl(O:Store):Ext O O:=⟨[],by simp⟩
theorem Ext.app{O O' y:Store}(h:Ext O O'):Ext O (O'++y):=by
 obtain⟨n,rfl⟩:=h
 exact⟨n++y,by rw [List.append_assoc]⟩
theorem Ext.set{O O':Store}{r:Nat}{x:Option AObj}(h:Ext O O')(hr:O.length<=r):Ext O (O'.set r x):=by
 obtain⟨n,rfl⟩:=h
 exact⟨n.set (r-O.length) x,List.set_append_right _ _ hr⟩
theorem Ext.trans{O O' O'':Store}(h:Ext O O')(h':Ext O' O''):Ext O O'':=by
 obtain⟨n,rfl⟩:=h
 obtain⟨m,rfl⟩:=h'
 exact⟨n++m,by rw [List.append_assoc]⟩
theorem Ext.le{O O':Store}(h:Ext O O'):O.length<=O'.length:=by
 obtain⟨n,rfl⟩:=h;simp
theorem zjy(O:Store)(l:List Hash)(x:AV)(hx:RdSl O 32 (hr l) x):∃v O',OwnE 32 O O' v (hr l)/\ (x=.nilsl ↔ v=.nilsl):=by
 have h1:=z7g O 32 (hr l)
 rcases hx with(⟨rfl,h⟩| ⟨ex,rfl⟩)| ⟨r,off,lim,o,rfl,_⟩
 ·exact⟨.nilsl,O,.inl ⟨[],by simp,.inl ⟨h,rfl⟩⟩,Iff.rfl⟩
 ·by_cases h0:hr l=[]
  ·exact⟨.vsl 32 [] true,O,.inr ⟨h0,rfl,[],by simp⟩,by simp⟩
  ·refine⟨_,_,.inl h1,?_⟩
   unfold ownV;rw [if_neg h0];simp
 ·by_cases h0:hr l=[]
  ·exact⟨.vsl 32 [] true,O,.inr ⟨h0,rfl,[],by simp⟩,by simp⟩
  ·refine⟨_,_,.inl h1,?_⟩
   unfold ownV;rw [if_neg h0];simp
theorem zf1{n i:Nat}:n &&& 2^i=if n/2^i%2=1 then 2^i else 0:=by
 apply Nat.eq_of_testBit_eq
 intro k
 rw [Nat.testBit_and,Nat.testBit_two_pow]
 by_cases hk:i=k
 ·subst hk
  rw [Nat.testBit_eq_decide_div_mod_eq]
  split
  ·rename_i h;simp [h,Nat.testBit_two_pow]
  ·rename_i h;simp [h]
 ·split
  ·simp [hk,Nat.testBit_two_pow]
  ·simp [hk]
theorem zhs{f q:Nat}(h:q%2=1)(hf:0<f):pc f q=1+pc (f-1) (q/2):=by
 match f,hf with
 |f+1,_=>simp [pc,h]
theorem zW.once{C:Ctx}{n k:Nat}{Q:AExit->Env->Store->Prop}{Z:Env}{O:Store}{x:ACode}(h:zW C n k x (z2b (fun _ _=>False) Q) Z O):zW C n k (.loop x) Q Z O:=
 zW.loop (fun _ Z' O'=>Z'=Z/\ O'=O) 0 ⟨rfl,rfl⟩ (by
  rintro m _ _ ⟨rfl,rfl⟩
  refine h.mono fun e Z O h=> ?_
  cases e
  ·exact h.elim
  ·exact h
  ·exact h)
theorem zqn(O:Store)(n j:Nat)(x:AV)(hs:List Hash)(h:Hash)(hx:RdSl O 32 (hr hs) x)(hj:2^j ∣ n)(hn:n+2^j<=4096)(hl:hs.length=pc 13 n):
  ACallsTo TC 68 [.agg [.int .i64 n,x],.int .i64 ((2^j:Nat):Int),.agg (hc h)] O (.agg [.int .i64 ((n+2^j:Nat):Int),.vsl 32 (hr (z2d (n/2^j) hs.reverse h).reverse) false]) O:=by
 have hp:0<2^j:=Nat.pow_pos (by decide)
 have hj12:j<=12:=by
  rcases Nat.lt_or_ge j 13 with h|h
  ·omega
  ·have:=Nat.pow_le_pow_right (n:=2) (by decide) h
   omega
 have hlen:hs.length<1000000:=by
  have:∀f q,pc f q<=f:=fun f=>by
   induction f with
   |zero=>intro q;simp [pc]
   |succ f ih=>intro q;simp only [pc];have:=ih (q/2);omega
  have:=this 13 n;omega
 obtain⟨q0,hq0⟩:=hj
 have hdiv:n/2^j=q0:=by rw [hq0];exact Nat.mul_div_cancel_left _ hp
 have hpl:hs.length=pc (13-j) (n/2^j):=by
  have:=pc_two j (13-j) q0
  rw [<-hq0,show 13-j+j=13 by omega]at this
  rw [hl,this,hdiv]
 generalize hk0:2^j=k0 at*
 have hadd:((n:Int)+k0)=((n+k0:Nat):Int):=by omega
 refine ACallsTo.of_body quok (by simp) fun hw _=> ?_
 repeat' (first|apply zs_|apply zb_|apply zc_|apply zt_ rfl|apply zf_ rfl|(apply zd_ rfl<;>intro ht<;>try omega)|((first|apply zr_|apply zk_|apply ze_|apply zq_|(apply zG<;>intro ht));all_goals try simp (disch:=first|omega|(simp only [lens];first|done|omega)) only [go_sem]))
 refine callW.mkP (zej _ hs x hx.app hlen) (zjy _ hs x hx.app) ?_
 rintro v O1 ⟨hO,_⟩
 obtain⟨y,hy⟩:=hO.ext
 have b0:O1[O.length]? =some (some [[.int .i64 n,x]]):=by rw [hy];simp
 have b1:O1[O.length+1]? =some (some [hc h]):=by rw [hy];simp
 have b2:O1[O.length+2]? =some (some [[.int .i64 0,.nilsl]]):=by rw [hy];simp
 have b3:Ext O O1:=by rw [hy];exact(Ext.refl O).app.app
 have g0:=slen b0
 have g1:=slen b1
 have g2:=slen b2
 by_cases h0:hs=[]
 ·subst h0
  have hn0:n/k0%2=0:=by
   have:=hpl
   simp at this
   rcases Nat.mod_two_eq_zero_or_one (n/k0)with h|h
   ·exact h
   ·rw [zhs h (by omega)]at this;omega
  have hand:=zf1 (n:=n) (i:=j)
  rw [hk0,if_neg (by omega)]at hand
  have hres:hr (z2d (n/k0) ([]:List Hash).reverse h).reverse=[hc h]:=rfl
  rw [hres]
  have hv:v=.nilsl \/v=.vsl 32 [] true:=by
   rcases hO with⟨_,_,⟨_,rfl⟩| ⟨_,h1,_⟩⟩| ⟨_,rfl,_⟩
   ·exact .inl rfl
   ·exact absurd rfl h1
   ·exact .inr rfl
  have fin:∀O2 r,Ext O O2->O.length<=r->O2[r]? =some (some [hc h])->DownV O.length (.agg [.int .i64 ((n+k0:Nat):Int),.sl r 0 1 none 32]) O2 (.agg [.int .i64 ((n+k0:Nat):Int),.vsl 32 [hc h] false]) O:=fun O2 r e hr hg=>by
   obtain⟨news,rfl⟩:=e
   exact DownV.all hw (drA (drsc (FrzD.same (by simp [RL])) (drs1 (FrzD.sl (es:=[hc h]) hr hg (by simp) (by simp) (by simp only [RLss];exact⟨z65 _,trivial⟩)))))
  rcases hv with rfl|rfl
  ·repeat' (first|apply zs_|apply zb_|apply zc_|apply zt_ rfl|apply zf_ rfl|(apply zd_ rfl<;>intro ht<;>try omega)|((first|apply zr_|apply zk_|apply ze_|apply zq_|(apply zG<;>intro ht));all_goals try simp (disch:=first|omega|(simp only [lens];first|done|omega)) only [go_sem,b0,b1,b2]))
   refine zW.once ?_
   repeat' (first|apply zs_|apply zb_|apply zc_|apply zt_ rfl|apply zf_ rfl|(apply zd_ rfl<;>intro ht<;>try omega)|((first|apply zr_|apply zk_|apply ze_|apply zq_|(apply zG<;>intro ht));all_goals try simp (disch:=first|omega|(simp only [lens];first|done|omega)) only [go_sem,b0,b1,b2,hand,hadd]))
   exact fin _ _ (b3.set (by omega)).app (by omega) (by simp)
  ·repeat' (first|apply zs_|apply zb_|apply zc_|apply zt_ rfl|apply zf_ rfl|(apply zd_ rfl<;>intro ht<;>try omega)|((first|apply zr_|apply zk_|apply ze_|apply zq_|(apply zG<;>intro ht));all_goals try simp (disch:=first|omega|(simp only [lens];first|done|omega)) only [go_sem,b0,b1,b2]))
   refine zW.once ?_
   repeat' (first|apply zs_|apply zb_|apply zc_|apply zt_ rfl|apply zf_ rfl|(apply zd_ rfl<;>intro ht<;>try omega)|((first|apply zr_|apply zk_|apply ze_|apply zq_|(apply zG<;>intro ht));all_goals try simp (disch:=first|omega|(simp only [lens];first|done|omega)) only [go_sem,b0,b1,b2,hand,hadd]))
   exact fin _ _ (b3.set (by omega)).app (by omega) (by simp)
 ·have hpos:0<hs.length:=List.length_pos_iff.2 h0
  obtain⟨r,rfl,hgr,hrl⟩:∃r,v=.sl r 0 hs.length none 32/\ O1[r]? =some (some (hr hs))/\ O.length+3<=r:=by
   rcases hO with hO|hO
   ·obtain⟨r,h1,h2,h3⟩:=hO.sl (by rw [Ne,hr_nil_iff];exact h0)
    rw [z6]at h1
    exact⟨r,h1,h2,by simpa using h3⟩
   ·exact absurd (hr_nil_iff.1 hO.1) h0
  have g3:=slen hgr
  repeat' (first|apply zs_|apply zb_|apply zc_|apply zt_ rfl|apply zf_ rfl|(apply zd_ rfl<;>intro ht<;>try omega)|((first|apply zr_|apply zk_|apply ze_|apply zq_|(apply zG<;>intro ht));all_goals try simp (disch:=first|omega|(simp only [lens];first|done|omega)) only [go_sem,b0,b1,b2,hadd]))
  refine zW.loop (fun m Z O'=>∃(i:Nat) (h':Hash),m<=hs.length/\ j<=i/\ i<=13/\ m=pc (13-i) (n/2^i)/\ z2d (n/2^i) (hs.take m).reverse h'=z2d (n/k0) hs.reverse h ∧
   O'[O.length]? =some (some [[.int .i64 n,x]])/\ O'[O.length+1]? =some (some [hc h'])/\ O'[O.length+2]? =some (some [[.int .i64 0,.nilsl]])/\ O'[r]? =some (some (hr hs))/\ Ext O O' ∧
   Z 1=.int .i64 k0/\ Z 3=.ptr O.length 0 0/\ Z 5=.ptr (O.length+1) 0 0/\ Z 6=.ptr (O.length+2) 0 0/\ Z 7=.sl r 0 m none 32/\ Z 8=.int .i64 ((2^i:Nat):Int)) hs.length ?_ ?_
  ·refine⟨j,h,Nat.le_refl _,Nat.le_refl _,by omega,?_,?_,b0,b1,b2,hgr,b3,by simp (disch:=first|omega|(simp only [lens];first|done|omega)) only [go_sem],by simp (disch:=first|omega|(simp only [lens];first|done|omega)) only [go_sem],by simp (disch:=first|omega|(simp only [lens];first|done|omega)) only [go_sem],by simp (disch:=first|omega|(simp only [lens];first|done|omega)) only [go_sem],by simp (disch:=first|omega|(simp only [lens];first|done|omega)) only [go_sem],by simp (disch:=first|omega|(simp only [lens];first|done|omega)) only [go_sem];rw [hk0]⟩
   ·rw [hk0];exact hpl
   ·rw [hk0,List.take_of_length_le (Nat.le_refl _)]
  ·rintro m Z O' ⟨i,h',hm,hji,hi13,hmp,hpush,c0,c1,c2,cr,ce,q1,q3,q5,q6,q7,q8⟩
   have d0:=slen c0
   have d1:=slen c1
   have d2:=slen c2
   have dr:=slen cr
   have hki:0<2^i:=Nat.pow_pos (by decide)
   have hand:=zf1 (n:=n) (i:=i)
   have hi8:2^i<=8192:=by
    have:=Nat.pow_le_pow_right (n:=2) (by decide) hi13
    exact this
   have hs2:2^(i+1)=2^i*2:=Nat.pow_succ ..
   have hdd:n/2^i/2=n/2^(i+1):=by rw [Nat.div_div_eq_div_mul,hs2]
   by_cases hbit:n/2^i%2=1
   ·rw [if_pos hbit]at hand
    have hi12:i<13:=by
     rcases Nat.lt_or_ge i 13 with h|h
     ·exact h
     ·have e13:i=13:=by omega
      rw [e13,Nat.div_eq_of_lt (by omega)]at hbit
      simp at hbit
    rw [zhs hbit (by omega)]at hmp
    obtain⟨l,rfl⟩:∃l,m=l+1:=⟨m-1,by omega⟩
    have hrev:(hs.take (l+1)).reverse=hd hs l::(hs.take l).reverse:=by rw [z6a (by omega)];simp
    rw [hrev,z91 hbit,hdd]at hpush
    rw [hdd,show 13-i-1=13-(i+1)by omega]at hmp
    generalize hki2:2^i=k at*
    have hne:¬(k:Int)=0:=by omega
    have hl1:((l+1:Nat):Int)-1=l:=by omega
    repeat' (first|refine zs_ ?_|refine zb_ ?_|refine zc_ ?_|refine zt_ rfl ?_|refine zf_ rfl ?_|(refine zd_ rfl (fun ht=> ?_) (fun ht=> ?_)<;>try (exfalso;omega))|((first|refine zW.regS ?_|refine zk_ ?_|refine ze_ ?_|refine zq_ ?_|(apply callW.mk_pu;(first|exact(fun _=>z99 _ _ _)))|(apply callW.za;(first|exact(z99 _ _ _)))|(apply zG<;>intro ht));all_goals try simp (disch:=first|omega|(simp only [lens];first|done|omega)) only [go_sem,q1,q3,q5,q6,q7,q8,c0,c1,c2,cr,hand,hne,hl1]))
    exact⟨l,by omega,i+1,zy (hd hs l) h',by omega,by omega,by omega,by omega,hpush,rfl,ce.set (by omega),by simp,by rw [hs2];simp⟩
   ·rw [if_neg hbit]at hand
    rw [z90 (by omega)]at hpush
    have hres:(z2d (n/k0) hs.reverse h).reverse=hs.take m++ [h']:=by rw [<-hpush];simp
    rw [hres]
    generalize hki2:2^i=k at*
    have fin:∀O2 r2 o,Ext O O2->O.length<=r2->O2[r2]? =some (some o)->m+1<=o.length->o.take (m+1)=hr (hs.take m++ [h'])->DownV O.length (.agg [.int .i64 ((n+k0:Nat):Int),.sl r2 0 (m+1) none 32]) O2 (.agg [.int .i64 ((n+k0:Nat):Int),.vsl 32 (hr (hs.take m++ [h'])) false]) O:=fun O2 r2 o e hr2 hg ho1 ho2=>by
     obtain⟨news,rfl⟩:=e
     have hl3:(hr (hs.take m++ [h'])).length=m+1:=by simp [z6];omega
     have:=FrzD.sl (τ:=O) (news:=news) (r:=r2) (off:=0) (lim:=none) (esz:=32) (o:=o) (es:=hr (hs.take m++ [h'])) hr2 hg (by omega) (by rw [hl3,List.drop_zero];exact ho2) (z33 _)
     rw [hl3]at this
     exact DownV.all hw (drA (drsc (FrzD.same (by simp [RL])) (drs1 this)))
    by_cases hfull:m<hs.length
    ·repeat' (first|apply zs_|apply zb_|apply zc_|apply zt_ rfl|apply zf_ rfl|(apply zd_ rfl<;>intro ht<;>try omega)|((first|apply zr_|apply zk_|apply ze_|apply zq_|(apply zG<;>intro ht));all_goals try simp (disch:=first|omega|(simp only [lens];first|done|omega)) only [go_sem,q1,q3,q5,q6,q7,q8,c0,c1,c2,cr,hand,hadd]))
     refine fin _ r _ ((ce.set (by omega)).set (by omega)) (by omega) (by rw [z1r (by omega),z38 dr]) (by simp [z6];omega) ?_
     rw [show hr (hs.take m)++hc h'::hr (hs.drop (m+1))=hr ((hs.take m++ [h'])++hs.drop (m+1))by simp [hr],zgn,List.take_left' (by simp;omega)]
    ·have hm':hs.take m=hs:=List.take_of_length_le (by omega)
     rw [hm']at fin
     repeat' (first|apply zs_|apply zb_|apply zc_|apply zt_ rfl|apply zf_ rfl|(apply zd_ rfl<;>intro ht<;>try omega)|((first|apply zr_|apply zk_|apply ze_|apply zq_|(apply zG<;>intro ht));all_goals try simp (disch:=first|omega|(simp only [lens];first|done|omega)) only [go_sem,q1,q3,q5,q6,q7,q8,c0,c1,c2,cr,hand,hadd]))
     refine fin _ _ _ ((ce.set (by omega)).set (by omega)).app (by omega) (by rw [z1i (by simp),List.length_set,List.length_set,Nat.sub_self];rfl) (by simp [z6];omega) ?_
     rw [show hr hs++ [hc h']=hr (hs++ [h'])by simp [hr],zgn,List.take_of_length_le (by simp;omega)]
end
section
def knil(es:List (List AV)):AV->AV
 | .nilsl=> .nilsl
 | _=> .vsl 32 es false
theorem zcz{es:List (List AV)}{x:AV}(h:x ≠ .nilsl):knil es x=.vsl 32 es false:=by
 cases x<;>first|rfl|exact absurd rfl h
theorem zgx{O:Store}{l:List Hash}{x:AV}(h:RdSl O 32 (hr l) x):SlV 32 (hr l) (knil (hr l) x):=by
 rcases h with(⟨rfl,h⟩| ⟨ex,rfl⟩)| ⟨r,off,lim,o,rfl,_⟩
 ·exact .inl ⟨rfl,h⟩
 ·exact .inr ⟨false,rfl⟩
 ·exact .inr ⟨false,rfl⟩
theorem zra{k:Nat}(l:List Hash)(x:AV):RL k (knil (hr l) x):=by
 by_cases h:x=.nilsl
 ·subst h;simp [knil,RL]
 ·rw [zcz h];simp only [RL];exact z33 _
theorem zjz(O:Store)(l:List Hash)(x:AV)(hx:RdSl O 32 (hr l) x)(hl:l.length<1000000):
  ACallsTo TC 67 [x] O (knil (hr l) x) O:=by
 refine ACallsP.toDown (zej O l x hx hl) fun hw v O' h=> ?_
 obtain⟨h,hn⟩:=h
 obtain⟨y,rfl⟩:=h.ext
 refine DownV.all hw ?_
 by_cases h0:x=.nilsl
 ·rw [hn.1 h0,h0];simp [knil,DR]
 ·have hv:v ≠ .nilsl:=fun e=>h0 (hn.2 e)
  rw [zcz h0]
  rcases h with h| ⟨h1,rfl,_⟩
  ·have h2:=h.frz (z33 l)
   unfold z18 at h2
   split at h2
   ·simp only [DR]at h2;exact absurd h2 hv
   ·exact h2
  ·rw [h1]
   simp only [DR]
   exact .inl ⟨_,_,rfl,by simp,by simp [DRss]⟩
theorem Ext.pure{O O':Store}{v:AV}(hw:Wf O.length O)(h:Ext O O')(hv:RL O.length v):DownV O.length v O' v O:=by
 obtain⟨n,rfl⟩:=h
 exact DownV.pure hw hv
def zv(x:AV)(first:Bool)(l:List Hash):AV:=if first then knil (hr l) x else .vsl 32 (hr l) false
theorem zjt{O:Store}{x:AV}{first:Bool}{l:List Hash}(h:first=true->RdSl O 32 (hr l) x):SlV 32 (hr l) (zv x first l):=by
 unfold zv
 cases first with
 |true=>exact zgx (h rfl)
 |false=>exact .inr ⟨false,rfl⟩
theorem rl_zv{k:Nat}(x:AV)(first:Bool)(l:List Hash):RL k (zv x first l):=by
 unfold zv
 cases first with
 |true=>exact zra _ _
 |false=>simp only [Bool.false_eq_true,if_false,RL];exact z33 _
theorem zjs(x:AV)(first:Bool)(l:List Hash):cellsOf (zv x first l)=some [zv x first l]:=by
 unfold zv
 cases first with
 |true=>
  by_cases h:x=.nilsl
  ·subst h;rfl
  ·simp only [if_true];rw [zcz h];rfl
 |false=>rfl
def rg(n:Int)(z:AV)(e:Int):AV:=.tup [.agg [.int .i64 n,z],.int .i64 e]
theorem zb2{k:Nat}{n e:Int}{z:AV}(h:RL k z):RL k (rg n z e):=by simp only [rg,RL,RLs];exact⟨⟨trivial,h,trivial⟩,trivial,trivial⟩
def extA(n:Int)(hs l:List Hash)(x:AV):AV:=
 if z3u n hs.length=false then rg 0 .nilsl 2
 else if 4096-n<l.length then rg 0 .nilsl 60
 else rg (n+l.length) (zv x l.isEmpty (extR n.toNat hs.reverse l).reverse) 0
theorem pc13{n:Nat}(h:n<=4096):pc 64 n=pc 13 n:=zhr 13 n (by omega) 51
theorem zqm(O:Store)(n:Nat)(x:AV)(hs:List Hash)(h:Hash)(hx:RdSl O 32 (hr hs) x)(hn:n+1<=4096)(hl:hs.length=pc 13 n):
  ACallsTo TC 68 [.agg [.int .i64 n,x],.int .i64 1,.agg (hc h)] O (.agg [.int .i64 ((n+1:Nat):Int),.vsl 32 (hr (z2d n hs.reverse h).reverse) false]) O:=by
 have:=zqn O n 0 x hs h hx ⟨n,by simp⟩ hn hl
 simpa using this
attribute [local irreducible] ACallsTo ACallsP
theorem zk0(O:Store)(n:Int)(hs l:List Hash)(x y:AV)(hx:RdSl O 32 (hr hs) x)(hy:SlV 32 (hr l) y)(hn: -9223372036854775808<=n/\ n<=9223372036854775807)(hhl:hs.length<1000000)(hl:l.length<1000000):
  ACallsTo TC 44 [.agg [.int .i64 n,x],y] O (extA n hs l x) O:=by
 have r1:=hy.len
 rw [z6]at r1
 unfold z1c at r1
 have hV:=fun y=>zhy (O++y) n hs x hx.app
 unfold extA
 by_cases hv:z3u n hs.length=true
 ·rw [if_neg (by simp [hv])]
  rw [hv]at hV
  have hv':=of_decide_eq_true hv
  obtain⟨n,rfl⟩:∃k:Nat,n=k:=⟨n.toNat,by omega⟩
  rw [Int.toNat_natCast]at hv' ⊢
  have hhs:hs.length=pc 13 n:=by rw [hv'.2.2,pc13 (by omega)]
  by_cases hf:4096-(n:Int)<l.length
  ·rw [if_pos hf]
   refine ACallsTo.of_body qqok (by simp) fun hw _=> ?_
   repeat' (first|apply zs_|apply zb_|apply zc_|apply zt_ rfl|apply zf_ rfl|(apply zd_ rfl<;>intro ht<;>try omega)|((first|apply zr_|apply zk_|apply ze_|apply zq_|(apply callW.mk_pu;(first|exact(fun _=>hV _)))|(apply callW.za;(first|exact(hV _)))|(apply zG<;>intro ht));all_goals try simp (disch:=first|omega|(simp only [lens];first|done|omega)) only [go_sem,r1]))
   exact DownV.pure hw (zb2 (by simp [RL]))
  ·rw [if_neg hf]
   refine ACallsTo.of_body qqok (by simp) fun hw _=> ?_
   have hCl:=fun y=>zjz (O++y) hs x hx.app (by omega)
   have hk:=zgx hx
   have e0:knil (hr hs) x=zv x true (extR n hs.reverse (l.take 0)).reverse:=by simp [zv,extR]
   rw [e0]at hCl
   have z0:=zjs x true (extR n hs.reverse (l.take 0)).reverse
   generalize hzz:zv x true (extR n hs.reverse (l.take 0)).reverse=z at*
   unfold cellsOf at z0
   repeat' (first|apply zs_|apply zb_|apply zc_|apply zt_ rfl|apply zf_ rfl|(apply zd_ rfl<;>intro ht<;>try omega)|((first|apply zr_|apply zk_|apply ze_|apply zq_|(apply callW.mk_pu;(first|exact(fun _=>hV _)|exact(fun _=>hCl _)))|(apply callW.za;(first|exact(hV _)|exact(hCl _)))|(apply zG<;>intro ht));all_goals try simp (disch:=first|omega|(simp only [lens];first|done|omega)) only [go_sem,r1,z0]))
   refine zW.loop (fun m Z O'=>∃i:Nat,m+i=l.length/\ Ext O O'/\ O'[O.length]? =some (some [[.int .i64 ((n+i:Nat):Int),zv x (decide (i=0)) (extR n hs.reverse (l.take i)).reverse]])/\ O'[O.length+1]? =some (some [[.int .i64 0,.nilsl]]) ∧
    Z 2=.ptr O.length 0 0/\ Z 4=.ptr (O.length+1) 0 0/\ Z 5=.int .i64 0/\ Z 25=y/\ Z 26=.int .i64 l.length/\ Z 27=.int .i64 i) l.length ?_ ?_
   ·refine⟨0,by omega,?_,?_,?_,by simp (disch:=first|omega|(simp only [lens];first|done|omega)) only [go_sem],by simp (disch:=first|omega|(simp only [lens];first|done|omega)) only [go_sem],by simp (disch:=first|omega|(simp only [lens];first|done|omega)) only [go_sem],by simp (disch:=first|omega|(simp only [lens];first|done|omega)) only [go_sem],by simp (disch:=first|omega|(simp only [lens];first|done|omega)) only [go_sem,r1],by simp (disch:=first|omega|(simp only [lens];first|done|omega)) only [go_sem];rfl⟩
    ·first|exact(Ext.refl O).app|exact⟨_,rfl⟩
    ·rw [<-hzz];simp
    ·simp
   ·rintro m Z O' ⟨i,hm,he,c0,c1,q2,q4,q5,q25,q26,q27⟩
    have d0:=slen c0
    have d1:=slen c1
    by_cases hi:i<l.length
    ·obtain⟨ex,rfl⟩:=hy.vsl (by rw [z6];omega)
     have hz:SlV 32 (hr (extR n hs.reverse (l.take i)).reverse) (zv x (decide (i=0)) (extR n hs.reverse (l.take i)).reverse):=zjt fun h=>by
      have:i=0:=of_decide_eq_true h
      subst this
      simpa [extR]using hx
     have hlen:(extR n hs.reverse (l.take i)).reverse.length=pc 13 (n+i):=by
      rw [List.length_reverse,zag 13 n hs.reverse (l.take i) (by rw [List.length_take];omega) (by rw [List.length_reverse];exact hhs),List.length_take,Nat.min_eq_left (by omega)]
     have hP:=fun O=>zqm O (n+i) _ _ (hd l i) (.of hz) (by omega) hlen
     have hnext:z2d (n+i) (extR n hs.reverse (l.take i)) (hd l i)=extR n hs.reverse (l.take (i+1)):=by
      rw [z6a hi,z8m,List.length_take,Nat.min_eq_left (by omega)];rfl
     simp only [List.reverse_reverse,hnext]at hP
     clear hz hlen hnext
     generalize zv x (decide (i=0)) (extR n hs.reverse (l.take i)).reverse=z at*
     repeat' (first|apply zs_|apply zb_|apply zc_|apply zt_ rfl|apply zf_ rfl|(apply zd_ rfl<;>intro ht<;>try omega)|((first|apply zr_|apply zk_|apply ze_|apply zq_|(apply callW.mk_pu;(first|exact(fun _=>hP _)))|(apply callW.za;(first|exact(hP _)))|(apply zG<;>intro ht));all_goals try simp (disch:=first|omega|(simp only [lens];first|done|omega)) only [go_sem,q2,q4,q5,q25,q26,q27,c0,c1]))
     refine⟨l.length-(i+1),by omega,i+1,by omega,?_,?_,?_⟩
     ·first|exact(he.app.set (by omega))|exact(he.set (by omega)).app
     ·simp [zv];omega
     ·simp
    ·have hil:i=l.length:=by omega
     subst hil
     rw [List.take_of_length_le (Nat.le_refl _)]at c0
     have e1:decide (l.length=0)=l.isEmpty:=by cases l<;>simp
     rw [e1]at c0
     have hz:=rl_zv (k:=O.length) x l.isEmpty (extR n hs.reverse l).reverse
     have hcast:(n:Int)+l.length=((n+l.length:Nat):Int):=by omega
     rw [hcast]
     generalize zv x l.isEmpty (extR n hs.reverse l).reverse=z at*
     repeat' (first|apply zs_|apply zb_|apply zc_|apply zt_ rfl|apply zf_ rfl|(apply zd_ rfl<;>intro ht<;>try omega)|((first|apply zr_|apply zk_|apply ze_|apply zq_|(apply zG<;>intro ht));all_goals try simp (disch:=first|omega|(simp only [lens];first|done|omega)) only [go_sem,q2,q4,q5,q25,q26,q27,c0,c1]))
     exact Ext.pure hw (he.set (by omega)) (zb2 hz)
 ·have hv0:z3u n hs.length=false:=by simpa using hv
  rw [if_pos hv0]
  rw [hv0]at hV
  refine ACallsTo.of_body qqok (by simp) fun hw _=> ?_
  repeat' (first|apply zs_|apply zb_|apply zc_|apply zt_ rfl|apply zf_ rfl|(apply zd_ rfl<;>intro ht<;>try omega)|((first|apply zr_|apply zk_|apply ze_|apply zq_|(apply callW.mk_pu;(first|exact(fun _=>hV _)))|(apply callW.za;(first|exact(hV _)))|(apply zG<;>intro ht));all_goals try simp (disch:=first|omega|(simp only [lens];first|done|omega)) only [go_sem,r1]))
  exact DownV.pure hw (zb2 (by simp [RL]))
end
section
def zd8:Nat->List AV:=fun n=>[.int .i64 n]
def nums(l:List (Nat)):List (List AV):=l.map zd8
@[go_sem] theorem zow (l:List (Nat)):(nums l).length=l.length:=by simp [nums]
@[go_sem] theorem nums_take (l:List (Nat)) (n:Nat):(nums l).take n=nums (l.take n):=by simp [nums,List.map_take]
@[go_sem] theorem nums_drop (l:List (Nat)) (n:Nat):(nums l).drop n=nums (l.drop n):=by simp [nums,List.map_drop]
@[go_sem] theorem nums_set (l:List (Nat)) (i:Nat) (x:Nat):(nums l).set i (zd8 x)=nums (l.set i x):=by simp [nums,List.map_set]
def numsD(l:List (Nat))(i:Nat):Nat:=l.getD i 0
@[go_sem] theorem nums_get {l:List (Nat)} {i:Nat} (h:i<l.length):(nums l)[i]? =some (zd8 (numsD l i)):=by
 simp [nums,numsD,List.getElem?_map,List.getElem?_eq_getElem h]
def trsR:Nat × Hash->List AV:=fun t=> .int .i64 t.1::hc t.2
def trs(l:List (Nat × Hash)):List (List AV):=l.map trsR
@[go_sem] theorem ztc (l:List (Nat × Hash)):(trs l).length=l.length:=by simp [trs]
@[go_sem] theorem trs_take (l:List (Nat × Hash)) (n:Nat):(trs l).take n=trs (l.take n):=by simp [trs,List.map_take]
@[go_sem] theorem trs_drop (l:List (Nat × Hash)) (n:Nat):(trs l).drop n=trs (l.drop n):=by simp [trs,List.map_drop]
@[go_sem] theorem trs_set (l:List (Nat × Hash)) (i:Nat) (x:Nat × Hash):(trs l).set i (trsR x)=trs (l.set i x):=by simp [trs,List.map_set]
def trsD(l:List (Nat × Hash))(i:Nat):Nat × Hash:=l.getD i (0,zeroH)
@[go_sem] theorem trs_get {l:List (Nat × Hash)} {i:Nat} (h:i<l.length):(trs l)[i]? =some (trsR (trsD l i)):=by
 simp [trs,trsD,List.getElem?_map,List.getElem?_eq_getElem h]
theorem RdSl.frz{sz:Nat}{τ news:Store}{v:AV}{es:List (List AV)}(h:RdSl (τ++news) sz es v)(hn:∀r off len lim e,v=.sl r off len lim e->τ.length<=r)(hr:RLss τ.length es):∃v2,SlV sz es v2/\ DR (FrzD τ news) v2 v:=by
 rcases h with(⟨rfl,rfl⟩| ⟨ex,rfl⟩)| ⟨r,off,lim,o,rfl,hg,h1,h2⟩
 ·exact⟨.nilsl,.inl ⟨rfl,rfl⟩,by simp [DR]⟩
 ·exact⟨.vsl sz es ex,.inr ⟨ex,rfl⟩,FrzD.same (by simpa only [RL]using hr)⟩
 ·exact⟨.vsl sz es false,.inr ⟨false,rfl⟩,FrzD.sl (hn _ _ _ _ _ rfl) hg h1 h2 hr⟩
theorem Ext.all{O O':Store}{v v2:AV}(hw:Wf O.length O)(he:Ext O O')(h:∀news,O'=O++news->DR (FrzD O news) v2 v):DownV O.length v O' v2 O:=by
 obtain⟨news,rfl⟩:=he
 exact DownV.all hw (h news rfl)
def OwnR(sz k:Nat)(O':Store)(v:AV)(es:List (List AV)):Prop:=(es=[]/\ v=.nilsl) \/ ∃r,k<=r/\ es ≠ []/\ v=.sl r 0 es.length none sz/\ O'[r]? =some (some es)
theorem OwnR.nil{sz k:Nat}{O':Store}:OwnR sz k O' .nilsl []:=.inl ⟨rfl,rfl⟩
theorem OwnR.cells{sz k:Nat}{O':Store}{v:AV}{es:List (List AV)}(h:OwnR sz k O' v es):cellsOf v=some [v]:=by
 rcases h with⟨_,rfl⟩| ⟨r,_,_,rfl,_⟩<;>rfl
theorem OwnR.rd{sz k:Nat}{O':Store}{v:AV}{es:List (List AV)}(h:OwnR sz k O' v es):RdSl O' sz es v:=by
 rcases h with⟨h,rfl⟩| ⟨r,_,_,rfl,hg⟩
 ·exact .inl (.inl ⟨rfl,h⟩)
 ·exact .inr ⟨r,0,none,es,rfl,hg,by omega,by simp⟩
theorem OwnR.len{sz k:Nat}{O':Store}{v:AV}{es:List (List AV)}(h:OwnR sz k O' v es):z1c v=some (.int .i64 es.length):=h.rd.len
theorem OwnR.set{sz k q:Nat}{O':Store}{v:AV}{es:List (List AV)}{x:Option AObj}(h:OwnR sz k O' v es)(hq:q<k):OwnR sz k (O'.set q x) v es:=by
 rcases h with h| ⟨r,h1,h2,h3,h4⟩
 ·exact .inl h
 ·exact .inr ⟨r,h1,h2,h3,by rw [z1r (by omega)];exact h4⟩
theorem OwnR.more{sz k:Nat}{O' y:Store}{v:AV}{es:List (List AV)}(h:OwnR sz k O' v es):OwnR sz k (O'++y) v es:=by
 rcases h with h| ⟨r,h1,h2,h3,h4⟩
 ·exact .inl h
 ·exact .inr ⟨r,h1,h2,h3,by rw [gapp (slen h4)];exact h4⟩
theorem OwnR.app{sz k:Nat}{O':Store}{v:AV}{es ys:List (List AV)}(h:OwnR sz k O' v es)(hk:k<=O'.length)(h0:ys.length ≠ 0)(hl:es.length+ys.length<=1073741824):
  ∃v' O2,aApp O' sz v ys=some (v',O2)/\ OwnR sz k O2 v' (es++ys)/\ (∀q,q<k->O2[q]? =O'[q]?)/\ (∀O:Store,O.length<=k->Ext O O'->Ext O O2)/\ k<=O2.length:=by
 have hne:es++ys ≠ []:=fun e=>h0 (by rw [(List.append_eq_nil_iff.1 e).2];rfl)
 rcases h with⟨rfl,rfl⟩| ⟨r,h1,h2,rfl,hg⟩
 ·refine⟨.sl O'.length 0 ys.length none sz,O'++ [some ys],by rw [za0,if_neg h0,if_pos (by simpa using hl)],.inr ⟨O'.length,hk,hne,by simp,by simp⟩,fun q hq=>gapp (by omega),fun O _ he=>he.app,by simp;omega⟩
 ·have hr:=slen hg
  refine⟨.sl O'.length 0 (es.length+ys.length) none sz,O'.set r none++ [some (es++ys)],?_,.inr ⟨O'.length,hk,hne,by simp,by rw [z1i (by simp)];simp⟩,fun q hq=>by rw [gapp (by simp;omega),z1r (by omega)],fun O hs he=>(he.set (by omega)).app,by simp;omega⟩
  rw [za1,if_neg h0,hg]
  simp only
  rw [if_pos ⟨trivial,by omega,by omega⟩,if_neg (by omega),List.drop_zero,List.take_of_length_le (Nat.le_refl _)]
theorem OwnR.frz{sz k:Nat}{τ news:Store}{v:AV}{es:List (List AV)}(h:OwnR sz k (τ++news) v es)(hk:τ.length<=k)(hr:RLss τ.length es):DR (FrzD τ news) (z18 sz es) v:=by
 unfold z18
 rcases h with⟨rfl,rfl⟩| ⟨r,h1,h2,rfl,hg⟩
 ·simp [DR]
 ·rw [if_neg h2]
  exact FrzD.sl (by omega) hg (by omega) (by simp) hr
theorem OwnR.fr{sz k:Nat}{τ O' news:Store}{v:AV}{es:List (List AV)}(h:OwnR sz k O' v es)(e:O'=τ++news)(hk:τ.length<=k)(hr:RLss τ.length es):DR (FrzD τ news) (z18 sz es) v:=by
 subst e;exact h.frz hk hr
end
section
attribute [local irreducible] ACallsTo ACallsP
theorem zde:∀(f n:Nat),pc f n<=f
 | 0,_=>Nat.le_refl _
 |f+1,n=>by simp only [pc];have:=zde f (n/2);omega
theorem OwnN.base{sz:Nat}{τ y O':Store}{v:AV}{es:List (List AV)}(h:OwnN sz (τ++y) O' v es):OwnN sz τ O' v es:=by
 obtain⟨news,rfl,h⟩:=h
 refine⟨y++news,by rw [List.append_assoc],?_⟩
 rcases h with h| ⟨j,h0,rfl,hj⟩
 ·exact .inl h
 ·exact .inr ⟨y.length+j,h0,by rw [List.length_append];congr 1;omega,by rw [List.getElem?_append_right (by omega),Nat.add_sub_cancel_left];exact hj⟩
end
section
attribute [local irreducible] ACallsTo ACallsP
theorem zrb{k sz:Nat}{es:List (List AV)}(h:RLss k es):RL k (z18 sz es):=by
 unfold z18
 split
 ·simp [RL]
 ·simpa only [RL]using h
theorem RdSl.rel{O:Store}{sz:Nat}{es:List (List AV)}{x:AV}(h:RdSl O sz es x):z3q O sz x=some es:=by
 rcases h with(⟨rfl,rfl⟩| ⟨ex,rfl⟩)| ⟨r,off,lim,o,rfl,hg,h1,h2⟩
 ·rfl
 ·simp [z3q]
 ·simp [z3q,zbb,hg,h1,h2]
end
section
attribute [local irreducible] ACallsTo ACallsP
theorem zm2(n:Int)(hs l:List Hash)(x:AV):∃n' z e,extA n hs l x=.tup [.agg [.int .i64 n',z],.int .i64 e]/\ (∀k,RL k z)/\ cellsOf z=some [z]:=by
 unfold extA
 split
 ·exact⟨0,.nilsl,2,rfl,fun k=>by simp [RL],rfl⟩
 ·split
  ·exact⟨0,.nilsl,60,rfl,fun k=>by simp [RL],rfl⟩
  ·exact⟨_,_,0,rfl,fun k=>rl_zv _ _ _,zjs _ _ _⟩
theorem zju(O:Store)(n:Int)(hs:List Hash)(x:AV)(h:Hash)(hx:RdSl O 32 (hr hs) x)(hn: -9223372036854775808<=n/\ n<=9223372036854775807)(hhl:hs.length<1000000):
  ACallsTo TC 25 [.agg [.int .i64 n,x],.agg (hc h)] O (extA n hs [h] x) O:=by
 have hE:=fun y=>zk0 (O++y) n hs [h] x (.vsl 32 [hc h] true) hx.app (.inr ⟨true,rfl⟩) hn hhl (by simp)
 obtain⟨n',z,e,h',hz,hcz⟩:=zm2 n hs [h] x
 rw [h']at hE ⊢
 unfold cellsOf at hcz
 refine ACallsTo.of_body qpok (by simp) fun hw _=> ?_
 repeat' (first|apply zs_|apply zb_|apply zc_|apply zt_ rfl|apply zf_ rfl|(apply zd_ rfl<;>intro ht<;>try omega)|((first|apply zr_|apply zk_|apply ze_|apply zq_|(apply callW.mk_pu;(first|exact(fun _=>hE _)))|(apply callW.za;(first|exact(hE _)))|(apply zG<;>intro ht));all_goals try simp (disch:=first|omega|(simp only [lens,z7,z6,ztc,zow,lQr];first|done|omega)) only [go_sem,hcz]))
 exact DownV.pure hw (zb2 (hz _))
end
section
attribute [local irreducible] ACallsTo ACallsP
end
section
attribute [local irreducible] ACallsTo ACallsP
theorem z96{sz:Nat}{es:List (List AV)}{z:AV}(h:SlV sz es z):cellsOf z=some [z]:=by
 rcases h with⟨rfl,_⟩| ⟨ex,rfl⟩<;>rfl
end
section
theorem zb6(a b:Hash):zz [a,b]=zy a b:=by
 rw [z7l (by simp)];simp [split2,zdq]
theorem zij(a b c d:Hash):zz [a,b,c,d]=zy (zy a b) (zy c d):=by
 rw [z7l (by simp)];simp [split4,zb6]
attribute [local irreducible] ACallsTo ACallsP
end
section
attribute [local irreducible] ACallsTo ACallsP
theorem hslC_h{cs:List AV}(h:ShC (.sl 32 z6k) cs):∃(l:List Hash) (a:AV),cs=[a]/\ SlV 32 (hr l) a/\ l.length<=maxLen:=by
 simp only [ShC]at h
 rcases h with rfl| ⟨es,rfl,hl,_,h2⟩
 ·exact⟨[],.nilsl,rfl,.inl ⟨rfl,rfl⟩,Nat.zero_le _⟩
 ·obtain⟨hs,rfl,hH⟩:=zgj es h2
  obtain⟨m,rfl⟩:=hb_of hH
  rw [zcu]at*
  exact⟨m,_,rfl,.inr ⟨false,rfl⟩,by rwa [z6]at hl⟩
end
section
attribute [local irreducible] ACallsTo ACallsP
end
end Am
end Go.Proofs.YtkiimfgjimoffaaGreatDoor
