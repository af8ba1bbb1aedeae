import Derived.Test.YtkiimfgjimoffaaDoorK20b64ab36
import Derived.Shelf.Strings.Builder1
import Derived.Shelf.Strings.Builder2
import Derived.Shelf.Strings.BuilderF
import Derived.Shelf.Strings.Prefix
import Derived.Shelf.Bits.Mul64
import Derived.Shelf.Strings.Repeat
import Derived.Test.YtkiimfgjimoffaaDoorProg
set_option linter.unusedSimpArgs false
set_option linter.unusedVariables false
open Nat (reduceEqDiff reduceAdd reduceMul reduceSub reduceLeDiff)
open Int (reduceToNat reducePow)
open Nat renaming reduceEqDiff -> nQ1, reduceBEq -> nQ2, reduceAdd -> nQ3, reduceMul -> nQ4, reduceSub -> nQ5, reduceLeDiff -> nQ6
open Int renaming reduceToNat -> nQ7, reducePow -> nQ8
open List renaming length_reverse -> lQr, length_map -> lQm, length_take -> lQt, length_drop -> lQd, length_set -> lQs
set_option maxHeartbeats 16000000
attribute [local go_sem_proc] Nat.reduceEqDiff Nat.reduceBEq Nat.reduceAdd Nat.reduceMul Nat.reduceSub Nat.reduceLeDiff Int.reduceToNat Int.reducePow
namespace Go.Proofs.YtkiimfgjimoffaaDoor
namespace Am
section
set_option maxRecDepth 10000
def q8r0:yW:=[
 yI 2 (.alloc zZ0)]
def q8r1:yW:=[
 yI 8 (.load true 8 (.v (.vp zcb))),
 yI 3 (.alloc [(.int .u32 0),(.int .u32 0),(.int .u32 0),(.int .u32 0),(.int .u32 0),(.int .u32 0),(.int .u32 0),(.int .u32 0)]),
 yS 8 3 8]
def q8r2:yW:=[
 yM 9 0,
 yC 10 41 9,
 yM 4 10]
def q8r3:yW:=[
 yM 11 4,
 yI 12 (.bin .neq .none (.t 11) (.v (.str [])))]
def q8c4:yX:=.cond (.t 12) .skip (.exit 0)
def q8c5:yX:=yq q8r3 q8c4
def q8r6:yW:=[
 yL 15 true 8 3,
 yM 16 4,
 yI 17 (.slice .str (.t 16) none (some (.v (.int .i64 64))) none),
 yD 18 42 15 17,
 yS 8 3 18]
def q8r7:yW:=[
 yM 13 4,
 yI 14 (.slice .str (.t 13) (some (.v (.int .i64 64))) none none),
 yM 4 14]
def q8c8:yX:=.seq (.block 1 (.reg q8r6)) (.reg q8r7)
def q8c9:yX:=.seq q8c5 q8c8
def q8c10:yX:=.loop q8c9
def q8c11:yX:=.block 0 q8c10
def q8c12:yX:=yq q8r2 q8c11
def q8r13:yW:=[
 yI 5 (.alloc zZ0)]
def q8r14:yW:=[
 yL 19 true 8 3,
 yK 20 .i64 0]
def q8r15:yW:=[
 yJ 21 .lss 20 .i64 8]
def q8r16:yW:=[
 yM 22 20,
 yI 23 (.ixArr 8 false 1 (.t 19) (.t 20)),
 yM 6 22,
 yM 7 23]
def q8r17:yW:=[
 yM 24 6,
 yI 25 (.bin .mul .none (.v (.int .i64 4)) (.t 24)),
 yI 26 (.slice (.arr 32 1) (.t 5) (some (.t 25)) none none),
 yM 27 7,
 yI 28 (.conv (.int .u64) (.t 27)),
 yI 29 (.call (.v (.fn 43 [])) [(.t 28),(.v (.int .i64 4))]),
 yI 30 (.copy 1 (.t 26) (.t 29))]
def q8c18:yX:=yq q8r16 (.reg q8r17)
def q8r19:yW:=[
 yJ 31 .add 20 .i64 1,
 yM 20 31]
def q8c20:yX:=.seq (.block 3 q8c18) (.reg q8r19)
def q8c21:yX:=.seq (.cond (.t 21) .skip (.exit 2)) q8c20
def q8c22:yX:=yq q8r15 q8c21
def q8c23:yX:=.loop q8c22
def q8c24:yX:=.block 2 q8c23
def q8c25:yX:=yq q8r14 q8c24
def q8r26:yW:=[
 yL 32 true 32 5,
 yS 32 2 32]
def q8c27:yX:=yq q8r26 .ret
def q8c28:yX:=.seq q8c25 q8c27
def q8c29:yX:=yq q8r13 q8c28
def q8c30:yX:=.seq q8c12 q8c29
def q8c31:yX:=yq q8r1 q8c30
def q8c32:yX:=yq q8r0 q8c31
attribute [go_sem] q8r0 q8r1 q8r2 q8r3 q8r6 q8r7 q8r13 q8r14 q8r15 q8r16 q8r17 q8r19 q8r26
theorem q8ok:cFn TC 21=some (33,[.c 2 true 32],q8c32):=by kernel_rfl
def q9r0:yW:=[
 yI 2 (.mv (.v (.str [])))]
def q9r1:yW:=[
 yM 4 0,
 yI 5 (.lenStr (.t 4)),
 yJ 6 .rem 5 .i64 64,
 yI 7 (.bin .sub .none (.v (.int .i64 119)) (.t 6)),
 yJ 8 .rem 7 .i64 64,
 yM 3 8]
def q9r2:yW:=[
 yM 9 0,
 yI 10 (.bin .add .none (.t 9) (.v (.str [128]))),
 yM 11 3,
 yI 12 (.call (.v (.fn 59 [])) [(.v (.str [0])),(.t 11)]),
 yB 13 .add 10 12,
 yM 14 0,
 yI 15 (.lenStr (.t 14)),
 yI 16 (.conv (.int .u64) (.t 15)),
 yJ 17 .mul 16 .u64 8,
 yI 18 (.call (.v (.fn 43 [])) [(.t 17),(.v (.int .i64 8))]),
 yB 19 .add 13 18,
 yM 2 19]
def q9c3:yX:=yq q9r2 .ret
def q9c4:yX:=yq q9r1 q9c3
def q9c5:yX:=yq q9r0 q9c4
attribute [go_sem] q9r0 q9r1 q9r2
theorem q9ok:cFn TC 41=some (20,[.t 2],q9c5):=by kernel_rfl
def qar0:yW:=[
 yI 2 (.box (.t 0)),
 yI 4 (.alloc [(.int .u32 0),(.int .u32 0),(.int .u32 0),(.int .u32 0),(.int .u32 0),(.int .u32 0),(.int .u32 0),(.int .u32 0)])]
def qar1:yW:=[
 yL 13 true 8 2,
 yI 5 (.alloc [(.int .u32 0),(.int .u32 0),(.int .u32 0),(.int .u32 0),(.int .u32 0),(.int .u32 0),(.int .u32 0),(.int .u32 0)]),
 yS 8 5 13]
def qar2:yW:=[
 yM 14 1,
 yC 15 60 14,
 yK 16 .i64 0]
def qar3:yW:=[
 yJ 17 .lss 16 .i64 64]
def qar4:yW:=[
 yM 18 16,
 yI 19 (.ixArr 64 false 1 (.t 15) (.t 16)),
 yM 6 18,
 yM 7 19]
def qar5:yW:=[
 yI 20 (.iaArr 8 1 (.t 5) (.v (.int .i64 0))),
 ⟨some 21,none,.rd,.load false 1 (.t 20)⟩,
 yI 22 (.iaArr 8 1 (.t 5) (.v (.int .i64 4))),
 ⟨some 23,none,.rd,.load false 1 (.t 22)⟩,
 yM 8 21,
 yM 9 23]
def qar6:yW:=[
 yI 24 (.iaArr 8 1 (.t 5) (.v (.int .i64 7))),
 ⟨some 25,none,.rd,.load false 1 (.t 24)⟩,
 yM 26 9,
 ⟨some 27,none,.ef,.call (.v (.fn 61 [])) [(.t 26),(.v (.int .i64 6))]⟩,
 yM 28 9,
 ⟨some 29,none,.ef,.call (.v (.fn 61 [])) [(.t 28),(.v (.int .i64 11))]⟩,
 yB 30 .xor 27 29,
 yM 31 9,
 ⟨some 32,none,.ef,.call (.v (.fn 61 [])) [(.t 31),(.v (.int .i64 25))]⟩,
 yB 33 .xor 30 32,
 yB 34 .add 25 33,
 yM 35 9,
 yI 36 (.iaArr 8 1 (.t 5) (.v (.int .i64 5))),
 ⟨some 37,none,.rd,.load false 1 (.t 36)⟩,
 yB 38 .and 35 37,
 yM 39 9,
 yI 40 (.un .xor (.t 39)),
 yI 41 (.iaArr 8 1 (.t 5) (.v (.int .i64 6))),
 ⟨some 42,none,.rd,.load false 1 (.t 41)⟩,
 yB 43 .and 40 42,
 yB 44 .xor 38 43,
 yB 45 .add 34 44,
 yM 46 6,
 yI 47 (.iaArr 64 1 (.v (.vp gl_sha_rounds)) (.t 46)),
 ⟨some 48,none,.rd,.load false 1 (.t 47)⟩,
 yB 49 .add 45 48,
 yM 50 7,
 yB 51 .add 49 50,
 yM 10 51]
def qar7:yW:=[
 yM 52 8,
 ⟨some 53,none,.ef,.call (.v (.fn 61 [])) [(.t 52),(.v (.int .i64 2))]⟩,
 yM 54 8,
 ⟨some 55,none,.ef,.call (.v (.fn 61 [])) [(.t 54),(.v (.int .i64 13))]⟩,
 yB 56 .xor 53 55,
 yM 57 8,
 ⟨some 58,none,.ef,.call (.v (.fn 61 [])) [(.t 57),(.v (.int .i64 22))]⟩,
 yB 59 .xor 56 58,
 yM 60 8,
 yI 61 (.iaArr 8 1 (.t 5) (.v (.int .i64 1))),
 ⟨some 62,none,.rd,.load false 1 (.t 61)⟩,
 yB 63 .and 60 62,
 yM 64 8,
 yI 65 (.iaArr 8 1 (.t 5) (.v (.int .i64 2))),
 ⟨some 66,none,.rd,.load false 1 (.t 65)⟩,
 yB 67 .and 64 66,
 yB 68 .xor 63 67,
 yI 69 (.iaArr 8 1 (.t 5) (.v (.int .i64 1))),
 ⟨some 70,none,.rd,.load false 1 (.t 69)⟩,
 yI 71 (.iaArr 8 1 (.t 5) (.v (.int .i64 2))),
 ⟨some 72,none,.rd,.load false 1 (.t 71)⟩,
 yB 73 .and 70 72,
 yB 74 .xor 68 73,
 yB 75 .add 59 74,
 yM 11 75]
def qar8:yW:=[
 yM 76 10,
 yM 77 11,
 yB 78 .add 76 77,
 yM 79 8,
 yI 80 (.iaArr 8 1 (.t 5) (.v (.int .i64 1))),
 yL 81 false 1 80,
 yI 82 (.iaArr 8 1 (.t 5) (.v (.int .i64 2))),
 yL 83 false 1 82,
 yI 84 (.iaArr 8 1 (.t 5) (.v (.int .i64 3))),
 yL 85 false 1 84,
 yM 86 10,
 yB 87 .add 85 86,
 yM 88 9,
 yI 89 (.iaArr 8 1 (.t 5) (.v (.int .i64 5))),
 yL 90 false 1 89,
 yI 91 (.iaArr 8 1 (.t 5) (.v (.int .i64 6))),
 yL 92 false 1 91,
 yI 93 (.build [(.int .u32 0),(.int .u32 0),(.int .u32 0),(.int .u32 0),(.int .u32 0),(.int .u32 0),(.int .u32 0),(.int .u32 0)] [(0,1,(.t 78)),(1,1,(.t 79)),(2,1,(.t 81)),(3,1,(.t 83)),(4,1,(.t 87)),(5,1,(.t 88)),(6,1,(.t 90)),(7,1,(.t 92))]),
 yS 8 5 93]
def qac9:yX:=yq qar7 (.reg qar8)
def qac10:yX:=yq qar6 qac9
def qac11:yX:=yq qar5 qac10
def qac12:yX:=yq qar4 qac11
def qar13:yW:=[
 yJ 94 .add 16 .i64 1,
 yM 16 94]
def qac14:yX:=.seq (.block 1 qac12) (.reg qar13)
def qac15:yX:=.seq (.cond (.t 17) .skip (.exit 0)) qac14
def qac16:yX:=yq qar3 qac15
def qac17:yX:=.loop qac16
def qac18:yX:=.block 0 qac17
def qac19:yX:=yq qar2 qac18
def qar20:yW:=[
 yK 95 .i64 0]
def qar21:yW:=[
 yJ 96 .lss 95 .i64 8]
def qar22:yW:=[
 yM 97 95,
 yM 12 97]
def qar23:yW:=[
 yM 98 12,
 yI 99 (.iaArr 8 1 (.t 5) (.t 98)),
 ⟨some 100,none,.rd,.load false 1 (.t 99)⟩,
 yM 101 12,
 yI 102 (.iaArr 8 1 (.t 2) (.t 101)),
 ⟨some 103,none,.rd,.load false 1 (.t 102)⟩,
 yB 104 .add 100 103,
 yI 105 (.iaArr 8 1 (.t 5) (.t 98)),
 yS 1 105 104]
def qac24:yX:=yq qar22 (.reg qar23)
def qar25:yW:=[
 yJ 106 .add 95 .i64 1,
 yM 95 106]
def qac26:yX:=.seq (.block 3 qac24) (.reg qar25)
def qac27:yX:=.seq (.cond (.t 96) .skip (.exit 2)) qac26
def qac28:yX:=yq qar21 qac27
def qac29:yX:=.loop qac28
def qac30:yX:=.block 2 qac29
def qac31:yX:=yq qar20 qac30
def qar32:yW:=[
 yL 107 true 8 5,
 yS 8 4 107]
def qac33:yX:=yq qar32 .ret
def qac34:yX:=.seq qac31 qac33
def qac35:yX:=.seq qac19 qac34
def qac36:yX:=yq qar1 qac35
def qac37:yX:=yq qar0 qac36
attribute [go_sem] qar0 qar1 qar2 qar3 qar4 qar5 qar6 qar7 qar8 qar13 qar20 qar21 qar22 qar23 qar25 qar32
theorem qaok:cFn TC 42=some (108,[.c 4 true 8],qac37):=by kernel_rfl
def qbr0:yW:=[
 yI 2 (.alloc [(.int .u32 0),(.int .u32 0),(.int .u32 0),(.int .u32 0),(.int .u32 0),(.int .u32 0),(.int .u32 0),(.int .u32 0),(.int .u32 0),(.int .u32 0),(.int .u32 0),(.int .u32 0),(.int .u32 0),(.int .u32 0),(.int .u32 0),(.int .u32 0),(.int .u32 0),(.int .u32 0),(.int .u32 0),(.int .u32 0),(.int .u32 0),(.int .u32 0),(.int .u32 0),(.int .u32 0),(.int .u32 0),(.int .u32 0),(.int .u32 0),(.int .u32 0),(.int .u32 0),(.int .u32 0),(.int .u32 0),(.int .u32 0),(.int .u32 0),(.int .u32 0),(.int .u32 0),(.int .u32 0),(.int .u32 0),(.int .u32 0),(.int .u32 0),(.int .u32 0),(.int .u32 0),(.int .u32 0),(.int .u32 0),(.int .u32 0),(.int .u32 0),(.int .u32 0),(.int .u32 0),(.int .u32 0),(.int .u32 0),(.int .u32 0),(.int .u32 0),(.int .u32 0),(.int .u32 0),(.int .u32 0),(.int .u32 0),(.int .u32 0),(.int .u32 0),(.int .u32 0),(.int .u32 0),(.int .u32 0),(.int .u32 0),(.int .u32 0),(.int .u32 0),(.int .u32 0)])]
def qbr1:yW:=[
 yK 6 .i64 0]
def qbr2:yW:=[
 yJ 7 .lss 6 .i64 64]
def qbr3:yW:=[
 yM 8 6,
 yM 3 8]
def qbr4:yW:=[
 yM 9 3,
 yJ 10 .lss 9 .i64 16]
def qbr5:yW:=[
 yM 11 3,
 yM 12 0,
 yM 13 3,
 yI 14 (.bin .mul .none (.v (.int .i64 4)) (.t 13)),
 yM 15 3,
 yI 16 (.bin .mul .none (.v (.int .i64 4)) (.t 15)),
 yJ 17 .add 16 .i64 4,
 yI 18 (.slice .str (.t 12) (some (.t 14)) (some (.t 17)) none),
 yC 19 81 18,
 yI 20 (.conv (.int .u32) (.t 19)),
 yI 21 (.iaArr 64 1 (.t 2) (.t 11)),
 yS 1 21 20]
def qbc6:yX:=yq qbr5 (.exit 1)
def qbc7:yX:=.cond (.t 10) qbc6 .skip
def qbc8:yX:=yq qbr4 qbc7
def qbr9:yW:=[
 yM 22 3,
 yJ 23 .sub 22 .i64 15,
 yI 24 (.iaArr 64 1 (.t 2) (.t 23)),
 ⟨some 25,none,.rd,.load false 1 (.t 24)⟩,
 yM 26 3,
 yJ 27 .sub 26 .i64 2,
 yI 28 (.iaArr 64 1 (.t 2) (.t 27)),
 ⟨some 29,none,.rd,.load false 1 (.t 28)⟩,
 yM 4 25,
 yM 5 29]
def qbr10:yW:=[
 yM 30 3,
 yM 31 3,
 yJ 32 .sub 31 .i64 16,
 yI 33 (.iaArr 64 1 (.t 2) (.t 32)),
 ⟨some 34,none,.rd,.load false 1 (.t 33)⟩,
 yM 35 3,
 yJ 36 .sub 35 .i64 7,
 yI 37 (.iaArr 64 1 (.t 2) (.t 36)),
 ⟨some 38,none,.rd,.load false 1 (.t 37)⟩,
 yB 39 .add 34 38,
 yM 40 4,
 ⟨some 41,none,.ef,.call (.v (.fn 61 [])) [(.t 40),(.v (.int .i64 7))]⟩,
 yM 42 4,
 ⟨some 43,none,.ef,.call (.v (.fn 61 [])) [(.t 42),(.v (.int .i64 18))]⟩,
 yB 44 .xor 41 43,
 yM 45 4,
 yJ 46 .shr 45 .u64 3,
 yB 47 .xor 44 46,
 yB 48 .add 39 47,
 yM 49 5,
 ⟨some 50,none,.ef,.call (.v (.fn 61 [])) [(.t 49),(.v (.int .i64 17))]⟩,
 yM 51 5,
 ⟨some 52,none,.ef,.call (.v (.fn 61 [])) [(.t 51),(.v (.int .i64 19))]⟩,
 yB 53 .xor 50 52,
 yM 54 5,
 yJ 55 .shr 54 .u64 10,
 yB 56 .xor 53 55,
 yB 57 .add 48 56,
 yI 58 (.iaArr 64 1 (.t 2) (.t 30)),
 yS 1 58 57]
def qbc11:yX:=yq qbr9 (.reg qbr10)
def qbc12:yX:=.seq qbc8 qbc11
def qbc13:yX:=yq qbr3 qbc12
def qbr14:yW:=[
 yJ 59 .add 6 .i64 1,
 yM 6 59]
def qbc15:yX:=.seq (.block 1 qbc13) (.reg qbr14)
def qbc16:yX:=.seq (.cond (.t 7) .skip (.exit 0)) qbc15
def qbc17:yX:=yq qbr2 qbc16
def qbc18:yX:=.loop qbc17
def qbc19:yX:=.block 0 qbc18
def qbc20:yX:=yq qbr1 qbc19
def qbr21:yW:=[
 yL 60 true 64 2,
 yS 64 2 60]
def qbc22:yX:=yq qbr21 .ret
def qbc23:yX:=.seq qbc20 qbc22
def qbc24:yX:=yq qbr0 qbc23
attribute [go_sem] qbr0 qbr1 qbr2 qbr3 qbr4 qbr5 qbr9 qbr10 qbr14 qbr21
theorem qbok:cFn TC 60=some (61,[.c 2 true 64],qbc24):=by kernel_rfl
end
section
abbrev W:=BitVec 32
def wc(x:W):AV:=.int .u32 x.toNat
def ws(l:List W):List AV:=l.map wc
def ss0(x:W):W:=(x.rotateLeft 25^^^x.rotateLeft 14)^^^x>>>3
def ss1(y:W):W:=(y.rotateLeft 15^^^y.rotateLeft 13)^^^y>>>10
def bs1(e:W):W:=(e.rotateLeft 26^^^e.rotateLeft 21)^^^e.rotateLeft 7
def bs0(a:W):W:=(a.rotateLeft 30^^^a.rotateLeft 19)^^^a.rotateLeft 10
def chW(e f g:W):W:=(e &&& f)^^^(~~~e &&& g)
def majW(a b c:W):W:=((a &&& b)^^^(a &&& c))^^^(b &&& c)
def zl(s:List UInt8)(i:Nat):W:=BitVec.ofNat 32 (getS ((s.drop (4*i)).take 4))
def wat(w:List W)(i:Nat):W:=w.getD i 0
def z3y(s:List UInt8)(w:List W):W:=
 if w.length<16 then zl s w.length else wat w (w.length-16)+wat w (w.length-7)+ss0 (wat w (w.length-15))+ss1 (wat w (w.length-2))
def z1f(s:List UInt8):Nat->List W
 | 0=>[]
 |n+1=>z1f s n++ [z3y s (z1f s n)]
structure V8 where
 a:W
 b:W
 c:W
 d:W
 e:W
 f:W
 g:W
 h:W
def V8.l(v:V8):List W:=[v.a,v.b,v.c,v.d,v.e,v.f,v.g,v.h]
def rnd(v:V8)(k w:W):V8:=
 ⟨(v.h+bs1 v.e+chW v.e v.f v.g+k+w)+(bs0 v.a+majW v.a v.b v.c),v.a,v.b,v.c,v.d+(v.h+bs1 v.e+chW v.e v.f v.g+k+w),v.e,v.f,v.g⟩
def kAt(n:Nat):W:=BitVec.ofInt 32 (shaRounds.getD n 0)
def rnds(s:List UInt8)(v:V8):Nat->V8
 | 0=>v
 |n+1=>rnd (rnds s v n) (kAt n) (wat (z1f s 64) n)
def V8.add(v u:V8):V8:=⟨v.a+u.a,v.b+u.b,v.c+u.c,v.d+u.d,v.e+u.e,v.f+u.f,v.g+u.g,v.h+u.h⟩
def mixS(v:V8)(s:List UInt8):V8:=(rnds s v 64).add v
def blocks:Nat->V8->List UInt8->V8
 | 0,v,_=>v
 |n+1,v,s=>blocks n (mixS v (s.take 64)) (s.drop 64)
def v0:V8:=⟨1779033703#32,3144134277#32,1013904242#32,2773480762#32,1359893119#32,2600822924#32,528734635#32,1541459225#32⟩
def padS(s:List UInt8):List UInt8:=s++128::(List.replicate ((119-s.length%64)%64) 0++be 8 (s.length*8))
def outV(v:V8):List UInt8:=v.l.flatMap fun x=>be 4 x.toNat
def shaS(s:List UInt8):List UInt8:=outV (blocks ((padS s).length/64) v0 (padS s))
theorem zdk(s:List UInt8):∀n,(z1f s n).length=n
 | 0=>rfl
 |n+1=>by simp [z1f,zdk s n]
theorem ze6{w:List W}{i:Nat}(h:i<w.length):(ws w)[i]? =some (.int .u32 (wat w i).toNat):=by
 simp [ws,wc,wat,List.getElem?_map,List.getD_eq_getElem?_getD,List.getElem?_eq_getElem h]
theorem z99(w:List W):(ws w).length=w.length:=by simp [ws]
section
theorem wr32(x:BitVec 32):IntKind.u32.wrap (x.toNat:Int)=x.toNat:=z97 ⟨by omega,by have:=x.isLt;omega⟩
theorem bw_add(a b:BitVec 32):z13 .add .u32 (a.toNat:Int) (b.toNat:Int)=some (.int .u32 ((a+b).toNat:Int)):=by
 rw [zge,z98,BitVec.toNat_add];rfl
theorem bw_xor(a b:BitVec 32):z13 .xor .u32 (a.toNat:Int) (b.toNat:Int)=some (.int .u32 ((a^^^b).toNat:Int)):=by
 rw [zgh ⟨by omega,by have:=a.isLt;omega⟩ ⟨by omega,by have:=b.isLt;omega⟩,BitVec.toNat_xor];rfl
theorem bw_and(a b:BitVec 32):z13 .and .u32 (a.toNat:Int) (b.toNat:Int)=some (.int .u32 ((a &&& b).toNat:Int)):=by
 rw [zgf ⟨by omega,by have:=a.isLt;omega⟩ ⟨by omega,by have:=b.isLt;omega⟩,BitVec.toNat_and];rfl
theorem bw_or(a b:BitVec 32):z13 .or .u32 (a.toNat:Int) (b.toNat:Int)=some (.int .u32 ((a |||b).toNat:Int)):=by
 rw [zgg ⟨by omega,by have:=a.isLt;omega⟩ ⟨by omega,by have:=b.isLt;omega⟩,BitVec.toNat_or];rfl
theorem bw_shr{a:BitVec 32}{n:Int}(h:0<=n/\ n<32):z1g .shr .u32 (a.toNat:Int) n=some (.int .u32 ((a>>>n.toNat).toNat:Int)):=by
 rw [zio h,BitVec.toNat_ushiftRight,Nat.shiftRight_eq_div_pow,Int.natCast_ediv,Int.natCast_pow];rfl
theorem bw_shl{a:BitVec 32}{n:Int}(h:0<=n/\ n<32):z1g .shl .u32 (a.toNat:Int) n=some (.int .u32 ((a<<<n.toNat).toNat:Int)):=by
 rw [zik h,BitVec.toNat_shiftLeft,Nat.shiftLeft_eq,z98]
 rw [Int.natCast_emod,Int.natCast_mul,Int.natCast_pow];rfl
theorem bw_not(a:BitVec 32):aUn .xor (.int .u32 (a.toNat:Int))=some (.int .u32 ((~~~a).toNat:Int)):=by
 have e1:BitVec.ofInt IntKind.u32.bits (a.toNat:Int)=a:=by
  apply BitVec.eq_of_toNat_eq
  have:=a.isLt
  rw [BitVec.toNat_ofInt]
  simp only [IntKind.bits]
  omega
 have e2:BitVec.ofInt IntKind.u32.bits (if IntKind.u32.signed=true then-1 else IntKind.u32.max)=BitVec.allOnes 32:=by rfl
 have e3:aUn .xor (.int .u32 (a.toNat:Int))=some (.int .u32 (IntKind.u32.wrap (((BitVec.ofInt IntKind.u32.bits (if IntKind.u32.signed=true then-1 else IntKind.u32.max)^^^BitVec.ofInt IntKind.u32.bits (a.toNat:Int)).toNat:Nat):Int))):=rfl
 rw [e3,e1,e2]
 have e4:BitVec.allOnes 32^^^a= ~~~a:=BitVec.allOnes_xor
 show some (AV.int .u32 (IntKind.u32.wrap ((BitVec.allOnes 32^^^a).toNat:Int)))=_
 rw [e4,wr32]
end
attribute [go_sem high] bw_add bw_xor bw_and bw_or bw_shr bw_shl bw_not
end
end Am
end Go.Proofs.YtkiimfgjimoffaaDoor
section
/- Packed words: lanes of 64 bits in one number. -/
namespace Go.Proofs.YtkiimfgjimoffaaDoor
namespace Pk
def pkN:List Nat->Nat
 | []=>0
 |x::l=>2^64*pkN l+x
def lane(l:List Nat)(q:Nat):Nat:=l.getD q 0
theorem zhg:∀(l:List Nat) (i:Nat),(∀x ∈ l,x<2^64)->(pkN l).testBit i=(lane l (i/64)).testBit (i%64)
 | [],i,_=>by simp [pkN,lane]
 |x::l,i,h=>by
  rw [pkN,Nat.testBit_two_pow_mul_add _ (h x (by simp))]
  by_cases hi:i<64
  ·rw [if_pos hi,show i/64=0 by omega,show i%64=i by omega];rfl
  ·rw [if_neg hi,zhg l (i-64) (fun y hy=>h y (by simp [hy])),show i/64=(i-64)/64+1 by omega,show i%64=(i-64)%64 by omega]
   rfl
theorem pk_at{l:List Nat}(hl:∀x ∈ l,x<2^64)(q r:Nat)(hr:r<64):(pkN l).testBit (64*q+r)=(lane l q).testBit r:=by
 rw [zhg l _ hl,show (64*q+r)/64=q by omega,show (64*q+r)%64=r by omega]
section
variable {ι:Type} (L:List ι)
def P(f:ι->Nat):Nat:=pkN (L.map f)
theorem P_add(f g:ι->Nat):P L f+P L g=P L (fun i=>f i+g i):=by
 unfold P
 induction L with
 |nil=>rfl
 |cons x l ih=>simp only [List.map_cons,pkN]at ih ⊢;rw [<-ih];omega
theorem P_mul(f:ι->Nat)(c:Nat):P L f*c=P L (fun i=>f i*c):=by
 unfold P
 induction L with
 |nil=>simp [pkN]
 |cons x l ih=>simp only [List.map_cons,pkN]at ih ⊢;rw [<-ih,Nat.add_mul,Nat.mul_assoc]
theorem znp(f:ι->Nat)(q:Nat):lane (L.map f) q=((L[q]?).map f).getD 0:=by
 simp [lane,List.getD_eq_getElem?_getD]
theorem z7p{f:ι->Nat}(h:∀i,f i<2^64)(q r:Nat)(hr:r<64):(P L f).testBit (64*q+r)=((L[q]?).map f).any (·.testBit r):=by
 unfold P
 rw [pk_at (by simp only [List.mem_map];rintro x ⟨i,_,rfl⟩;exact h i) q r hr,znp]
 cases L[q]? <;>simp
theorem P_ext{f:ι->Nat}(h:∀i,f i<2^64){N:Nat}(hN:∀q r,r<64->N.testBit (64*q+r)=((L[q]?).map f).any (·.testBit r)):N=P L f:=by
 apply Nat.eq_of_testBit_eq
 intro i
 have e:i=64*(i/64)+i%64:=(Nat.div_add_mod i 64).symm
 rw [e,hN _ _ (Nat.mod_lt _ (by omega)),z7p L h _ _ (Nat.mod_lt _ (by omega))]
abbrev W:=BitVec 32
def Q(f:ι->W):Nat:=P L (fun i=>(f i).toNat)
def M:Nat:=P L (fun _=>4294967295)
def one:Nat:=P L (fun _=>1)
theorem w64(x:W):x.toNat<2^64:=by have:=x.isLt;omega
theorem Q_bit{f:ι->W}(q r:Nat)(hr:r<64):(Q L f).testBit (64*q+r)=(L[q]?).any (fun i=>(f i).getLsbD r):=by
 unfold Q
 rw [z7p L (fun i=>w64 _) q r hr]
 cases L[q]? <;>simp [BitVec.getLsbD]
theorem Q_ext{f:ι->W}{N:Nat}(hN:∀q r,r<64->N.testBit (64*q+r)=(L[q]?).any (fun i=>(f i).getLsbD r)):N=Q L f:=by
 apply P_ext L (fun i=>w64 _)
 intro q r hr
 rw [hN q r hr]
 cases L[q]? <;>simp [BitVec.getLsbD]
theorem M_bit(q r:Nat)(hr:r<64):(M L).testBit (64*q+r)=(L[q]?).any (fun _=>decide (r<32)):=by
 unfold M
 rw [z7p L (fun i=>by omega) q r hr]
 cases L[q]? with
 |none=>simp
 |some x=>
  simp only [Option.map_some,Option.any_some]
  rw [show (4294967295:Nat)=2^32-1 from rfl,Nat.testBit_two_pow_sub_one]
theorem Q_xor(f g:ι->W):Q L f^^^Q L g=Q L (fun i=>f i^^^g i):=by
 apply Q_ext
 intro q r hr
 rw [Nat.testBit_xor,Q_bit L q r hr,Q_bit L q r hr]
 cases L[q]? <;>simp
theorem Q_and(f g:ι->W):Q L f &&& Q L g=Q L (fun i=>f i &&& g i):=by
 apply Q_ext
 intro q r hr
 rw [Nat.testBit_and,Q_bit L q r hr,Q_bit L q r hr]
 cases L[q]? <;>simp
theorem Q_not(f:ι->W):M L^^^Q L f=Q L (fun i=> ~~~ f i):=by
 apply Q_ext
 intro q r hr
 rw [Nat.testBit_xor,Q_bit L q r hr,M_bit L q r hr]
 cases L[q]? with
 |none=>simp
 |some x=>
  simp only [Option.any_some,BitVec.getLsbD_not]
  by_cases h:r<32
  ·simp [h]
  ·simp [h,BitVec.getLsbD_of_ge _ _ (show 32<=r by omega)]
theorem P_mask{f:ι->Nat}(h:∀i,f i<2^64):P L f &&& M L=Q L (fun i=>BitVec.ofNat 32 (f i)):=by
 apply Q_ext
 intro q r hr
 rw [Nat.testBit_and,z7p L h q r hr,M_bit L q r hr]
 cases L[q]? with
 |none=>simp
 |some x=>simp [BitVec.getLsbD_ofNat];exact Bool.and_comm _ _
def cD:Nat:=2^32+1
theorem cD_is(x:Nat):x*cD=2^32*x+x:=by rw [cD,Nat.mul_add,Nat.mul_comm,Nat.mul_one]
def dbl(x:Nat):Nat:=x*cD
theorem zlf(x:W)(r:Nat):(x.toNat*cD).testBit r=if r<32 then x.getLsbD r else x.getLsbD (r-32):=by
 rw [cD_is,Nat.testBit_two_pow_mul_add _ x.isLt]
 rfl
theorem dbl_lt(x:W):x.toNat*cD<2^64:=by have:=x.isLt;rw [cD_is];omega
theorem D_bit{f:ι->W}(q r:Nat)(hr:r<64):(dbl (Q L f)).testBit (64*q+r)=(L[q]?).any (fun i=>if r<32 then(f i).getLsbD r else(f i).getLsbD (r-32)):=by
 have e:dbl (Q L f)=P L (fun i=>(f i).toNat*cD):=by unfold dbl Q;rw [P_mul]
 rw [e,z7p L (fun i=>dbl_lt (f i)) q r hr]
 cases L[q]? with
 |none=>rfl
 |some x=>rw [Option.map_some,Option.any_some,Option.any_some,zlf]
theorem rl_bit(x:W)(r k:Nat)(h0:0<k)(hk:k<32)(h:r<32):(x.rotateLeft (32-k)).getLsbD r=if k+r<32 then x.getLsbD (k+r)else x.getLsbD (k+r-32):=by
 rw [BitVec.getLsbD_rotateLeft,Nat.mod_eq_of_lt (show 32-k<32 by omega)]
 by_cases h1:r<32-k
 ·rw [if_pos (by omega),decide_eq_true h1,cond_true,show 32-(32-k)+r=k+r by omega]
 ·rw [if_neg (by omega),decide_eq_false h1,cond_false,decide_eq_true h,Bool.true_and,show k+r-32=r-(32-k)by omega]
theorem z7n{f:ι->W}(q r k:Nat)(h:r<32)(h0:0<k)(hk:k<32):(dbl (Q L f)>>>k).testBit (64*q+r)=(L[q]?).any (fun i=>((f i).rotateLeft (32-k)).getLsbD r):=by
 rw [Nat.testBit_shiftRight,show k+(64*q+r)=64*q+(k+r)by omega,D_bit L q (k+r) (by omega)]
 cases L[q]? with
 |none=>rfl
 |some x=>simp only [Option.any_some];rw [rl_bit _ _ _ h0 hk h]
theorem Q_rot3(f:ι->W)(a b c:Nat)(ha:0<a/\ a<32)(hb:0<b/\ b<32)(hc:0<c/\ c<32):
  ((dbl (Q L f)>>>a^^^dbl (Q L f)>>>b)^^^dbl (Q L f)>>>c) &&& M L=Q L (fun i=>((f i).rotateLeft (32-a)^^^(f i).rotateLeft (32-b))^^^(f i).rotateLeft (32-c)):=by
 apply Q_ext
 intro q r hr
 rw [Nat.testBit_and,M_bit L q r hr]
 by_cases h:r<32
 ·rw [Nat.testBit_xor,Nat.testBit_xor,z7n L q r a h ha.1 ha.2,z7n L q r b h hb.1 hb.2,z7n L q r c h hc.1 hc.2]
  cases L[q]? <;>simp [h]
 ·cases L[q]? with
  |none=>simp
  |some x=>simp [h,BitVec.getLsbD_of_ge _ _ (show 32<=r by omega)]
theorem Q_rot2(f:ι->W)(a b c:Nat)(ha:0<a/\ a<32)(hb:0<b/\ b<32)(hc:0<c/\ c<32):
  ((dbl (Q L f)>>>a^^^dbl (Q L f)>>>b)^^^Q L f>>>c) &&& M L=Q L (fun i=>((f i).rotateLeft (32-a)^^^(f i).rotateLeft (32-b))^^^(f i)>>>c):=by
 apply Q_ext
 intro q r hr
 rw [Nat.testBit_and,M_bit L q r hr]
 by_cases h:r<32
 ·rw [Nat.testBit_xor,Nat.testBit_xor,z7n L q r a h ha.1 ha.2,z7n L q r b h hb.1 hb.2,Nat.testBit_shiftRight,show c+(64*q+r)=64*q+(c+r)by omega,Q_bit L q (c+r) (by omega)]
  cases L[q]? <;>simp [h]
 ·cases L[q]? with
  |none=>simp
  |some x=>simp [h,BitVec.getLsbD_of_ge _ _ (show 32<=r by omega)]
end
end Pk
end Go.Proofs.YtkiimfgjimoffaaDoor
end
namespace Go.Proofs.YtkiimfgjimoffaaDoor
namespace Am
section
set_option maxRecDepth 4000
open Pk (P Q M one pkN dbl cD)
noncomputable def frc{α:Type}(n:Nat)(f:Nat->α):α:=Nat.rec (f 0) (fun k _=>f (Nat.succ k)) n
theorem zj{α:Type}(n:Nat)(f:Nat->α):frc n f=f n:=by cases n<;>rfl
structure S8 where
 a:Nat
 b:Nat
 c:Nat
 d:Nat
 e:Nat
 f:Nat
 g:Nat
 h:Nat
noncomputable def rot3(m x a b c:Nat):Nat:=frc (Nat.mul x 4294967297) fun y=>Nat.land (Nat.xor (Nat.xor (Nat.shiftRight y a) (Nat.shiftRight y b)) (Nat.shiftRight y c)) m
noncomputable def rot2(m x a b c:Nat):Nat:=frc (Nat.mul x 4294967297) fun y=>Nat.land (Nat.xor (Nat.xor (Nat.shiftRight y a) (Nat.shiftRight y b)) (Nat.shiftRight x c)) m
noncomputable def t1N(m o e f g h k w:Nat):Nat:=
 Nat.add (Nat.add (Nat.add (Nat.add h (rot3 m e 6 11 25)) (Nat.xor (Nat.land e f) (Nat.land (Nat.xor m e) g))) (Nat.mul o k)) w
noncomputable def t2N(m a b c:Nat):Nat:=Nat.add (rot3 m a 2 13 22) (Nat.xor (Nat.xor (Nat.land a b) (Nat.land a c)) (Nat.land b c))
noncomputable def nwN(m w0 w1 w9 w14:Nat):Nat:=Nat.land (Nat.add (Nat.add (Nat.add w0 w9) (rot2 m w1 7 18 3)) (rot2 m w14 17 19 10)) m
noncomputable def goN(m o:Nat)(ks:List Nat):Nat->Nat->Nat->Nat->Nat->Nat->Nat->Nat->Nat->Nat->Nat->Nat->Nat->Nat->Nat->Nat->Nat->Nat->Nat->Nat->Nat->Nat->Nat->Nat->S8:=
 List.rec (motive:=fun _=>Nat->Nat->Nat->Nat->Nat->Nat->Nat->Nat->Nat->Nat->Nat->Nat->Nat->Nat->Nat->Nat->Nat->Nat->Nat->Nat->Nat->Nat->Nat->Nat->S8)
  (fun a b c d e f g h _ _ _ _ _ _ _ _ _ _ _ _ _ _ _ _=>⟨a,b,c,d,e,f,g,h⟩)
  (fun k _ ih a b c d e f g h w0 w1 w2 w3 w4 w5 w6 w7 w8 w9 w10 w11 w12 w13 w14 w15=>
   frc (t1N m o e f g h k w0) fun t=>frc (Nat.land (Nat.add t (t2N m a b c)) m) fun a'=>frc (Nat.land (Nat.add d t) m) fun e'=>frc (nwN m w0 w1 w9 w14) fun w'=>
    ih a' a b c e' e f g w1 w2 w3 w4 w5 w6 w7 w8 w9 w10 w11 w12 w13 w14 w15 w') ks
theorem zmh(m o a b c d e f g h w0 w1 w2 w3 w4 w5 w6 w7 w8 w9 w10 w11 w12 w13 w14 w15:Nat):goN m o [] a b c d e f g h w0 w1 w2 w3 w4 w5 w6 w7 w8 w9 w10 w11 w12 w13 w14 w15=⟨a,b,c,d,e,f,g,h⟩:=rfl
theorem zmg(m o k:Nat)(ks:List Nat)(a b c d e f g h w0 w1 w2 w3 w4 w5 w6 w7 w8 w9 w10 w11 w12 w13 w14 w15:Nat):goN m o (k::ks) a b c d e f g h w0 w1 w2 w3 w4 w5 w6 w7 w8 w9 w10 w11 w12 w13 w14 w15=
  goN m o ks (Nat.land (Nat.add (t1N m o e f g h k w0) (t2N m a b c)) m) a b c (Nat.land (Nat.add d (t1N m o e f g h k w0)) m) e f g w1 w2 w3 w4 w5 w6 w7 w8 w9 w10 w11 w12 w13 w14 w15 (nwN m w0 w1 w9 w14):=by
 unfold goN
 dsimp only
 rw [zj,zj,zj,zj]
theorem zf3:(4294967297:Nat)=cD:=by decide
section
variable {ι:Type} (L:List ι)
theorem zi8(f:ι->W)(a b c:Nat)(ha:0<a/\ a<32)(hb:0<b/\ b<32)(hc:0<c/\ c<32):
  rot3 (M L) (Q L f) a b c=Q L (fun i=>((f i).rotateLeft (32-a)^^^(f i).rotateLeft (32-b))^^^(f i).rotateLeft (32-c)):=by
 unfold rot3
 rw [zj,zf3]
 exact Pk.Q_rot3 L f a b c ha hb hc
theorem zhz(f:ι->W)(a b c:Nat)(ha:0<a/\ a<32)(hb:0<b/\ b<32)(hc:0<c/\ c<32):
  rot2 (M L) (Q L f) a b c=Q L (fun i=>((f i).rotateLeft (32-a)^^^(f i).rotateLeft (32-b))^^^(f i)>>>c):=by
 unfold rot2
 rw [zj,zf3]
 exact Pk.Q_rot2 L f a b c ha hb hc
theorem t1_ok(e f g h w:ι->W)(k:W):t1N (M L) (one L) (Q L e) (Q L f) (Q L g) (Q L h) k.toNat (Q L w)=P L (fun i=>(h i).toNat+(bs1 (e i)).toNat+(chW (e i) (f i) (g i)).toNat+k.toNat+(w i).toNat):=by
 unfold t1N
 rw [zi8 L e 6 11 25 (by omega) (by omega) (by omega)]
 have h1:Nat.xor (Nat.land (Q L e) (Q L f)) (Nat.land (Nat.xor (M L) (Q L e)) (Q L g))=Q L (fun i=>chW (e i) (f i) (g i)):=by
  have a1:Nat.land (Q L e) (Q L f)=Q L (fun i=>e i &&& f i):=Pk.Q_and L e f
  have a2:Nat.xor (M L) (Q L e)=Q L (fun i=> ~~~ e i):=Pk.Q_not L e
  have a3:Nat.land (Q L (fun i=> ~~~ e i)) (Q L g)=Q L (fun i=> ~~~ e i &&& g i):=Pk.Q_and L _ g
  rw [a1,a2,a3]
  exact Pk.Q_xor L _ _
 have h2:Nat.mul (one L) k.toNat=P L (fun _=>k.toNat):=by
  have:=Pk.P_mul L (fun _=>1) k.toNat
  simpa [one]using this
 rw [h1,h2]
 have add:∀f g:ι->Nat,Nat.add (P L f) (P L g)=P L (fun i=>f i+g i):=Pk.P_add L
 unfold Q
 rw [add,add,add,add]
 rfl
theorem t2_ok(a b c:ι->W):t2N (M L) (Q L a) (Q L b) (Q L c)=P L (fun i=>(bs0 (a i)).toNat+(majW (a i) (b i) (c i)).toNat):=by
 unfold t2N
 rw [zi8 L a 2 13 22 (by omega) (by omega) (by omega)]
 have h1:Nat.xor (Nat.xor (Nat.land (Q L a) (Q L b)) (Nat.land (Q L a) (Q L c))) (Nat.land (Q L b) (Q L c))=Q L (fun i=>majW (a i) (b i) (c i)):=by
  have a1:∀f g:ι->W,Nat.land (Q L f) (Q L g)=Q L (fun i=>f i &&& g i):=Pk.Q_and L
  have a2:∀f g:ι->W,Nat.xor (Q L f) (Q L g)=Q L (fun i=>f i^^^g i):=Pk.Q_xor L
  rw [a1,a1,a1,a2,a2]
  rfl
 rw [h1]
 have add:∀f g:ι->Nat,Nat.add (P L f) (P L g)=P L (fun i=>f i+g i):=Pk.P_add L
 unfold Q
 rw [add]
 rfl
theorem z6z{f:ι->Nat}(g:ι->W)(h:∀i,f i<2^64)(hg:∀i,BitVec.ofNat 32 (f i)=g i):Nat.land (P L f) (M L)=Q L g:=by
 have:=Pk.P_mask L h
 rw [show (fun i=>BitVec.ofNat 32 (f i))=g from funext hg]at this
 exact this
theorem nw_ok(w0 w1 w9 w14:ι->W):nwN (M L) (Q L w0) (Q L w1) (Q L w9) (Q L w14)=Q L (fun i=>w0 i+w9 i+ss0 (w1 i)+ss1 (w14 i)):=by
 unfold nwN
 rw [zhz L w1 7 18 3 (by omega) (by omega) (by omega),zhz L w14 17 19 10 (by omega) (by omega) (by omega)]
 have add:∀f g:ι->Nat,Nat.add (P L f) (P L g)=P L (fun i=>f i+g i):=Pk.P_add L
 have e:Nat.add (Nat.add (Nat.add (Q L w0) (Q L w9)) (Q L (fun i=>ss0 (w1 i)))) (Q L (fun i=>ss1 (w14 i)))=P L (fun i=>(w0 i).toNat+(w9 i).toNat+(ss0 (w1 i)).toNat+(ss1 (w14 i)).toNat):=by
  unfold Q
  rw [add,add,add]
 show Nat.land (Nat.add (Nat.add (Nat.add (Q L w0) (Q L w9)) (Q L (fun i=>ss0 (w1 i)))) (Q L (fun i=>ss1 (w14 i)))) (M L)=_
 rw [e]
 refine z6z L _ (fun i=> ?_) fun i=> ?_
 ·have:=(w0 i).isLt;have:=(w9 i).isLt;have:=(ss0 (w1 i)).isLt;have:=(ss1 (w14 i)).isLt;omega
 ·apply BitVec.eq_of_toNat_eq;simp only [BitVec.toNat_ofNat,BitVec.toNat_add];omega
end
def wx(s:List UInt8)(t:Nat):W:=z3y s (z1f s t)
theorem z6e(s:List UInt8):∀n,(z1f s n).length=n
 | 0=>rfl
 |n+1=>by simp [z1f,z6e s n]
theorem z7m(s:List UInt8):∀(n t:Nat),t<n->wat (z1f s n) t=wx s t
 |n+1,t,h=>by
  unfold wat
  rw [z1f,List.getD_eq_getElem?_getD]
  by_cases h1:t<n
  ·rw [List.getElem?_append_left (by rw [z6e];exact h1),<-List.getD_eq_getElem?_getD]
   exact z7m s n t h1
  ·obtain rfl:t=n:=by omega
   rw [List.getElem?_append_right (by rw [z6e];omega),z6e,Nat.sub_self]
   rfl
theorem wx_lo(s:List UInt8)(t:Nat)(h:t<16):wx s t=zl s t:=by
 unfold wx z3y
 rw [z6e,if_pos h]
theorem wx_hi(s:List UInt8)(t:Nat):wx s (t+16)=wx s t+wx s (t+9)+ss0 (wx s (t+1))+ss1 (wx s (t+14)):=by
 conv=>lhs;unfold wx z3y
 rw [z6e,if_neg (by omega),z7m s _ _ (by omega),z7m s _ _ (by omega),z7m s _ _ (by omega),z7m s _ _ (by omega)]
 rw [show t+16-16=t by omega,show t+16-7=t+9 by omega,show t+16-15=t+1 by omega,show t+16-2=t+14 by omega]
theorem zhw(s:List UInt8)(v:V8)(n:Nat)(h:n<64):rnds s v (n+1)=rnd (rnds s v n) (kAt n) (wx s n):=by
 rw [rnds,z7m s 64 n h]
def kN(t:Nat):Nat:=(kAt t).toNat
section
variable {ι:Type} (L:List ι)
theorem zfx(s:ι->List UInt8)(v:ι->V8):∀(n t:Nat),t+n=64->
  goN (M L) (one L) ((List.range' t n).map kN) (Q L fun i=>(rnds (s i) (v i) t).a) (Q L fun i=>(rnds (s i) (v i) t).b) (Q L fun i=>(rnds (s i) (v i) t).c) (Q L fun i=>(rnds (s i) (v i) t).d)
   (Q L fun i=>(rnds (s i) (v i) t).e) (Q L fun i=>(rnds (s i) (v i) t).f) (Q L fun i=>(rnds (s i) (v i) t).g) (Q L fun i=>(rnds (s i) (v i) t).h)
   (Q L fun i=>wx (s i) t) (Q L fun i=>wx (s i) (t+1)) (Q L fun i=>wx (s i) (t+2)) (Q L fun i=>wx (s i) (t+3)) (Q L fun i=>wx (s i) (t+4)) (Q L fun i=>wx (s i) (t+5)) (Q L fun i=>wx (s i) (t+6)) (Q L fun i=>wx (s i) (t+7))
   (Q L fun i=>wx (s i) (t+8)) (Q L fun i=>wx (s i) (t+9)) (Q L fun i=>wx (s i) (t+10)) (Q L fun i=>wx (s i) (t+11)) (Q L fun i=>wx (s i) (t+12)) (Q L fun i=>wx (s i) (t+13)) (Q L fun i=>wx (s i) (t+14)) (Q L fun i=>wx (s i) (t+15))=
  ⟨Q L fun i=>(rnds (s i) (v i) 64).a,Q L fun i=>(rnds (s i) (v i) 64).b,Q L fun i=>(rnds (s i) (v i) 64).c,Q L fun i=>(rnds (s i) (v i) 64).d,Q L fun i=>(rnds (s i) (v i) 64).e,Q L fun i=>(rnds (s i) (v i) 64).f,Q L fun i=>(rnds (s i) (v i) 64).g,Q L fun i=>(rnds (s i) (v i) 64).h⟩
 | 0,t,h=>by
  obtain rfl:t=64:=by omega
  exact zmh ..
 |n+1,t,h=>by
  have ih:=zfx s v n (t+1) (by omega)
  rw [List.range'_succ,List.map_cons,zmg]
  have e1:t1N (M L) (one L) (Q L fun i=>(rnds (s i) (v i) t).e) (Q L fun i=>(rnds (s i) (v i) t).f) (Q L fun i=>(rnds (s i) (v i) t).g) (Q L fun i=>(rnds (s i) (v i) t).h) (kN t) (Q L fun i=>wx (s i) t)=_:=t1_ok L _ _ _ _ _ (kAt t)
  rw [e1,t2_ok L,nw_ok L]
  have add:∀f g:ι->Nat,Nat.add (P L f) (P L g)=P L (fun i=>f i+g i):=Pk.P_add L
  rw [add]
  have e2:Nat.add (Q L fun i=>(rnds (s i) (v i) t).d) (P L fun i=>((rnds (s i) (v i) t).h).toNat+(bs1 (rnds (s i) (v i) t).e).toNat+(chW (rnds (s i) (v i) t).e (rnds (s i) (v i) t).f (rnds (s i) (v i) t).g).toNat+(kAt t).toNat+(wx (s i) t).toNat)=P L _:=add _ _
  rw [e2]
  rw [z6z L (fun i=>(rnds (s i) (v i) (t+1)).a) ?_ ?_,z6z L (fun i=>(rnds (s i) (v i) (t+1)).e) ?_ ?_]
  ·have hw:(fun i=>wx (s i) t+wx (s i) (t+9)+ss0 (wx (s i) (t+1))+ss1 (wx (s i) (t+14)))=fun i=>wx (s i) (t+1+15):=by
    funext i
    rw [show t+1+15=t+16 by omega,wx_hi]
   have hs:∀i,rnds (s i) (v i) (t+1)=rnd (rnds (s i) (v i) t) (kAt t) (wx (s i) t):=fun i=>zhw _ _ _ (by omega)
   rw [hw]
   rw [<-ih]
   simp only [hs,rnd,Nat.add_assoc,Nat.reduceAdd]
  all_goals intro i
  all_goals (try dsimp only)
  all_goals (have hs:rnds (s i) (v i) (t+1)=rnd (rnds (s i) (v i) t) (kAt t) (wx (s i) t):=zhw _ _ _ (by omega))
  all_goals (try rw [hs])
  all_goals (generalize rnds (s i) (v i) t=r;generalize wx (s i) t=w;generalize kAt t=k)
  all_goals try simp only [rnd]
  all_goals (generalize bs1 r.e=p1;generalize chW r.e r.f r.g=p2;generalize bs0 r.a=p3;generalize majW r.a r.b r.c=p4)
  all_goals (have:=r.a.isLt;have:=r.d.isLt;have:=r.h.isLt;have:=w.isLt;have:=k.isLt;have:=p1.isLt;have:=p2.isLt;have:=p3.isLt;have:=p4.isLt)
  all_goals first|omega|(simp only [BitVec.ofNat_add,BitVec.ofNat_toNat,BitVec.setWidth_eq])
end
end
section
set_option maxRecDepth 4000
open Pk (P Q M one pkN)
def k64:List Nat:=[1116352408,1899447441,3049323471,3921009573,961987163,1508970993,2453635748,2870763221,3624381080,310598401,607225278,1426881987,1925078388,2162078206,2614888103,3248222580,3835390401,4022224774,264347078,604807628,770255983,1249150122,1555081692,1996064986,2554220882,2821834349,2952996808,3210313671,3336571891,3584528711,113926993,338241895,666307205,773529912,1294757372,1396182291,1695183700,1986661051,2177026350,2456956037,2730485921,2820302411,3259730800,3345764771,3516065817,3600352804,4094571909,275423344,430227734,506948616,659060556,883997877,958139571,1322822218,1537002063,1747873779,1955562222,2024104815,2227730452,2361852424,2428436474,2756734187,3204031479,3329325298]
theorem k64_is:(List.range' 0 64).map kN=k64:=by decide+kernel
noncomputable def finN{α:Type}(m a b c d e f g h:Nat)(k:Nat->Nat->Nat->Nat->Nat->Nat->Nat->Nat->α)(r:S8):α:=
 S8.rec (motive:=fun _=>α) (fun ra rb rc rd re rf rg rh=>
  frc (Nat.land (Nat.add ra a) m) fun a'=>frc (Nat.land (Nat.add rb b) m) fun b'=>frc (Nat.land (Nat.add rc c) m) fun c'=>frc (Nat.land (Nat.add rd d) m) fun d'=>
  frc (Nat.land (Nat.add re e) m) fun e'=>frc (Nat.land (Nat.add rf f) m) fun f'=>frc (Nat.land (Nat.add rg g) m) fun g'=>frc (Nat.land (Nat.add rh h) m) fun h'=>k a' b' c' d' e' f' g' h') r
def r64(v:V8)(s:List UInt8):V8:=rnds s v 64
theorem zm7{α:Type}(m a b c d e f g h:Nat)(k:Nat->Nat->Nat->Nat->Nat->Nat->Nat->Nat->α)(ra rb rc rd re rf rg rh:Nat):
  finN m a b c d e f g h k ⟨ra,rb,rc,rd,re,rf,rg,rh⟩=
   k (Nat.land (Nat.add ra a) m) (Nat.land (Nat.add rb b) m) (Nat.land (Nat.add rc c) m) (Nat.land (Nat.add rd d) m) (Nat.land (Nat.add re e) m) (Nat.land (Nat.add rf f) m) (Nat.land (Nat.add rg g) m) (Nat.land (Nat.add rh h) m):=by
 unfold finN
 dsimp only
 rw [zj,zj,zj,zj,zj,zj,zj,zj]
theorem mix_a(v:V8)(s:List UInt8):(mixS v s).a=(r64 v s).a+v.a:=by unfold r64 mixS V8.add;exact Eq.refl _
theorem mix_b(v:V8)(s:List UInt8):(mixS v s).b=(r64 v s).b+v.b:=by unfold r64 mixS V8.add;exact Eq.refl _
theorem mix_c(v:V8)(s:List UInt8):(mixS v s).c=(r64 v s).c+v.c:=by unfold r64 mixS V8.add;exact Eq.refl _
theorem mix_d(v:V8)(s:List UInt8):(mixS v s).d=(r64 v s).d+v.d:=by unfold r64 mixS V8.add;exact Eq.refl _
theorem mix_e(v:V8)(s:List UInt8):(mixS v s).e=(r64 v s).e+v.e:=by unfold r64 mixS V8.add;exact Eq.refl _
theorem mix_f(v:V8)(s:List UInt8):(mixS v s).f=(r64 v s).f+v.f:=by unfold r64 mixS V8.add;exact Eq.refl _
theorem mix_g(v:V8)(s:List UInt8):(mixS v s).g=(r64 v s).g+v.g:=by unfold r64 mixS V8.add;exact Eq.refl _
theorem mix_h(v:V8)(s:List UInt8):(mixS v s).h=(r64 v s).h+v.h:=by unfold r64 mixS V8.add;exact Eq.refl _
section
variable {ι:Type} (L:List ι)
theorem zmf(s:ι->List UInt8)(v:ι->V8):
  goN (M L) (one L) k64 (Q L fun i=>(v i).a) (Q L fun i=>(v i).b) (Q L fun i=>(v i).c) (Q L fun i=>(v i).d) (Q L fun i=>(v i).e) (Q L fun i=>(v i).f) (Q L fun i=>(v i).g) (Q L fun i=>(v i).h)
   (Q L fun i=>zl (s i) 0) (Q L fun i=>zl (s i) 1) (Q L fun i=>zl (s i) 2) (Q L fun i=>zl (s i) 3) (Q L fun i=>zl (s i) 4) (Q L fun i=>zl (s i) 5) (Q L fun i=>zl (s i) 6) (Q L fun i=>zl (s i) 7)
   (Q L fun i=>zl (s i) 8) (Q L fun i=>zl (s i) 9) (Q L fun i=>zl (s i) 10) (Q L fun i=>zl (s i) 11) (Q L fun i=>zl (s i) 12) (Q L fun i=>zl (s i) 13) (Q L fun i=>zl (s i) 14) (Q L fun i=>zl (s i) 15)=
  ⟨Q L fun i=>(r64 (v i) (s i)).a,Q L fun i=>(r64 (v i) (s i)).b,Q L fun i=>(r64 (v i) (s i)).c,Q L fun i=>(r64 (v i) (s i)).d,Q L fun i=>(r64 (v i) (s i)).e,Q L fun i=>(r64 (v i) (s i)).f,Q L fun i=>(r64 (v i) (s i)).g,Q L fun i=>(r64 (v i) (s i)).h⟩:=by
 have g:=zfx L s v 64 0 rfl
 rw [k64_is]at g
 have hw:∀j,j<16->(fun i=>wx (s i) (0+j))=fun i=>zl (s i) j:=fun j hj=>by funext i;rw [Nat.zero_add,wx_lo _ _ hj]
 have hw0:(fun i=>wx (s i) 0)=fun i=>zl (s i) 0:=by funext i;rw [wx_lo _ _ (by omega)]
 rw [hw0,hw 1 (by omega),hw 2 (by omega),hw 3 (by omega),hw 4 (by omega),hw 5 (by omega),hw 6 (by omega),hw 7 (by omega),hw 8 (by omega),hw 9 (by omega),hw 10 (by omega),hw 11 (by omega),hw 12 (by omega),hw 13 (by omega),hw 14 (by omega),hw 15 (by omega)]at g
 have r0:∀s v,rnds s v 0=v:=fun _ _=>rfl
 have e64:∀s v,rnds s v 64=r64 v s:=fun s v=>by unfold r64;exact Eq.refl _
 simp only [r0,e64]at g
 exact g
attribute [local irreducible] r64 k64
theorem z5d(f g:ι->W):Nat.land (Nat.add (Q L f) (Q L g)) (M L)=Q L (fun i=>f i+g i):=by
 have add:∀f g:ι->Nat,Nat.add (P L f) (P L g)=P L (fun i=>f i+g i):=Pk.P_add L
 have e:Nat.add (Q L f) (Q L g)=P L (fun i=>(f i).toNat+(g i).toNat):=by
  unfold Q
  rw [add]
 rw [e]
 refine z6z L _ (fun i=> ?_) fun i=> ?_
 ·have:=(f i).isLt;have:=(g i).isLt;omega
 ·simp only [BitVec.ofNat_add,BitVec.ofNat_toNat,BitVec.setWidth_eq]
theorem z9z{α:Type}(s:ι->List UInt8)(v:ι->V8)(w0 w1 w2 w3 w4 w5 w6 w7 w8 w9 w10 w11 w12 w13 w14 w15:Nat)(k:Nat->Nat->Nat->Nat->Nat->Nat->Nat->Nat->α)
  (h0:w0=Q L fun i=>zl (s i) 0) (h1:w1=Q L fun i=>zl (s i) 1) (h2:w2=Q L fun i=>zl (s i) 2) (h3:w3=Q L fun i=>zl (s i) 3) (h4:w4=Q L fun i=>zl (s i) 4) (h5:w5=Q L fun i=>zl (s i) 5) (h6:w6=Q L fun i=>zl (s i) 6) (h7:w7=Q L fun i=>zl (s i) 7)
  (h8:w8=Q L fun i=>zl (s i) 8) (h9:w9=Q L fun i=>zl (s i) 9) (h10:w10=Q L fun i=>zl (s i) 10) (h11:w11=Q L fun i=>zl (s i) 11) (h12:w12=Q L fun i=>zl (s i) 12) (h13:w13=Q L fun i=>zl (s i) 13) (h14:w14=Q L fun i=>zl (s i) 14) (h15:w15=Q L fun i=>zl (s i) 15):
  finN (M L) (Q L fun i=>(v i).a) (Q L fun i=>(v i).b) (Q L fun i=>(v i).c) (Q L fun i=>(v i).d) (Q L fun i=>(v i).e) (Q L fun i=>(v i).f) (Q L fun i=>(v i).g) (Q L fun i=>(v i).h) k
   (goN (M L) (one L) k64 (Q L fun i=>(v i).a) (Q L fun i=>(v i).b) (Q L fun i=>(v i).c) (Q L fun i=>(v i).d) (Q L fun i=>(v i).e) (Q L fun i=>(v i).f) (Q L fun i=>(v i).g) (Q L fun i=>(v i).h) w0 w1 w2 w3 w4 w5 w6 w7 w8 w9 w10 w11 w12 w13 w14 w15)=
  k (Q L fun i=>(mixS (v i) (s i)).a) (Q L fun i=>(mixS (v i) (s i)).b) (Q L fun i=>(mixS (v i) (s i)).c) (Q L fun i=>(mixS (v i) (s i)).d) (Q L fun i=>(mixS (v i) (s i)).e) (Q L fun i=>(mixS (v i) (s i)).f) (Q L fun i=>(mixS (v i) (s i)).g) (Q L fun i=>(mixS (v i) (s i)).h):=by
 subst h0 h1 h2 h3 h4 h5 h6 h7 h8 h9 h10 h11 h12 h13 h14 h15
 have g:=zmf L s v
 rw [g,zm7,z5d,z5d,z5d,z5d,z5d,z5d,z5d,z5d]
 simp only [mix_a,mix_b,mix_c,mix_d,mix_e,mix_f,mix_g,mix_h]
end
end
section
set_option maxRecDepth 4000
open Pk (P Q M one pkN)
theorem zd2:∀(l m:List Nat),pkN (l++m)=pkN l+2^(64*l.length)*pkN m
 | [],m=>by simp [pkN]
 |x::l,m=>by
  have h:2^(64*(l.length+1))=2^64*2^(64*l.length):=by rw [<-Nat.pow_add];congr 1;omega
  rw [List.cons_append,pkN,pkN,zd2 l m,List.length_cons,h,Nat.mul_add,Nat.mul_assoc]
  omega
theorem zee(f:Nat->Nat)(n:Nat):P (List.range (n+1)) f=P (List.range n) f+2^(64*n)*f n:=by
 unfold P
 rw [List.range_succ,List.map_append,zd2,List.length_map,List.length_range]
 simp [pkN]
noncomputable def pkR(f:Nat->Nat)(n acc:Nat):Nat:=
 Nat.rec (motive:=fun _=>Nat->Nat) (fun acc=>acc) (fun k ih acc=>frc (Nat.add (Nat.mul acc 18446744073709551616) (f k)) ih) n acc
theorem zpn(f:Nat->Nat)(acc:Nat):pkR f 0 acc=acc:=rfl
theorem zpm(f:Nat->Nat)(n acc:Nat):pkR f (n+1) acc=pkR f n (Nat.add (Nat.mul acc 18446744073709551616) (f n)):=by
 show frc _ _=_
 rw [zj]
 rfl
theorem zhf(f:Nat->Nat):∀(n acc:Nat),pkR f n acc=P (List.range n) f+2^(64*n)*acc
 | 0,acc=>by rw [zpn];simp [P,pkN]
 |n+1,acc=>by
  rw [zpm,zhf f n,zee]
  have h:2^(64*(n+1))=2^(64*n)*2^64:=by rw [<-Nat.pow_add];congr 1
  have e:Nat.add (Nat.mul acc 18446744073709551616) (f n)=acc*2^64+f n:=rfl
  rw [h,e,Nat.mul_add,Nat.mul_assoc,Nat.mul_comm acc]
  omega
def ones(n:Nat):Nat:=Nat.div (Nat.sub (Nat.pow 2 (Nat.mul 64 n)) 1) 18446744073709551615
theorem zh2:∀n,(2^64-1)*P (List.range n) (fun _=>1)+1=2^(64*n)
 | 0=>rfl
 |n+1=>by
  have ih:=zh2 n
  have h:2^(64*(n+1))=2^64*2^(64*n):=by rw [<-Nat.pow_add];congr 1;omega
  rw [zee,h]
  omega
theorem z71(n:Nat):ones n=one (List.range n):=by
 have h:=zh2 n
 have e:ones n=(2^(64*n)-1)/(2^64-1):=rfl
 rw [e,<-h,Nat.add_sub_cancel,Nat.mul_div_cancel_left _ (by decide)]
 rfl
theorem M_is(n:Nat):Nat.mul (ones n) 4294967295=M (List.range n):=by
 rw [z71]
 have:=Pk.P_mul (List.range n) (fun _=>1) 4294967295
 simpa [one,M]using this
theorem zfc(n:Nat)(c:W):Nat.mul (ones n) c.toNat=Q (List.range n) (fun _=>c):=by
 rw [z71]
 have:=Pk.P_mul (List.range n) (fun _=>1) c.toNat
 simpa [one,Q]using this
section
variable {ι:Type} (L:List ι)
theorem q_shl(f:ι->W):Nat.land (Nat.mul (Q L f) 16777216) (M L)=Q L (fun i=>f i<<<24):=by
 have e:Nat.mul (Q L f) 16777216=P L (fun i=>(f i).toNat*16777216):=by
  unfold Q
  exact Pk.P_mul L _ _
 rw [e]
 refine z6z L _ (fun i=> ?_) fun i=> ?_
 ·have:=(f i).isLt;omega
 ·apply BitVec.eq_of_toNat_eq;rw [BitVec.toNat_ofNat,BitVec.toNat_shiftLeft,Nat.shiftLeft_eq]
theorem q_shr(f:ι->W):Nat.land (Nat.shiftRight (Q L f) 8) (M L)=Q L (fun i=>f i>>>8):=by
 apply Pk.Q_ext
 intro q r hr
 have e:Nat.land (Nat.shiftRight (Q L f) 8) (M L)=(Q L f>>>8) &&& M L:=rfl
 rw [e,Nat.testBit_and,Pk.M_bit L q r hr,Nat.testBit_shiftRight]
 by_cases h:r<32
 ·rw [show 8+(64*q+r)=64*q+(8+r)by omega,Pk.Q_bit L q (8+r) (by omega)]
  cases L[q]? <;>simp [h]
 ·cases L[q]? with
  |none=>simp
  |some x=>simp [h,BitVec.getLsbD_of_ge _ _ (show 32<=r by omega)]
def shW(x y:W):W:=x<<<24+y>>>8
noncomputable def shN(m x y:Nat):Nat:=Nat.land (Nat.add (Nat.land (Nat.mul x 16777216) m) (Nat.land (Nat.shiftRight y 8) m)) m
theorem z38(f g:ι->W):shN (M L) (Q L f) (Q L g)=Q L (fun i=>shW (f i) (g i)):=by
 unfold shN
 rw [q_shl,q_shr,z5d]
 rfl
end
theorem z7q(f:Nat->W){N a c:Nat}(h:a+c<=N):Nat.land (Nat.shiftRight (Q (List.range N) f) (64*a)) (2^(64*c)-1)=Q (List.range c) (fun i=>f (a+i)):=by
 apply Pk.Q_ext
 intro q r hr
 have e:Nat.land (Nat.shiftRight (Q (List.range N) f) (64*a)) (2^(64*c)-1)=(Q (List.range N) f>>>(64*a)) &&& (2^(64*c)-1):=rfl
 rw [e,Nat.testBit_and,Nat.testBit_shiftRight,show 64*a+(64*q+r)=64*(a+q)+r by omega,Pk.Q_bit _ _ r hr,Nat.testBit_two_pow_sub_one]
 by_cases hq:q<c
 ·rw [List.getElem?_range (by omega),List.getElem?_range hq,decide_eq_true (by omega)];simp
 ·rw [decide_eq_false (by omega),Bool.and_false,List.getElem?_eq_none (by simp;omega)];rfl
theorem z5l(f:Nat->W){N a:Nat}(h:a<N):Nat.land (Nat.shiftRight (Q (List.range N) f) (64*a)) 18446744073709551615=(f a).toNat:=by
 have:=z7q f (a:=a) (c:=1) (N:=N) (by omega)
 rw [show (2:Nat)^(64*1)-1=18446744073709551615 from rfl]at this
 rw [this]
 simp [Q,P,pkN,List.range_succ]
set_option exponentiation.threshold 1000 in
theorem Q_prev(f:Nat->W)(c:W)(n:Nat):Nat.add (Nat.mul (Nat.land (Q (List.range (8+n)) f) (2^(64*n)-1)) (2^512)) (Nat.mul (ones 8) c.toNat)=Q (List.range (8+n)) (fun l=>if l<8 then c else f (l-8)):=by
 have e:=z7q f (N:=8+n) (a:=0) (c:=n) (by omega)
 have e2:Nat.land (Q (List.range (8+n)) f) (2^(64*n)-1)=Q (List.range n) f:=by
  have:Nat.shiftRight (Q (List.range (8+n)) f) (64*0)=Q (List.range (8+n)) f:=rfl
  rw [this]at e
  rw [e]
  simp
 rw [e2,zfc]
 unfold Q P
 rw [List.range_add,List.map_append,zd2,List.length_map,List.length_range,List.map_map]
 have e3:(List.range 8).map (fun l=>(if l<8 then c else f (l-8)).toNat)=(List.range 8).map (fun _=>c.toNat):=by
  apply List.map_congr_left
  intro l hl
  rw [if_pos (List.mem_range.1 hl)]
 have e4:(List.range n).map ((fun l=>(if l<8 then c else f (l-8)).toNat) ∘ fun x=>8+x)=(List.range n).map (fun l=>(f l).toNat):=by
  apply List.map_congr_left
  intro l hl
  simp only [Function.comp]
  rw [if_neg (by omega),show 8+l-8=l by omega]
 rw [e3,e4]
 show pkN ((List.range n).map fun i=>(f i).toNat)*2^512+_=_
 rw [Nat.mul_comm,Nat.add_comm]
end
section
set_option maxRecDepth 4000
open Pk (P Q M one pkN)
/-! Words of bytes: a byte ahead of whole words. -/
def enc(ws:List W):List UInt8:=ws.flatMap fun x=>be 4 x.toNat
def lb(x:W):UInt8:=UInt8.ofNat x.toNat
theorem be4(n:Nat):be 4 n=[UInt8.ofNat (n/16777216),UInt8.ofNat (n/65536),UInt8.ofNat (n/256),UInt8.ofNat n]:=by
 simp [be,Nat.div_div_eq_div_mul]
theorem zc4(x:W)(l:List W):enc (x::l)=UInt8.ofNat (x.toNat/16777216)::UInt8.ofNat (x.toNat/65536)::UInt8.ofNat (x.toNat/256)::lb x::enc l:=by
 simp [enc,be4,lb]
theorem zc3(a b:List W):enc (a++b)=enc a++enc b:=by simp [enc]
theorem z6s:∀l:List W,(enc l).length=4*l.length
 | []=>rfl
 |x::l=>by rw [zc4];simp [z6s l];omega
theorem zm8(y x:W)(t:List UInt8):zl (lb y::UInt8.ofNat (x.toNat/16777216)::UInt8.ofNat (x.toNat/65536)::UInt8.ofNat (x.toNat/256)::t) 0=shW y x:=by
 unfold zl shW
 apply BitVec.eq_of_toNat_eq
 simp only [Nat.mul_zero,List.drop_zero,List.take_succ_cons,List.take_zero,getS,List.take_nil,val,List.foldl_cons,List.foldl_nil,lb,UInt8.toNat_ofNat',BitVec.toNat_ofNat,BitVec.toNat_add,BitVec.toNat_shiftLeft,BitVec.toNat_ushiftRight,Nat.shiftLeft_eq,Nat.shiftRight_eq_div_pow]
 have:=x.isLt
 have:=y.isLt
 omega
theorem zbb(s:List UInt8)(a i:Nat):zl (s.drop (4*a)) i=zl s (a+i):=by
 unfold zl
 rw [List.drop_drop]
 congr 4
 omega
theorem zc5:∀(i:Nat) (y:W) (l:List W) (t:List UInt8),i<l.length->zl (lb y::(enc l++t)) i=shW ((y::l).getD i 0) ((y::l).getD (i+1) 0)
 | 0,y,x::l,t,_=>by
  rw [zc4]
  exact zm8 y x _
 |i+1,y,x::l,t,h=>by
  have e:(lb y::(enc (x::l)++t)).drop (4*1)=lb x::(enc l++t):=by rw [zc4];rfl
  have ih:=zc5 i x l t (by simpa using h)
  rw [<-e,zbb]at ih
  rw [show i+1=1+i by omega,ih]
  simp [List.getD_eq_getElem?_getD,Nat.add_comm 1 i]
theorem ze7(s:List UInt8){n i:Nat}(h:4*i+4<=n):zl (s.take n) i=zl s i:=by
 unfold zl
 rw [List.drop_take,List.take_take,Nat.min_eq_left (by omega)]
theorem zh8(y:W)(l:List W)(n:Nat)(h1:l.length*4+1=n):padS (lb y::enc l)=lb y::(enc l++128::(List.replicate ((119-n%64)%64) 0++be 8 (n*8))):=by
 unfold padS
 rw [List.length_cons,z6s,show 4*l.length+1=n by omega]
 rfl
def padT:List W:=[2147483648#32,0#32,0#32,0#32,0#32,0#32,0#32,67584#32]
theorem zil(v:V8):padS (3::outV v)=(lb 3#32::enc (v.l++padT)).take 64/\ (padS (3::outV v)).length=64:=by
 have h:=zh8 3#32 v.l 33 (by rfl)
 have e:padS (3::outV v)=lb 3#32::(enc v.l++128::(List.replicate 22 0++be 8 264)):=h
 have e2:(lb 3#32::enc (v.l++padT)).take 64=lb 3#32::(enc v.l++(enc padT).take 31):=by
  rw [zc3,show 64=63+1 from rfl,List.take_succ_cons,show (63:Nat)=(enc v.l).length+31 by rw [z6s];rfl,List.take_length_add_append]
 have e3:(enc padT).take 31=128::(List.replicate 22 0++be 8 264):=by decide+kernel
 refine⟨by rw [e,e2,e3],?_⟩
 rw [e]
 simp [z6s,V8.l,be]
theorem zr3(v:V8)(i:Nat)(h:i<16):zl (padS (3::outV v)) i=shW ((3#32::(v.l++padT)).getD i 0) ((3#32::(v.l++padT)).getD (i+1) 0):=by
 rw [(zil v).1,ze7 _ (by omega)]
 have:=zc5 i 3#32 (v.l++padT) [] (by simp [V8.l,padT];omega)
 rwa [List.append_nil]at this
theorem znz(v:V8){s t:List UInt8}(h:∀i,i<16->zl s i=zl t i):mixS v s=mixS v t:=by
 have hw:∀n,z1f s n=z1f t n:=by
  intro n
  induction n with
  |zero=>rfl
  |succ n ih=>
   rw [z1f,z1f,ih]
   congr 2
   unfold z3y
   rw [z6e]
   split
   ·rename_i h1;exact h n h1
   ·rfl
 have hr:∀n,rnds s v n=rnds t v n:=by
  intro n
  induction n with
  |zero=>rfl
  |succ n ih=>rw [rnds,rnds,ih,hw]
 unfold mixS
 rw [hr]
theorem zgt(v:V8)(s:List UInt8):mixS v (s.take 64)=mixS v s:=znz v fun i h=>ze7 s (by omega)
theorem zey(v:V8)(s:List UInt8):blocks 1 v s=mixS v s:=by
 rw [blocks,zgt];rfl
end
section
set_option maxRecDepth 4000
open Pk (P Q M one pkN)
def m512:Nat:=13407807929942597099574024998205846127479365820592393377723561443721764030073546976801874298166903427690031858186486050853753882811946569946433649006084095
theorem zcn:m512=2^(64*8)-1:=by decide+kernel
noncomputable def z8k(m o u0 u1 u2 u3 u4 u5 u6 u7:Nat)(k:Nat->Nat->Nat->Nat->Nat->Nat->Nat->Nat->S8)(bs:List Nat):Nat->Nat->Nat->Nat->Nat->Nat->Nat->Nat->S8:=
 List.rec (motive:=fun _=>Nat->Nat->Nat->Nat->Nat->Nat->Nat->Nat->S8) k
  (fun j _ ih a b c d e f g h=>frc (Nat.mul j 1024) fun s=>frc (Nat.add s 512) fun s'=>
   frc (Nat.land (Nat.shiftRight u0 s) m512) fun w0=>
   frc (Nat.land (Nat.shiftRight u1 s) m512) fun w1=>
   frc (Nat.land (Nat.shiftRight u2 s) m512) fun w2=>
   frc (Nat.land (Nat.shiftRight u3 s) m512) fun w3=>
   frc (Nat.land (Nat.shiftRight u4 s) m512) fun w4=>
   frc (Nat.land (Nat.shiftRight u5 s) m512) fun w5=>
   frc (Nat.land (Nat.shiftRight u6 s) m512) fun w6=>
   frc (Nat.land (Nat.shiftRight u7 s) m512) fun w7=>
   frc (Nat.land (Nat.shiftRight u0 s') m512) fun w8=>
   frc (Nat.land (Nat.shiftRight u1 s') m512) fun w9=>
   frc (Nat.land (Nat.shiftRight u2 s') m512) fun w10=>
   frc (Nat.land (Nat.shiftRight u3 s') m512) fun w11=>
   frc (Nat.land (Nat.shiftRight u4 s') m512) fun w12=>
   frc (Nat.land (Nat.shiftRight u5 s') m512) fun w13=>
   frc (Nat.land (Nat.shiftRight u6 s') m512) fun w14=>
   frc (Nat.land (Nat.shiftRight u7 s') m512) fun w15=>
   finN m a b c d e f g h ih (goN m o k64 a b c d e f g h w0 w1 w2 w3 w4 w5 w6 w7 w8 w9 w10 w11 w12 w13 w14 w15)) bs
theorem znt(m o u0 u1 u2 u3 u4 u5 u6 u7:Nat)(k:Nat->Nat->Nat->Nat->Nat->Nat->Nat->Nat->S8)(j:Nat)(bs:List Nat)(a b c d e f g h:Nat):z8k m o u0 u1 u2 u3 u4 u5 u6 u7 k (j::bs) a b c d e f g h=
  finN m a b c d e f g h (z8k m o u0 u1 u2 u3 u4 u5 u6 u7 k bs) (goN m o k64 a b c d e f g h (Nat.land (Nat.shiftRight u0 (Nat.mul j 1024)) m512)
   (Nat.land (Nat.shiftRight u1 (Nat.mul j 1024)) m512)
   (Nat.land (Nat.shiftRight u2 (Nat.mul j 1024)) m512)
   (Nat.land (Nat.shiftRight u3 (Nat.mul j 1024)) m512)
   (Nat.land (Nat.shiftRight u4 (Nat.mul j 1024)) m512)
   (Nat.land (Nat.shiftRight u5 (Nat.mul j 1024)) m512)
   (Nat.land (Nat.shiftRight u6 (Nat.mul j 1024)) m512)
   (Nat.land (Nat.shiftRight u7 (Nat.mul j 1024)) m512)
   (Nat.land (Nat.shiftRight u0 (Nat.add (Nat.mul j 1024) 512)) m512)
   (Nat.land (Nat.shiftRight u1 (Nat.add (Nat.mul j 1024) 512)) m512)
   (Nat.land (Nat.shiftRight u2 (Nat.add (Nat.mul j 1024) 512)) m512)
   (Nat.land (Nat.shiftRight u3 (Nat.add (Nat.mul j 1024) 512)) m512)
   (Nat.land (Nat.shiftRight u4 (Nat.add (Nat.mul j 1024) 512)) m512)
   (Nat.land (Nat.shiftRight u5 (Nat.add (Nat.mul j 1024) 512)) m512)
   (Nat.land (Nat.shiftRight u6 (Nat.add (Nat.mul j 1024) 512)) m512)
   (Nat.land (Nat.shiftRight u7 (Nat.add (Nat.mul j 1024) 512)) m512)):=by
 unfold z8k
 dsimp only
 rw [zj,zj,zj,zj,zj,zj,zj,zj,zj,zj,zj,zj,zj,zj,zj,zj,zj,zj]
def z1t(v2:Nat->V8)(i:Nat):List W:=(List.range 512).flatMap fun k=>(v2 (8*k+i)).l
theorem flat8(f:Nat->V8):∀(n k t:Nat),k<n->t<8->((List.range n).flatMap fun k=>(f k).l)[8*k+t]? =(f k).l[t]?
 |n+1,k,t,hk,ht=>by
  have hl:∀n,((List.range n).flatMap fun k=>(f k).l).length=8*n:=by
   intro n
   induction n with
   |zero=>rfl
   |succ n ih=>rw [List.range_succ,List.flatMap_append,List.length_append,ih];simp [V8.l];omega
  rw [List.range_succ,List.flatMap_append]
  by_cases h:k<n
  ·rw [List.getElem?_append_left (by rw [hl];omega)]
   exact flat8 f n k t h ht
  ·obtain rfl:k=n:=by omega
   rw [List.getElem?_append_right (by rw [hl];omega),hl,Nat.add_sub_cancel_left]
   simp
theorem z5h(v2:Nat->V8)(i:Nat):(z1t v2 i).length=4096:=by
 unfold z1t
 have hl:∀n,((List.range n).flatMap fun k=>(v2 (8*k+i)).l).length=8*n:=by
  intro n
  induction n with
  |zero=>rfl
  |succ n ih=>rw [List.range_succ,List.flatMap_append,List.length_append,ih];simp [V8.l];omega
 rw [hl]
theorem zb0(v2:Nat->V8)(i k t:Nat)(hk:k<512)(ht:t<8):(z1t v2 i)[8*k+t]? =(v2 (8*k+i)).l[t]?:=flat8 (fun k=>v2 (8*k+i)) 512 k t hk ht
def longT:List W:=[2147483648#32,0#32,0#32,0#32,0#32,0#32,0#32,0#32,0#32,0#32,0#32,0#32,0#32,0#32,0#32,33556480#32]
theorem zgp(l:List W)(hl:l.length=4096):padS (4::enc l)=(lb 4#32::enc (l++longT)).take 16448/\ (padS (4::enc l)).length=16448:=by
 have h:=zh8 4#32 l 16385 (by rw [hl])
 have e:padS (4::enc l)=lb 4#32::(enc l++128::(List.replicate 54 0++be 8 131080)):=h
 have e2:(lb 4#32::enc (l++longT)).take 16448=lb 4#32::(enc l++(enc longT).take 63):=by
  rw [zc3,show 16448=16447+1 from rfl,List.take_succ_cons,show (16447:Nat)=(enc l).length+63 by rw [z6s,hl],List.take_length_add_append]
 have e3:(enc longT).take 63=128::(List.replicate 54 0++be 8 131080):=by decide+kernel
 refine⟨by rw [e,e2,e3],?_⟩
 rw [e]
 simp [z6s,hl,be]
theorem zgq(l:List W)(hl:l.length=4096)(i:Nat)(h:i<4112):zl (padS (4::enc l)) i=shW ((4#32::(l++longT)).getD i 0) ((4#32::(l++longT)).getD (i+1) 0):=by
 rw [(zgp l hl).1,ze7 _ (by omega)]
 have:=zc5 i 4#32 (l++longT) [] (by rw [List.length_append,hl];simp [longT];omega)
 rwa [List.append_nil]at this
def v8w(v:V8)(t:Nat):W:=v.l.getD t 0
def pw(v2:Nat->V8)(t l:Nat):W:=if t=0 then(if l<8 then 4#32 else v8w (v2 (l-8)) 7)else v8w (v2 l) (t-1)
theorem zgo(v2:Nat->V8)(i k t:Nat)(hi:i<8)(hk:k<512)(ht:t<8):zl (padS (4::enc (z1t v2 i))) (8*k+t)=shW (pw v2 t (8*k+i)) (v8w (v2 (8*k+i)) t):=by
 rw [zgq _ (z5h v2 i) _ (by omega)]
 have e1:(4#32::(z1t v2 i++longT)).getD (8*k+t+1) 0=v8w (v2 (8*k+i)) t:=by
  rw [List.getD_eq_getElem?_getD,List.getElem?_cons_succ,List.getElem?_append_left (by rw [z5h];omega),zb0 v2 i k t hk ht,<-List.getD_eq_getElem?_getD];rfl
 have e2:(4#32::(z1t v2 i++longT)).getD (8*k+t) 0=pw v2 t (8*k+i):=by
  unfold pw
  by_cases h0:t=0
  ·subst h0
   rw [if_pos rfl]
   by_cases hk0:k=0
   ·subst hk0
    rw [if_pos (by omega)];rfl
   ·rw [if_neg (by omega),show 8*k+0=(8*(k-1)+7)+1 by omega,List.getD_eq_getElem?_getD,List.getElem?_cons_succ,List.getElem?_append_left (by rw [z5h];omega),zb0 v2 i (k-1) 7 (by omega) (by omega),<-List.getD_eq_getElem?_getD,show 8*k+i-8=8*(k-1)+i by omega];rfl
  ·rw [if_neg h0,show 8*k+t=(8*k+(t-1))+1 by omega,List.getD_eq_getElem?_getD,List.getElem?_cons_succ,List.getElem?_append_left (by rw [z5h];omega),zb0 v2 i k (t-1) hk (by omega),<-List.getD_eq_getElem?_getD];rfl
 rw [e1,e2]
theorem zex:∀(n:Nat) (v:V8) (s:List UInt8),blocks (n+1) v s=mixS (blocks n v s) (s.drop (64*n))
 | 0,v,s=>by rw [zey];rfl
 |n+1,v,s=>by
  rw [blocks,zex n,List.drop_drop,<-blocks,show 64+64*n=64*(n+1)by omega]
def uT(v2:Nat->V8)(t:Nat):Nat:=Q (List.range 4096) fun l=>shW (pw v2 t l) (v8w (v2 l) t)
theorem u_at(v2:Nat->V8)(b:Nat)(hb:b<256)(t:Nat)(ht:t<8):Nat.land (Nat.shiftRight (uT v2 t) (Nat.mul b 1024)) m512=Q (List.range 8) (fun i=>zl ((padS (4::enc (z1t v2 i))).drop (64*b)) t):=by
 have h:=z7q (fun l=>shW (pw v2 t l) (v8w (v2 l) t)) (N:=4096) (a:=16*b) (c:=8) (by omega)
 rw [<-zcn,show 64*(16*b)=Nat.mul b 1024 by show _=b*1024;omega]at h
 unfold uT
 rw [h]
 unfold Q P
 congr 1
 apply List.map_congr_left
 intro i hi
 dsimp only
 rw [show 64*b=4*(16*b)by omega,zbb,show 16*b+t=8*(2*b)+t by omega,zgo v2 i (2*b) t (List.mem_range.1 hi) (by omega) ht,show 8*(2*b)+i=16*b+i by omega]
theorem z61(v2:Nat->V8)(b:Nat)(hb:b<256)(t:Nat)(ht:t<8):Nat.land (Nat.shiftRight (uT v2 t) (Nat.add (Nat.mul b 1024) 512)) m512=Q (List.range 8) (fun i=>zl ((padS (4::enc (z1t v2 i))).drop (64*b)) (8+t)):=by
 have h:=z7q (fun l=>shW (pw v2 t l) (v8w (v2 l) t)) (N:=4096) (a:=16*b+8) (c:=8) (by omega)
 rw [<-zcn,show 64*(16*b+8)=Nat.add (Nat.mul b 1024) 512 by show _=b*1024+512;omega]at h
 unfold uT
 rw [h]
 unfold Q P
 congr 1
 apply List.map_congr_left
 intro i hi
 dsimp only
 rw [show 64*b=4*(16*b)by omega,zbb,show 16*b+(8+t)=8*(2*b+1)+t by omega,zgo v2 i (2*b+1) t (List.mem_range.1 hi) (by omega) ht,show 8*(2*b+1)+i=16*b+8+i by omega]
theorem zgl(v2:Nat->V8)(k:Nat->Nat->Nat->Nat->Nat->Nat->Nat->Nat->S8):∀(n b:Nat) (v:Nat->V8),b+n=256->
  z8k (M (List.range 8)) (one (List.range 8)) (uT v2 0) (uT v2 1) (uT v2 2) (uT v2 3) (uT v2 4) (uT v2 5) (uT v2 6) (uT v2 7) k (List.range' b n) (Q (List.range 8) fun i=>(v i).a) (Q (List.range 8) fun i=>(v i).b) (Q (List.range 8) fun i=>(v i).c) (Q (List.range 8) fun i=>(v i).d) (Q (List.range 8) fun i=>(v i).e) (Q (List.range 8) fun i=>(v i).f) (Q (List.range 8) fun i=>(v i).g) (Q (List.range 8) fun i=>(v i).h)=
  k (Q (List.range 8) fun i=>(blocks n (v i) ((padS (4::enc (z1t v2 i))).drop (64*b))).a) (Q (List.range 8) fun i=>(blocks n (v i) ((padS (4::enc (z1t v2 i))).drop (64*b))).b) (Q (List.range 8) fun i=>(blocks n (v i) ((padS (4::enc (z1t v2 i))).drop (64*b))).c) (Q (List.range 8) fun i=>(blocks n (v i) ((padS (4::enc (z1t v2 i))).drop (64*b))).d) (Q (List.range 8) fun i=>(blocks n (v i) ((padS (4::enc (z1t v2 i))).drop (64*b))).e) (Q (List.range 8) fun i=>(blocks n (v i) ((padS (4::enc (z1t v2 i))).drop (64*b))).f) (Q (List.range 8) fun i=>(blocks n (v i) ((padS (4::enc (z1t v2 i))).drop (64*b))).g) (Q (List.range 8) fun i=>(blocks n (v i) ((padS (4::enc (z1t v2 i))).drop (64*b))).h)
 | 0,b,v,h=>rfl
 |n+1,b,v,h=>by
  have ih:=zgl v2 k n (b+1) (fun i=>mixS (v i) ((padS (4::enc (z1t v2 i))).drop (64*b))) (by omega)
  rw [List.range'_succ,znt]
  refine(z9z (List.range 8) (fun i=>(padS (4::enc (z1t v2 i))).drop (64*b)) v _ _ _ _ _ _ _ _ _ _ _ _ _ _ _ _ _ (u_at v2 b (by omega) 0 (by omega)) (u_at v2 b (by omega) 1 (by omega)) (u_at v2 b (by omega) 2 (by omega)) (u_at v2 b (by omega) 3 (by omega)) (u_at v2 b (by omega) 4 (by omega)) (u_at v2 b (by omega) 5 (by omega)) (u_at v2 b (by omega) 6 (by omega)) (u_at v2 b (by omega) 7 (by omega)) (z61 v2 b (by omega) 0 (by omega)) (z61 v2 b (by omega) 1 (by omega)) (z61 v2 b (by omega) 2 (by omega)) (z61 v2 b (by omega) 3 (by omega)) (z61 v2 b (by omega) 4 (by omega)) (z61 v2 b (by omega) 5 (by omega)) (z61 v2 b (by omega) 6 (by omega)) (z61 v2 b (by omega) 7 (by omega))).trans ?_
  refine ih.trans ?_
  have e:∀i,blocks (n+1) (v i) ((padS (4::enc (z1t v2 i))).drop (64*b))=blocks n (mixS (v i) ((padS (4::enc (z1t v2 i))).drop (64*b))) ((padS (4::enc (z1t v2 i))).drop (64*(b+1))):=fun i=>by
   rw [blocks,zgt,List.drop_drop,show 64*b+64=64*(b+1)by omega]
  simp only [e]
end
section
set_option maxRecDepth 4000
open Pk (P Q M one pkN)
def zae:Nat:=Nat.sub (Nat.pow 2 261632) 1
def p512:Nat:=Nat.pow 2 512
theorem zpj:zae=2^(64*4088)-1:=by decide+kernel
theorem zpk:p512=2^512:=by decide+kernel
noncomputable def zac(m o z a b c d e f g h:Nat):S8:=
 frc (shN m z (Nat.mul o 2147483648)) fun q0=>
 frc (Nat.mul o 0) fun q1=>
 frc (Nat.mul o 131080) fun q15=>
 finN m a b c d e f g h S8.mk (goN m o k64 a b c d e f g h q0 q1 q1 q1 q1 q1 q1 q1 q1 q1 q1 q1 q1 q1 q1 q15)
noncomputable def zb5(m8 o8 m y0 y1 y2 y3 y4 y5 y6 y7:Nat):S8:=
 frc (shN m (Nat.add (Nat.mul (Nat.land y7 zae) p512) (Nat.mul o8 4)) y0) fun u0=>
 frc (shN m y0 y1) fun u1=>
 frc (shN m y1 y2) fun u2=>
 frc (shN m y2 y3) fun u3=>
 frc (shN m y3 y4) fun u4=>
 frc (shN m y4 y5) fun u5=>
 frc (shN m y5 y6) fun u6=>
 frc (shN m y6 y7) fun u7=>
 frc (Nat.land (Nat.shiftRight y7 261632) m512) fun z=>
 frc (Nat.mul o8 1779033703) fun na=>
 frc (Nat.mul o8 3144134277) fun nb=>
 frc (Nat.mul o8 1013904242) fun nc=>
 frc (Nat.mul o8 2773480762) fun nd=>
 frc (Nat.mul o8 1359893119) fun ne=>
 frc (Nat.mul o8 2600822924) fun nf=>
 frc (Nat.mul o8 528734635) fun ng=>
 frc (Nat.mul o8 1541459225) fun nh=>
 z8k m8 o8 u0 u1 u2 u3 u4 u5 u6 u7 (zac m8 o8 z) (List.range' 0 256) na nb nc nd ne nf ng nh
noncomputable def zax(m8 o8 m o x0 x1 x2 x3 x4 x5 x6 x7:Nat):S8:=
 frc (shN m (Nat.mul o 3) x0) fun s0=>
 frc (shN m x0 x1) fun s1=>
 frc (shN m x1 x2) fun s2=>
 frc (shN m x2 x3) fun s3=>
 frc (shN m x3 x4) fun s4=>
 frc (shN m x4 x5) fun s5=>
 frc (shN m x5 x6) fun s6=>
 frc (shN m x6 x7) fun s7=>
 frc (shN m x7 (Nat.mul o 2147483648)) fun s8=>
 frc (Nat.mul o 0) fun s9=>
 frc (Nat.mul o 264) fun s15=>
 frc (Nat.mul o 1779033703) fun na=>
 frc (Nat.mul o 3144134277) fun nb=>
 frc (Nat.mul o 1013904242) fun nc=>
 frc (Nat.mul o 2773480762) fun nd=>
 frc (Nat.mul o 1359893119) fun ne=>
 frc (Nat.mul o 2600822924) fun nf=>
 frc (Nat.mul o 528734635) fun ng=>
 frc (Nat.mul o 1541459225) fun nh=>
 finN m na nb nc nd ne nf ng nh (zb5 m8 o8 m) (goN m o k64 na nb nc nd ne nf ng nh s0 s1 s2 s3 s4 s5 s6 s7 s8 s9 s9 s9 s9 s9 s9 s15)
noncomputable def z6w(wf:Nat->Nat->Nat):S8:=
 frc (ones 4096) fun o=>
 frc (Nat.mul o 4294967295) fun m=>
 frc (ones 8) fun o8=>
 frc (Nat.mul o8 4294967295) fun m8=>
 frc (Nat.land (pkR (wf 0) 4096 0) m) fun w0=>
 frc (Nat.land (pkR (wf 1) 4096 0) m) fun w1=>
 frc (Nat.land (pkR (wf 2) 4096 0) m) fun w2=>
 frc (Nat.land (pkR (wf 3) 4096 0) m) fun w3=>
 frc (Nat.land (pkR (wf 4) 4096 0) m) fun w4=>
 frc (Nat.land (pkR (wf 5) 4096 0) m) fun w5=>
 frc (Nat.land (pkR (wf 6) 4096 0) m) fun w6=>
 frc (Nat.land (pkR (wf 7) 4096 0) m) fun w7=>
 frc (Nat.land (pkR (wf 8) 4096 0) m) fun w8=>
 frc (Nat.land (pkR (wf 9) 4096 0) m) fun w9=>
 frc (Nat.land (pkR (wf 10) 4096 0) m) fun w10=>
 frc (Nat.land (pkR (wf 11) 4096 0) m) fun w11=>
 frc (Nat.land (pkR (wf 12) 4096 0) m) fun w12=>
 frc (Nat.land (pkR (wf 13) 4096 0) m) fun w13=>
 frc (Nat.land (pkR (wf 14) 4096 0) m) fun w14=>
 frc (Nat.land (pkR (wf 15) 4096 0) m) fun w15=>
 frc (Nat.mul o 1779033703) fun na=>
 frc (Nat.mul o 3144134277) fun nb=>
 frc (Nat.mul o 1013904242) fun nc=>
 frc (Nat.mul o 2773480762) fun nd=>
 frc (Nat.mul o 1359893119) fun ne=>
 frc (Nat.mul o 2600822924) fun nf=>
 frc (Nat.mul o 528734635) fun ng=>
 frc (Nat.mul o 1541459225) fun nh=>
 finN m na nb nc nd ne nf ng nh (zax m8 o8 m o) (goN m o k64 na nb nc nd ne nf ng nh w0 w1 w2 w3 w4 w5 w6 w7 w8 w9 w10 w11 w12 w13 w14 w15)
section
variable (v2:Nat->V8)
def tx(i:Nat):List UInt8:=padS (4::enc (z1t v2 i))
theorem zcl(i:Nat)(hi:i<8)(j:Nat)(hj:j<16):zl ((tx v2 i).drop (64*256)) j=shW ((v8w (v2 (4088+i)) 7::longT).getD j 0) ((v8w (v2 (4088+i)) 7::longT).getD (j+1) 0):=by
 unfold tx
 rw [show 64*256=4*4096 from rfl,zbb,zgq _ (z5h v2 i) _ (by omega)]
 have e1:∀n,(4#32::(z1t v2 i++longT)).getD (4096+n) 0=(v8w (v2 (4088+i)) 7::longT).getD n 0:=by
  intro n
  match n with
  | 0=>
   rw [Nat.add_zero,show (4096:Nat)=(8*511+7)+1 from rfl,List.getD_eq_getElem?_getD,List.getElem?_cons_succ,List.getElem?_append_left (by rw [z5h];omega),zb0 v2 i 511 7 (by omega) (by omega),<-List.getD_eq_getElem?_getD,show 8*511+i=4088+i by omega];rfl
  |n+1=>
   rw [show 4096+(n+1)=(4096+n)+1 by omega,List.getD_eq_getElem?_getD,List.getElem?_cons_succ,List.getElem?_append_right (by rw [z5h];omega),z5h,Nat.add_sub_cancel_left,List.getD_eq_getElem?_getD,List.getElem?_cons_succ]
 rw [e1,Nat.add_assoc,e1]
theorem z78(n:Nat)(c:W)(k:Nat)(h:c.toNat=k):Nat.mul (one (List.range n)) k=Q (List.range n) (fun _=>c):=by subst h;rw [<-z71];exact zfc n c
set_option exponentiation.threshold 1000 in
theorem q_prev(f:Nat->W)(c:W)(n N p k:Nat)(hN:N=8+n)(hp:p=2^(64*n)-1)(hk:c.toNat=k):Nat.add (Nat.mul (Nat.land (Q (List.range N) f) p) p512) (Nat.mul (one (List.range 8)) k)=Q (List.range N) (fun l=>if l<8 then c else f (l-8)):=by
 subst hN hp hk
 rw [zpk,<-z71]
 exact Q_prev f c n
theorem zd5{n:Nat}{f g:Nat->W}(h:∀i,i<n->f i=g i):Q (List.range n) f=Q (List.range n) g:=by
 unfold Q P
 congr 1
 apply List.map_congr_left
 intro i hi
 rw [h i (List.mem_range.1 hi)]
theorem znq (v : Nat -> V8) : zac (M (List.range 8)) (one (List.range 8)) (Q (List.range 8) fun i => v8w (v2 (4088 + i)) 7) (Q (List.range 8) fun i => (v i).a) (Q (List.range 8) fun i => (v i).b) (Q (List.range 8) fun i => (v i).c) (Q (List.range 8) fun i => (v i).d) (Q (List.range 8) fun i => (v i).e) (Q (List.range 8) fun i => (v i).f) (Q (List.range 8) fun i => (v i).g) (Q (List.range 8) fun i => (v i).h) =
    S8.mk (Q (List.range 8) fun i=>(mixS (v i) ((tx v2 i).drop (64*256))).a) (Q (List.range 8) fun i=>(mixS (v i) ((tx v2 i).drop (64*256))).b) (Q (List.range 8) fun i=>(mixS (v i) ((tx v2 i).drop (64*256))).c) (Q (List.range 8) fun i=>(mixS (v i) ((tx v2 i).drop (64*256))).d) (Q (List.range 8) fun i=>(mixS (v i) ((tx v2 i).drop (64*256))).e) (Q (List.range 8) fun i=>(mixS (v i) ((tx v2 i).drop (64*256))).f) (Q (List.range 8) fun i=>(mixS (v i) ((tx v2 i).drop (64*256))).g) (Q (List.range 8) fun i=>(mixS (v i) ((tx v2 i).drop (64*256))).h):=by
  unfold zac
  rw [zj,zj,zj]
  have h0:shN (M (List.range 8)) (Q (List.range 8) fun i=>v8w (v2 (4088+i)) 7) (Nat.mul (one (List.range 8)) 2147483648)=Q (List.range 8) fun i=>zl ((tx v2 i).drop (64*256)) 0:=by
    have e:Nat.mul (one (List.range 8)) 2147483648=Q (List.range 8) fun _=>2147483648#32:=z78 8 2147483648#32 _ rfl
    rw [e,z38]
    exact zd5 fun i hi=>(zcl v2 i hi 0 (by omega)).symm
  have hz:∀j,1<=j->j<15->Nat.mul (one (List.range 8)) 0=Q (List.range 8) fun i=>zl ((tx v2 i).drop (64*256)) j:=by
    intro j h1 h2
    have e:Nat.mul (one (List.range 8)) 0=Q (List.range 8) fun _=>0#32:=z78 8 0#32 _ rfl
    rw [e]
    refine zd5 fun i hi=> ?_
    rw [zcl v2 i hi j (by omega)]
    have:∀j:Fin 16,1<=j.val->j.val<15->0#32=shW (longT.getD (j.val-1) 0) (longT.getD j.val 0):=by decide+kernel
    have h3:=this ⟨j,by omega⟩ h1 h2
    obtain⟨k,rfl⟩:∃k,j=k+1:=⟨j-1,by omega⟩
    simpa [List.getD_eq_getElem?_getD]using h3
  have h15:Nat.mul (one (List.range 8)) 131080=Q (List.range 8) fun i=>zl ((tx v2 i).drop (64*256)) 15:=by
    have e:Nat.mul (one (List.range 8)) 131080=Q (List.range 8) fun _=>131080#32:=z78 8 131080#32 _ rfl
    rw [e]
    refine zd5 fun i hi=> ?_
    rw [zcl v2 i hi 15 (by omega)]
    have:131080#32=shW (longT.getD 14 0) (longT.getD 15 0):=by decide+kernel
    simpa [List.getD_eq_getElem?_getD]using this
  exact z9z (List.range 8) (fun i=>(tx v2 i).drop (64*256)) v _ _ _ _ _ _ _ _ _ _ _ _ _ _ _ _ S8.mk h0 (hz 1 (by omega) (by omega)) (hz 2 (by omega) (by omega)) (hz 3 (by omega) (by omega)) (hz 4 (by omega) (by omega)) (hz 5 (by omega) (by omega)) (hz 6 (by omega) (by omega)) (hz 7 (by omega) (by omega)) (hz 8 (by omega) (by omega)) (hz 9 (by omega) (by omega)) (hz 10 (by omega) (by omega)) (hz 11 (by omega) (by omega)) (hz 12 (by omega) (by omega)) (hz 13 (by omega) (by omega)) (hz 14 (by omega) (by omega)) h15
def z6x(i:Nat):V8:=blocks 257 v0 (tx v2 i)
def s8Q(f:Nat->V8):S8:=⟨Q (List.range 8) fun i=>(f i).a,Q (List.range 8) fun i=>(f i).b,Q (List.range 8) fun i=>(f i).c,Q (List.range 8) fun i=>(f i).d,Q (List.range 8) fun i=>(f i).e,Q (List.range 8) fun i=>(f i).f,Q (List.range 8) fun i=>(f i).g,Q (List.range 8) fun i=>(f i).h⟩
theorem zsv:zb5 (M (List.range 8)) (one (List.range 8)) (M (List.range 4096)) (Q (List.range 4096) fun i=>v8w (v2 i) 0) (Q (List.range 4096) fun i=>v8w (v2 i) 1) (Q (List.range 4096) fun i=>v8w (v2 i) 2) (Q (List.range 4096) fun i=>v8w (v2 i) 3) (Q (List.range 4096) fun i=>v8w (v2 i) 4) (Q (List.range 4096) fun i=>v8w (v2 i) 5) (Q (List.range 4096) fun i=>v8w (v2 i) 6) (Q (List.range 4096) fun i=>v8w (v2 i) 7)=s8Q (z6x v2):=by
 unfold zb5
 rw [zj,zj,zj,zj,zj,zj,zj,zj,zj,zj,zj,zj,zj,zj,zj,zj,zj]
 have hp:Nat.add (Nat.mul (Nat.land (Q (List.range 4096) fun i=>v8w (v2 i) 7) zae) p512) (Nat.mul (one (List.range 8)) 4)=Q (List.range 4096) (fun l=>if l<8 then 4#32 else v8w (v2 (l-8)) 7):=by
  exact q_prev (fun i=>v8w (v2 i) 7) 4#32 4088 4096 _ 4 rfl zpj rfl
 have h0:shN (M (List.range 4096)) (Nat.add (Nat.mul (Nat.land (Q (List.range 4096) fun i=>v8w (v2 i) 7) zae) p512) (Nat.mul (one (List.range 8)) 4)) (Q (List.range 4096) fun i=>v8w (v2 i) 0)=uT v2 0:=by
  rw [hp,z38];rfl
 have ht:∀t,shN (M (List.range 4096)) (Q (List.range 4096) fun i=>v8w (v2 i) t) (Q (List.range 4096) fun i=>v8w (v2 i) (t+1))=uT v2 (t+1):=by
  intro t
  rw [z38]
  unfold uT pw
  simp only [if_neg (Nat.succ_ne_zero t),Nat.add_sub_cancel]
 have hz:Nat.land (Nat.shiftRight (Q (List.range 4096) fun i=>v8w (v2 i) 7) 261632) m512=Q (List.range 8) fun i=>v8w (v2 (4088+i)) 7:=by
  rw [zcn]
  exact z7q (fun i=>v8w (v2 i) 7) (N:=4096) (a:=4088) (c:=8) (by omega)
 rw [h0,ht 0,ht 1,ht 2,ht 3,ht 4,ht 5,ht 6,hz]
 have hi:∀(c:W) (k:Nat),c.toNat=k->Nat.mul (one (List.range 8)) k=Q (List.range 8) fun _=>c:=z78 8
 have r:=zgl v2 (zac (M (List.range 8)) (one (List.range 8)) (Q (List.range 8) fun i=>v8w (v2 (4088+i)) 7)) 256 0 (fun _=>v0) rfl
 have na:Nat.mul (one (List.range 8)) 1779033703=Q (List.range 8) fun _=>v0.a:=hi 1779033703#32 _ rfl
 have nb:Nat.mul (one (List.range 8)) 3144134277=Q (List.range 8) fun _=>v0.b:=hi 3144134277#32 _ rfl
 have nc:Nat.mul (one (List.range 8)) 1013904242=Q (List.range 8) fun _=>v0.c:=hi 1013904242#32 _ rfl
 have nd:Nat.mul (one (List.range 8)) 2773480762=Q (List.range 8) fun _=>v0.d:=hi 2773480762#32 _ rfl
 have ne:Nat.mul (one (List.range 8)) 1359893119=Q (List.range 8) fun _=>v0.e:=hi 1359893119#32 _ rfl
 have nf:Nat.mul (one (List.range 8)) 2600822924=Q (List.range 8) fun _=>v0.f:=hi 2600822924#32 _ rfl
 have ng:Nat.mul (one (List.range 8)) 528734635=Q (List.range 8) fun _=>v0.g:=hi 528734635#32 _ rfl
 have nh:Nat.mul (one (List.range 8)) 1541459225=Q (List.range 8) fun _=>v0.h:=hi 1541459225#32 _ rfl
 rw [na,nb,nc,nd,ne,nf,ng,nh]
 refine r.trans ?_
 refine(znq v2 (fun i=>blocks 256 v0 ((padS (4::enc (z1t v2 i))).drop (64*0)))).trans ?_
 unfold s8Q z6x
 have e:∀i,blocks 257 v0 (tx v2 i)=mixS (blocks 256 v0 ((padS (4::enc (z1t v2 i))).drop (64*0))) ((tx v2 i).drop (64*256)):=fun i=>zex 256 v0 _
 simp only [e]
end
section
variable (v1:Nat->V8)
def sh2(l:Nat):V8:=mixS v0 (padS (3::outV (v1 l)))
theorem zr2:zax (M (List.range 8)) (one (List.range 8)) (M (List.range 4096)) (one (List.range 4096)) (Q (List.range 4096) fun i=>(v1 i).a) (Q (List.range 4096) fun i=>(v1 i).b) (Q (List.range 4096) fun i=>(v1 i).c) (Q (List.range 4096) fun i=>(v1 i).d) (Q (List.range 4096) fun i=>(v1 i).e) (Q (List.range 4096) fun i=>(v1 i).f) (Q (List.range 4096) fun i=>(v1 i).g) (Q (List.range 4096) fun i=>(v1 i).h)=s8Q (z6x (sh2 v1)):=by
 unfold zax
 rw [zj,zj,zj,zj,zj,zj,zj,zj,zj,zj,zj,zj,zj,zj,zj,zj,zj,zj,zj]
 have hc:∀(c:W) (k:Nat),c.toNat=k->Nat.mul (one (List.range 4096)) k=Q (List.range 4096) fun _=>c:=z78 4096
 have sw:∀j,j<16->∀i,shW ((3#32::((v1 i).l++padT)).getD j 0) ((3#32::((v1 i).l++padT)).getD (j+1) 0)=zl (padS (3::outV (v1 i))) j:=fun j hj i=>(zr3 (v1 i) j hj).symm
 have c3:Nat.mul (one (List.range 4096)) 3=Q (List.range 4096) fun _=>3#32:=hc 3#32 _ rfl
 have c8:Nat.mul (one (List.range 4096)) 2147483648=Q (List.range 4096) fun _=>2147483648#32:=hc 2147483648#32 _ rfl
 have c0:Nat.mul (one (List.range 4096)) 0=Q (List.range 4096) fun _=>0#32:=hc 0#32 _ rfl
 have cF:Nat.mul (one (List.range 4096)) 264=Q (List.range 4096) fun _=>264#32:=hc 264#32 _ rfl
 rw [c3,c8,c0,cF]
 have na:Nat.mul (one (List.range 4096)) 1779033703=Q (List.range 4096) fun _=>v0.a:=hc 1779033703#32 _ rfl
 have nb:Nat.mul (one (List.range 4096)) 3144134277=Q (List.range 4096) fun _=>v0.b:=hc 3144134277#32 _ rfl
 have nc:Nat.mul (one (List.range 4096)) 1013904242=Q (List.range 4096) fun _=>v0.c:=hc 1013904242#32 _ rfl
 have nd:Nat.mul (one (List.range 4096)) 2773480762=Q (List.range 4096) fun _=>v0.d:=hc 2773480762#32 _ rfl
 have ne:Nat.mul (one (List.range 4096)) 1359893119=Q (List.range 4096) fun _=>v0.e:=hc 1359893119#32 _ rfl
 have nf:Nat.mul (one (List.range 4096)) 2600822924=Q (List.range 4096) fun _=>v0.f:=hc 2600822924#32 _ rfl
 have ng:Nat.mul (one (List.range 4096)) 528734635=Q (List.range 4096) fun _=>v0.g:=hc 528734635#32 _ rfl
 have nh:Nat.mul (one (List.range 4096)) 1541459225=Q (List.range 4096) fun _=>v0.h:=hc 1541459225#32 _ rfl
 rw [na,nb,nc,nd,ne,nf,ng,nh]
 have w0:∀i,zl (padS (3::outV (v1 i))) 0=shW 3#32 (v1 i).a:=fun i=>(sw 0 (by omega) i).symm.trans rfl
 have w1:∀i,zl (padS (3::outV (v1 i))) 1=shW (v1 i).a (v1 i).b:=fun i=>(sw 1 (by omega) i).symm.trans rfl
 have w2:∀i,zl (padS (3::outV (v1 i))) 2=shW (v1 i).b (v1 i).c:=fun i=>(sw 2 (by omega) i).symm.trans rfl
 have w3:∀i,zl (padS (3::outV (v1 i))) 3=shW (v1 i).c (v1 i).d:=fun i=>(sw 3 (by omega) i).symm.trans rfl
 have w4:∀i,zl (padS (3::outV (v1 i))) 4=shW (v1 i).d (v1 i).e:=fun i=>(sw 4 (by omega) i).symm.trans rfl
 have w5:∀i,zl (padS (3::outV (v1 i))) 5=shW (v1 i).e (v1 i).f:=fun i=>(sw 5 (by omega) i).symm.trans rfl
 have w6:∀i,zl (padS (3::outV (v1 i))) 6=shW (v1 i).f (v1 i).g:=fun i=>(sw 6 (by omega) i).symm.trans rfl
 have w7:∀i,zl (padS (3::outV (v1 i))) 7=shW (v1 i).g (v1 i).h:=fun i=>(sw 7 (by omega) i).symm.trans rfl
 have w8:∀i,zl (padS (3::outV (v1 i))) 8=shW (v1 i).h 2147483648#32:=fun i=>(sw 8 (by omega) i).symm.trans rfl
 have w9:∀i,zl (padS (3::outV (v1 i))) 9=0#32:=fun i=>(sw 9 (by omega) i).symm.trans (by show shW 2147483648#32 0#32=_;decide+kernel)
 have w10:∀i,zl (padS (3::outV (v1 i))) 10=0#32:=fun i=>(sw 10 (by omega) i).symm.trans (by show shW 0#32 0#32=_;decide+kernel)
 have w11:∀i,zl (padS (3::outV (v1 i))) 11=0#32:=fun i=>(sw 11 (by omega) i).symm.trans (by show shW 0#32 0#32=_;decide+kernel)
 have w12:∀i,zl (padS (3::outV (v1 i))) 12=0#32:=fun i=>(sw 12 (by omega) i).symm.trans (by show shW 0#32 0#32=_;decide+kernel)
 have w13:∀i,zl (padS (3::outV (v1 i))) 13=0#32:=fun i=>(sw 13 (by omega) i).symm.trans (by show shW 0#32 0#32=_;decide+kernel)
 have w14:∀i,zl (padS (3::outV (v1 i))) 14=0#32:=fun i=>(sw 14 (by omega) i).symm.trans (by show shW 0#32 0#32=_;decide+kernel)
 have w15:∀i,zl (padS (3::outV (v1 i))) 15=264#32:=fun i=>(sw 15 (by omega) i).symm.trans (by show shW 0#32 67584#32=_;decide+kernel)
 refine(z9z (List.range 4096) (fun i=>padS (3::outV (v1 i))) (fun _=>v0) _ _ _ _ _ _ _ _ _ _ _ _ _ _ _ _ (zb5 (M (List.range 8)) (one (List.range 8)) (M (List.range 4096))) (by simp only [w0];exact z38 _ _ _) (by simp only [w1];exact z38 _ _ _) (by simp only [w2];exact z38 _ _ _) (by simp only [w3];exact z38 _ _ _) (by simp only [w4];exact z38 _ _ _) (by simp only [w5];exact z38 _ _ _) (by simp only [w6];exact z38 _ _ _) (by simp only [w7];exact z38 _ _ _) (by simp only [w8];exact z38 _ _ _) (by simp only [w9]) (by simp only [w10]) (by simp only [w11]) (by simp only [w12]) (by simp only [w13]) (by simp only [w14]) (by simp only [w15])).trans ?_
 exact zsv (sh2 v1)
end
set_option exponentiation.threshold 300000 in
theorem zns(wf:Nat->Nat->Nat)(msg:Nat->List UInt8)(hm:∀l j,j<16->zl (padS (msg l)) j=BitVec.ofNat 32 (wf j l))(hb:∀j l,wf j l<2^64):z6w wf=s8Q (z6x (sh2 fun l=>mixS v0 (padS (msg l)))):=by
 unfold z6w
 rw [zj,zj,zj,zj,zj,zj,zj,zj,zj,zj,zj,zj,zj,zj,zj,zj,zj,zj,zj,zj,zj,zj,zj,zj,zj,zj,zj,zj]
 rw [M_is,M_is,z71,z71]
 have hc:∀(c:W) (k:Nat),c.toNat=k->Nat.mul (one (List.range 4096)) k=Q (List.range 4096) fun _=>c:=z78 4096
 have na:Nat.mul (one (List.range 4096)) 1779033703=Q (List.range 4096) fun _=>v0.a:=hc 1779033703#32 _ rfl
 have nb:Nat.mul (one (List.range 4096)) 3144134277=Q (List.range 4096) fun _=>v0.b:=hc 3144134277#32 _ rfl
 have nc:Nat.mul (one (List.range 4096)) 1013904242=Q (List.range 4096) fun _=>v0.c:=hc 1013904242#32 _ rfl
 have nd:Nat.mul (one (List.range 4096)) 2773480762=Q (List.range 4096) fun _=>v0.d:=hc 2773480762#32 _ rfl
 have ne:Nat.mul (one (List.range 4096)) 1359893119=Q (List.range 4096) fun _=>v0.e:=hc 1359893119#32 _ rfl
 have nf:Nat.mul (one (List.range 4096)) 2600822924=Q (List.range 4096) fun _=>v0.f:=hc 2600822924#32 _ rfl
 have ng:Nat.mul (one (List.range 4096)) 528734635=Q (List.range 4096) fun _=>v0.g:=hc 528734635#32 _ rfl
 have nh:Nat.mul (one (List.range 4096)) 1541459225=Q (List.range 4096) fun _=>v0.h:=hc 1541459225#32 _ rfl
 rw [na,nb,nc,nd,ne,nf,ng,nh]
 have hw:∀j,j<16->Nat.land (pkR (wf j) 4096 0) (M (List.range 4096))=Q (List.range 4096) fun l=>zl (padS (msg l)) j:=by
  intro j hj
  rw [zhf,Nat.mul_zero,Nat.add_zero]
  exact z6z _ _ (hb j) fun i=>(hm i j hj).symm
 refine(z9z (List.range 4096) (fun i=>padS (msg i)) (fun _=>v0) _ _ _ _ _ _ _ _ _ _ _ _ _ _ _ _ (zax (M (List.range 8)) (one (List.range 8)) (M (List.range 4096)) (one (List.range 4096))) (hw 0 (by omega)) (hw 1 (by omega)) (hw 2 (by omega)) (hw 3 (by omega)) (hw 4 (by omega)) (hw 5 (by omega)) (hw 6 (by omega)) (hw 7 (by omega)) (hw 8 (by omega)) (hw 9 (by omega)) (hw 10 (by omega)) (hw 11 (by omega)) (hw 12 (by omega)) (hw 13 (by omega)) (hw 14 (by omega)) (hw 15 (by omega))).trans ?_
 exact zr2 fun l=>mixS v0 (padS (msg l))
end
section
theorem rl_c{k:Nat}:∀(l:List W),RLs k (ws l)
 | []=>by simp [ws,RLs]
 | _::l=>by have:=rl_c (k:=k) l;simp only [ws]at this;simp [ws,wc,RLs,RL,this]
theorem z5u{k:Nat}{l:List AV}(h:RLs k l):RL k (.agg l):=by simpa only [RL]using h
theorem zt7(s:List UInt8)(i:Nat):IntKind.u32.wrap ((getS ((s.drop (4*i)).take 4):Nat):Int)=((zl s i).toNat:Int):=by
 rw [z98,zl,BitVec.toNat_ofNat];rfl
theorem zl2{w:List W}{x:W}{n:Nat}(h:w.length=n)(hn:n<64):(ws w++List.replicate (64-n) (AV.int .u32 0)).take n++AV.int .u32 x.toNat::(ws w++List.replicate (64-n) (AV.int .u32 0)).drop (n+1)=ws (w++ [x])++List.replicate (64-(n+1)) (AV.int .u32 0):=by
 have hl:(ws w).length=n:=by rw [z99,h]
 have e:64-n=(64-(n+1))+1:=by omega
 rw [List.take_append_of_le_length (by omega),List.take_of_length_le (by omega),List.drop_append,List.drop_of_length_le (by omega),hl]
 rw [show n+1-n=1 by omega,e,List.replicate_succ,List.drop_succ_cons,List.drop_zero,List.nil_append]
 simp [ws,wc]
theorem zs3(O:Store)(s:List UInt8)(h:64<=s.length)(hs:s.length<9223372036854775808):ACallsTo TC 60 [.str s] O (.agg (ws (z1f s 64))) O:=by
 obtain⟨R,hR⟩:∃R,R=z1f s 64:=⟨_,rfl⟩
 rw [<-hR]
 refine ACallsTo.of_body qbok (by simp) fun hw _=> ?_
 repeat' (first|apply zs_|apply zb_|apply zc_|apply zt_ rfl|apply zf_ rfl|(apply zd_ rfl<;>intro ht<;>try omega)|((first|apply zr_|apply zk_|apply ze_|apply zq_|(apply zG<;>intro ht));all_goals try simp (disch:=first|omega|(simp only [lens];first|done|omega)) only [go_sem]))
 refine zW.loop (fun m Z O'=>∃i:Nat,m+i=64/\ Z 0=.str s/\ Z 2=.ptr O.length 0 0/\ Z 6=.int .i64 i/\ O'=O++ [some [ws (z1f s i)++List.replicate (64-i) (AV.int .u32 0)]]) 64 ?_ ?_
 ·exact⟨0,by omega,by simp (disch:=first|omega|(simp only [lens];first|done|omega)) only [go_sem],by simp (disch:=first|omega|(simp only [lens];first|done|omega)) only [go_sem],by simp (disch:=first|omega|(simp only [lens];first|done|omega)) only [go_sem];rfl,rfl⟩
 ·rintro m Z O' ⟨i,hm,q0,q2,q6,rfl⟩
  have hsl:=zdk s i
  have hset:=fun x=>zl2 (x:=x) hsl
  have hwi:∀j,j<i->(ws (z1f s i)++List.replicate (64-i) (AV.int .u32 0))[j]? =some (.int .u32 (wat (z1f s i) j).toNat):=by
   intro j hj
   rw [List.getElem?_append_left (by rw [z99];omega),ze6 (by omega)]
  have hlen:(ws (z1f s i)++List.replicate (64-i) (AV.int .u32 0)).length=64 \/64<i:=by
   simp [z99,hsl];omega
  by_cases hi:i<64
  ·have hlen:(ws (z1f s i)++List.replicate (64-i) (AV.int .u32 0)).length=64:=by omega
   generalize hcc:ws (z1f s i)++List.replicate (64-i) (AV.int .u32 0)=cc at*
   by_cases h16:i<16
   ·have hd1:(s.take (4*i+4)).length=4*i+4:=by rw [List.length_take];omega
    repeat' (first|apply zs_|apply zb_|apply zc_|apply zt_ rfl|apply zf_ rfl|(apply zd_ rfl<;>intro ht<;>try omega)|((first|apply zr_|apply zk_|apply ze_|apply zq_|(apply callW.mk_pu;(first|exact(fun _=>zev _ _ (by simp;omega))))|(apply callW.za;(first|exact(zev _ _ (by simp;omega))))|(apply zG<;>intro ht));all_goals try simp (disch:=first|omega|(simp only [lens];first|done|omega)) only [go_sem,q0,q2,q6,hlen]))
    have ev:((getS ((s.take (4*(i:Int)+4).toNat).drop (4*(i:Int)).toNat):Nat):Int)%4294967296=((z3y s (z1f s i)).toNat:Int):=by
     rw [show (4*(i:Int)+4).toNat=4*i+4 by omega,show (4*(i:Int)).toNat=4*i by omega,List.drop_take,show 4*i+4-4*i=4 by omega]
     have:=zt7 s i
     rw [z98]at this
     rw [this,z3y,if_pos (by omega),hsl]
    refine⟨64-(i+1),by omega,i+1,by omega,by simp,?_⟩
    rw [ev,hset _ hi,z1f]
   ·have en:z3y s (z1f s i)=wat (z1f s i) (i-16)+wat (z1f s i) (i-7)+ss0 (wat (z1f s i) (i-15))+ss1 (wat (z1f s i) (i-2)):=by rw [z3y,if_neg (by omega),hsl]
    have g16:=hwi (i-16) (by omega)
    have g7:=hwi (i-7) (by omega)
    have g15:=hwi (i-15) (by omega)
    have g2:=hwi (i-2) (by omega)
    have t16:((i:Int)-16).toNat=i-16:=by omega
    have t7:((i:Int)-7).toNat=i-7:=by omega
    have t15:((i:Int)-15).toNat=i-15:=by omega
    have t2:((i:Int)-2).toNat=i-2:=by omega
    generalize wat (z1f s i) (i-16)=w16 at*
    generalize wat (z1f s i) (i-7)=w7 at*
    generalize wat (z1f s i) (i-15)=w15 at*
    generalize wat (z1f s i) (i-2)=w2 at*
    have r7:((-7:Int)%32).toNat=25:=rfl
    have r18:((-18:Int)%32).toNat=14:=rfl
    have r17:((-17:Int)%32).toNat=15:=rfl
    have r19:((-19:Int)%32).toNat=13:=rfl
    have en2:=hset (z3y s (z1f s i)) hi
    rw [en]at en2
    simp only [ss0,ss1]at en2
    repeat' (first|apply zs_|apply zb_|apply zc_|apply zt_ rfl|apply zf_ rfl|(apply zd_ rfl<;>intro ht<;>try omega)|((first|apply zr_|apply zk_|apply ze_|apply zq_|(apply callW.mk_pu;(first|exact(fun _=>z9s _ _ _)))|(apply callW.za;(first|exact(z9s _ _ _)))|(apply zG<;>intro ht));all_goals try simp (disch:=first|omega|(simp only [lens];first|done|omega)) only [go_sem,q0,q2,q6,hlen,g16,g7,g15,g2,t16,t7,t15,t2,r7,r18,r17,r19]))
    refine⟨64-(i+1),by omega,i+1,by omega,by simp,?_⟩
    rw [en2,z1f,en]
    simp only [ss0,ss1]
  ·have e:i=64:=by omega
   have eR:z1f s i=R:=by rw [hR,e]
   have hsR:R.length=64:=by rw [<-eR,hsl,e]
   have hl64:(ws R).length=64:=by rw [z99,hsR]
   have e0:List.replicate (64-i) (AV.int .u32 0)=[]:=by rw [e];rfl
   rw [eR,e0,List.append_nil]at*
   clear hwi hset hlen hR
   have hd:(ws R).drop 64=[]:=List.drop_of_length_le (by omega)
   repeat' (first|apply zs_|apply zb_|apply zc_|apply zt_ rfl|apply zf_ rfl|(apply zd_ rfl<;>intro ht<;>try omega)|((first|apply zr_|apply zk_|apply ze_|apply zq_|(apply zG<;>intro ht));all_goals try simp (disch:=first|omega|(simp only [lens];first|done|omega)) only [go_sem,q0,q2,q6,hl64,hd]))
   exact DownV.pure hw (z5u (rl_c _))
end
section
def V8.c8(v:V8):List AV:=[.int .u32 v.a.toNat,.int .u32 v.b.toNat,.int .u32 v.c.toNat,.int .u32 v.d.toNat,.int .u32 v.e.toNat,.int .u32 v.f.toNat,.int .u32 v.g.toNat,.int .u32 v.h.toNat]
theorem ws_l(v:V8):ws v.l=v.c8:=rfl
theorem zng{i:Nat}(h:i<64):(gl_sha_rounds.drop i)[0]? =some (.int .u32 (kAt i).toNat):=by
 have hall:∀j:Fin 64,(gl_sha_rounds.drop j.val)[0]? =some (.int .u32 (kAt j.val).toNat):=by
  intro j
  have h2:(gl_sha_rounds.drop j.val)[0]? =some (AV.int .u32 (shaRounds.getD j.val 0)):=by
   have hl:shaRounds.length=64:=rfl
   simp only [gl_sha_rounds,List.getElem?_drop,Nat.add_zero,List.getElem?_map,List.getD_eq_getElem?_getD]
   rw [List.getElem?_eq_getElem (by rw [hl];exact j.isLt)];rfl
  rw [h2]
  have h3:∀j:Fin 64,shaRounds.getD j.val 0=((kAt j.val).toNat:Int):=by decide
  rw [h3 j]
 exact hall ⟨i,h⟩
theorem zfw:gl_sha_rounds.length=64:=rfl
theorem mix_to(O:Store)(v:V8)(s:List UInt8)(h:64<=s.length)(hs:s.length<9223372036854775808):ACallsTo TC 42 [.agg (ws v.l),.str s] O (.agg (ws (mixS v s).l)) O:=by
 obtain⟨R,hR⟩:∃R,R=z1f s 64:=⟨_,rfl⟩
 have hsp:=fun O=>zs3 O s h hs
 rw [<-hR]at hsp
 have hRl:R.length=64:=by rw [hR,zdk]
 have hwR:(ws R).length=64:=by rw [z99,hRl]
 have hst:∀n,rnds s v (n+1)=rnd (rnds s v n) (kAt n) (wat R n):=fun n=>by rw [rnds,hR]
 obtain⟨F,hF⟩:∃F,F=(rnds s v 64).add v:=⟨_,rfl⟩
 have hmix:mixS v s=F:=hF.symm
 rw [hmix,ws_l,ws_l]
 clear hmix
 refine ACallsTo.of_body qaok (by simp) fun hw _=> ?_
 unfold V8.c8
 repeat' (first|apply zs_|apply zb_|apply zc_|apply zt_ rfl|apply zf_ rfl|(apply zd_ rfl<;>intro ht<;>try omega)|((first|apply zr_|apply zk_|apply ze_|apply zq_|(apply callW.mk_pu;(first|exact(fun _=>hsp _)))|(apply callW.za;(first|exact(hsp _)))|(apply zG<;>intro ht));all_goals try simp (disch:=first|omega|(simp only [lens];first|done|omega)) only [go_sem]))
 refine zW.loop (fun m Z O'=>∃i:Nat,m+i=64/\ Z 2=.ptr O.length 0 0/\ Z 4=.ptr (O.length+1) 0 0/\ Z 5=.ptr (O.length+2) 0 0/\ Z 15=.agg (ws R)/\ Z 16=.int .i64 i ∧
  O'=O++ [some [v.c8],some [[AV.int .u32 0,AV.int .u32 0,AV.int .u32 0,AV.int .u32 0,AV.int .u32 0,AV.int .u32 0,AV.int .u32 0,AV.int .u32 0]],some [(rnds s v i).c8]]) 64 ?_ ?_
 ·exact⟨0,by omega,by simp (disch:=first|omega|(simp only [lens];first|done|omega)) only [go_sem],by simp (disch:=first|omega|(simp only [lens];first|done|omega)) only [go_sem],by simp (disch:=first|omega|(simp only [lens];first|done|omega)) only [go_sem],by simp (disch:=first|omega|(simp only [lens];first|done|omega)) only [go_sem],by simp (disch:=first|omega|(simp only [lens];first|done|omega)) only [go_sem];rfl,rfl⟩
 ·rintro m Z O' ⟨i,hm,q2,q4,q5,q15,q16,rfl⟩
  by_cases hi:i<64
  ·have hk:=zng hi
   have hw:=ze6 (w:=R) (i:=i) (by omega)
   have hst:=hst i
   generalize rnds s v i=u at*
   obtain⟨a,b,c,d,e,f,g,h⟩:=u
   generalize kAt i=kk at*
   generalize wat R i=ww at*
   have r6:((-6:Int)%32).toNat=26:=rfl
   have r11:((-11:Int)%32).toNat=21:=rfl
   have r25:((-25:Int)%32).toNat=7:=rfl
   have r2:((-2:Int)%32).toNat=30:=rfl
   have r13:((-13:Int)%32).toNat=19:=rfl
   have r22:((-22:Int)%32).toNat=10:=rfl
   refine zs_ ?_
   refine zr_ ?_
   simp (disch:=first|omega|(simp only [lens];first|done|omega)) only [go_sem,q16]
   refine zs_ ?_
   refine zt_ rfl ?_
   refine zk_ ?_
   simp (disch:=first|omega|(simp only [lens];first|done|omega)) only [go_sem]
   refine zs_ ?_
   refine zb_ ?_
   refine zs_ ?_
   refine zW.regS ?_
   simp (disch:=first|omega|(simp only [lens];first|done|omega)) only [go_sem,q15,q16,hwR,hw]
   (refine zW.slots [2,4,5,6,7,15,16] ?_;intro Z1 hs;simp (disch:=first|omega|(simp only [lens];first|done|omega)) only [go_sem,q2,q4,q5,q15,q16]at hs;obtain⟨s2,s4,s5,s6,s7,s15,s16⟩:=hs)
   refine zs_ ?_
   refine zW.regS ?_
   simp (disch:=first|omega|(simp only [lens];first|done|omega)) only [go_sem,s5,V8.c8]
   (refine zW.slots [2,4,5,6,7,8,9,15,16] ?_;intro Z2 hs;simp (disch:=first|omega|(simp only [lens];first|done|omega)) only [go_sem,s2,s4,s5,s6,s7,s15,s16]at hs;obtain⟨s2,s4,s5,s6,s7,s8,s9,s15,s16⟩:=hs)
   refine zs_ ?_
   (refine zW.regS ?_;(simp (disch:=first|omega|(simp only [lens];first|done|omega)) only [go_sem,s2,s4,s5,s6,s7,s8,s9,V8.c8,hk,zfw,r6,r11,r25]);repeat' (apply callW.za;(first|exact(z9s _ _ _));all_goals try (simp (disch:=first|omega|(simp only [lens];first|done|omega)) only [go_sem,s2,s4,s5,s6,s7,s8,s9,V8.c8,hk,zfw,r6,r11,r25])))
   (refine zW.slots [2,4,5,8,9,10,15,16] ?_;intro Z3 hs;simp (disch:=first|omega|(simp only [lens];first|done|omega)) only [go_sem,s2,s4,s5,s8,s9,s15,s16]at hs;obtain⟨s2,s4,s5,s8,s9,s10,s15,s16⟩:=hs)
   refine zs_ ?_
   (refine zW.regS ?_;(simp (disch:=first|omega|(simp only [lens];first|done|omega)) only [go_sem,s5,s8,s9,V8.c8,r2,r13,r22]);repeat' (apply callW.za;(first|exact(z9s _ _ _));all_goals try (simp (disch:=first|omega|(simp only [lens];first|done|omega)) only [go_sem,s5,s8,s9,V8.c8,r2,r13,r22])))
   (refine zW.slots [2,4,5,8,9,10,11,15,16] ?_;intro Z4 hs;simp (disch:=first|omega|(simp only [lens];first|done|omega)) only [go_sem,s2,s4,s5,s8,s9,s10,s15,s16]at hs;obtain⟨s2,s4,s5,s8,s9,s10,s11,s15,s16⟩:=hs)
   (refine zW.regS ?_;(simp (disch:=first|omega|(simp only [lens];first|done|omega)) only [go_sem,s5,s8,s9,s10,s11,V8.c8]))
   (refine zW.slots [2,4,5,15,16] ?_;intro Z5 hs;simp (disch:=first|omega|(simp only [lens];first|done|omega)) only [go_sem,s2,s4,s5,s15,s16]at hs;obtain⟨s2,s4,s5,s15,s16⟩:=hs)
   (refine zW.regS ?_;(simp (disch:=first|omega|(simp only [lens];first|done|omega)) only [go_sem,s16]))
   refine⟨64-(i+1),by omega,i+1,by omega,s2,s4,s5,s15,by simp,?_⟩
   rw [hst]
   simp only [rnd,V8.c8,bs1,chW,bs0,majW]
  ·obtain rfl:i=64:=by omega
   clear hst
   generalize rnds s v 64=U at*
   rw [hF,V8.add]
   clear hF hR
   obtain⟨a,b,c,d,e,f,g,h⟩:=U
   obtain⟨a',b',c',d',e',f',g',h'⟩:=v
   simp only [V8.c8]at*
   repeat' (first|apply zs_|apply zb_|apply zc_|apply zt_ rfl|apply zf_ rfl|(apply zd_ rfl<;>intro ht<;>try omega)|((first|apply zr_|apply zk_|apply ze_|apply zq_|(apply zG<;>intro ht));all_goals try simp (disch:=first|omega|(simp only [lens];first|done|omega)) only [go_sem,q16]))
   refine zW.loop (fun m Z O'=>∃j:Nat,m+j=8/\ Z 2=.ptr O.length 0 0/\ Z 4=.ptr (O.length+1) 0 0/\ Z 5=.ptr (O.length+2) 0 0/\ Z 95=.int .i64 j ∧
    O'=O++ [some [V8.c8 ⟨a',b',c',d',e',f',g',h'⟩],some [[AV.int .u32 0,AV.int .u32 0,AV.int .u32 0,AV.int .u32 0,AV.int .u32 0,AV.int .u32 0,AV.int .u32 0,AV.int .u32 0]],some [(V8.c8 ⟨a+a',b+b',c+c',d+d',e+e',f+f',g+g',h+h'⟩).take j++(V8.c8 ⟨a,b,c,d,e,f,g,h⟩).drop j]]) 8 ?_ ?_
   ·exact⟨0,by omega,by simp (disch:=first|omega|(simp only [lens];first|done|omega)) only [go_sem,q2],by simp (disch:=first|omega|(simp only [lens];first|done|omega)) only [go_sem,q4],by simp (disch:=first|omega|(simp only [lens];first|done|omega)) only [go_sem,q5],by simp (disch:=first|omega|(simp only [lens];first|done|omega)) only [go_sem];rfl,rfl⟩
   ·clear q2 q4 q5 q15 q16
    rintro m Z O' ⟨j,hm,q2,q4,q5,q95,rfl⟩
    have hj:j=0 \/j=1 \/j=2 \/j=3 \/j=4 \/j=5 \/j=6 \/j=7 \/j=8:=by omega
    rcases hj with rfl|rfl|rfl|rfl|rfl|rfl|rfl|rfl|rfl
    ·repeat' (first|refine zs_ ?_|refine zb_ ?_|refine zc_ ?_|refine zt_ rfl ?_|refine zf_ rfl ?_|(refine zd_ rfl (fun ht=> ?_) (fun ht=> ?_)<;>try (exfalso;omega))|((first|refine zW.regS ?_|refine zk_ ?_|refine ze_ ?_|refine zq_ ?_|(apply zG<;>intro ht));all_goals try simp (disch:=first|omega|(simp only [lens];first|done|omega)) only [go_sem,q2,q4,q5,q95,V8.c8]))
     exact⟨7,by omega,1,by omega,rfl,rfl⟩
    ·repeat' (first|refine zs_ ?_|refine zb_ ?_|refine zc_ ?_|refine zt_ rfl ?_|refine zf_ rfl ?_|(refine zd_ rfl (fun ht=> ?_) (fun ht=> ?_)<;>try (exfalso;omega))|((first|refine zW.regS ?_|refine zk_ ?_|refine ze_ ?_|refine zq_ ?_|(apply zG<;>intro ht));all_goals try simp (disch:=first|omega|(simp only [lens];first|done|omega)) only [go_sem,q2,q4,q5,q95,V8.c8]))
     exact⟨6,by omega,2,by omega,rfl,rfl⟩
    ·repeat' (first|refine zs_ ?_|refine zb_ ?_|refine zc_ ?_|refine zt_ rfl ?_|refine zf_ rfl ?_|(refine zd_ rfl (fun ht=> ?_) (fun ht=> ?_)<;>try (exfalso;omega))|((first|refine zW.regS ?_|refine zk_ ?_|refine ze_ ?_|refine zq_ ?_|(apply zG<;>intro ht));all_goals try simp (disch:=first|omega|(simp only [lens];first|done|omega)) only [go_sem,q2,q4,q5,q95,V8.c8]))
     exact⟨5,by omega,3,by omega,rfl,rfl⟩
    ·repeat' (first|refine zs_ ?_|refine zb_ ?_|refine zc_ ?_|refine zt_ rfl ?_|refine zf_ rfl ?_|(refine zd_ rfl (fun ht=> ?_) (fun ht=> ?_)<;>try (exfalso;omega))|((first|refine zW.regS ?_|refine zk_ ?_|refine ze_ ?_|refine zq_ ?_|(apply zG<;>intro ht));all_goals try simp (disch:=first|omega|(simp only [lens];first|done|omega)) only [go_sem,q2,q4,q5,q95,V8.c8]))
     exact⟨4,by omega,4,by omega,rfl,rfl⟩
    ·repeat' (first|refine zs_ ?_|refine zb_ ?_|refine zc_ ?_|refine zt_ rfl ?_|refine zf_ rfl ?_|(refine zd_ rfl (fun ht=> ?_) (fun ht=> ?_)<;>try (exfalso;omega))|((first|refine zW.regS ?_|refine zk_ ?_|refine ze_ ?_|refine zq_ ?_|(apply zG<;>intro ht));all_goals try simp (disch:=first|omega|(simp only [lens];first|done|omega)) only [go_sem,q2,q4,q5,q95,V8.c8]))
     exact⟨3,by omega,5,by omega,rfl,rfl⟩
    ·repeat' (first|refine zs_ ?_|refine zb_ ?_|refine zc_ ?_|refine zt_ rfl ?_|refine zf_ rfl ?_|(refine zd_ rfl (fun ht=> ?_) (fun ht=> ?_)<;>try (exfalso;omega))|((first|refine zW.regS ?_|refine zk_ ?_|refine ze_ ?_|refine zq_ ?_|(apply zG<;>intro ht));all_goals try simp (disch:=first|omega|(simp only [lens];first|done|omega)) only [go_sem,q2,q4,q5,q95,V8.c8]))
     exact⟨2,by omega,6,by omega,rfl,rfl⟩
    ·repeat' (first|refine zs_ ?_|refine zb_ ?_|refine zc_ ?_|refine zt_ rfl ?_|refine zf_ rfl ?_|(refine zd_ rfl (fun ht=> ?_) (fun ht=> ?_)<;>try (exfalso;omega))|((first|refine zW.regS ?_|refine zk_ ?_|refine ze_ ?_|refine zq_ ?_|(apply zG<;>intro ht));all_goals try simp (disch:=first|omega|(simp only [lens];first|done|omega)) only [go_sem,q2,q4,q5,q95,V8.c8]))
     exact⟨1,by omega,7,by omega,rfl,rfl⟩
    ·repeat' (first|refine zs_ ?_|refine zb_ ?_|refine zc_ ?_|refine zt_ rfl ?_|refine zf_ rfl ?_|(refine zd_ rfl (fun ht=> ?_) (fun ht=> ?_)<;>try (exfalso;omega))|((first|refine zW.regS ?_|refine zk_ ?_|refine ze_ ?_|refine zq_ ?_|(apply zG<;>intro ht));all_goals try simp (disch:=first|omega|(simp only [lens];first|done|omega)) only [go_sem,q2,q4,q5,q95,V8.c8]))
     exact⟨0,by omega,8,by omega,rfl,rfl⟩
    ·repeat' (first|apply zs_|apply zb_|apply zc_|apply zt_ rfl|apply zf_ rfl|(apply zd_ rfl<;>intro ht<;>try omega)|((first|apply zr_|apply zk_|apply ze_|apply zq_|(apply zG<;>intro ht));all_goals try simp (disch:=first|omega|(simp only [lens];first|done|omega)) only [go_sem,q2,q4,q5,q95,V8.c8]))
     exact DownV.pure hw (z19 _ rfl)
end
end Am
end Go.Proofs.YtkiimfgjimoffaaDoor
section
/- Contracts of library functions, laid off the kit's shelf for this program. -/
namespace Go.Proofs
open Go.Shelf
def Tryd.lays169_ren : Go.Shelf.Ren := ⟨fun | 169 => 66 | n => n, fun | 70 => 108 | 9 => 9 | 0 => 0 | 72 => 110 | 37 => 78 | 127 => 131 | 3 => 3 | 5 => 5 | n => n, fun | n => n⟩
theorem Tryd.lays169 : Go.Proofs.Lays.n169 Tryd.prog Tryd.lays169_ren := {
 mixed := by kernel_rfl
 f169 := Tryd.func66.trans (congrArg some (by kernel_rfl))
 t0 := Tryd.underlying0
 a0 := Tryd.isAgg0
 z0 := Tryd.sizeOf0
 v0 := Tryd.zeroValue0
 t3 := Tryd.underlying3
 a3 := Tryd.isAgg3
 z3 := Tryd.sizeOf3
 v3 := Tryd.zeroValue3
 t9 := Tryd.underlying9
 a9 := Tryd.isAgg9
 z9 := Tryd.sizeOf9
 v9 := Tryd.zeroValue9
 t37 := Tryd.underlying78
 a37 := Tryd.isAgg78
 z37 := Tryd.sizeOf78
 v37 := Tryd.zeroValue78
 t70 := Tryd.underlying108
 a70 := Tryd.isAgg108
 z70 := Tryd.sizeOf108
 v70 := Tryd.zeroValue108
 t72 := Tryd.underlying110
 a72 := Tryd.isAgg110
 z72 := Tryd.sizeOf110
 v72 := Tryd.zeroValue110
 t127 := Tryd.underlying131
 a127 := Tryd.isAgg131
 z127 := Tryd.sizeOf131
 v127 := Tryd.zeroValue131 }
theorem Tryd.Builder_Extra_169 : Builder.Extra Tryd.prog Tryd.lays169_ren := {
 sizeBuilder := by kernel_rfl
 liesBuilder := by kernel_rfl
 t5 := Tryd.underlying5
 a5 := Tryd.isAgg5
 z5 := Tryd.sizeOf5
 v5 := Tryd.zeroValue5
 infoByte := by kernel_rfl
 cellsByte := by kernel_rfl
 sizeByte := by kernel_rfl
 neB5 := by decide }
open Go.RowKit in
theorem Tryd.Builder_String_any (B b : Nat) (l : List UInt8) (w : World) (h : Lib.IsBuilder 110 5 B b (Lib.byteCells l) w) (hBw : B <= w.heap.size) :
  Calls Tryd.prog 66 #[.pointer (some ⟨b, 0, none⟩)] w fun e w' => e = .returned (.string ⟨l.toArray⟩) /\ Below B w w' := Any.Builder_String_any Tryd.lays169 Tryd.Builder_Extra_169 B b l w h hBw
def Tryd.lays105_ren : Go.Shelf.Ren := ⟨fun | 105 => 59 | 212 => 77 | 99 => 78 | 165 => 79 | 166 => 65 | 170 => 80 | 169 => 66 | 263 => 88 | 264 => 89 | 206 => 90 | 240 => 84 | 241 => 91 | 276 => 92 | 277 => 97 | n => n, fun | 9 => 9 | 3 => 3 | 4 => 4 | 20 => 20 | 0 => 0 | 46 => 88 | 109 => 125 | 5 => 5 | 72 => 110 | 76 => 114 | 51 => 79 | 146 => 135 | 53 => 84 | 148 => 137 | 70 => 108 | 37 => 78 | 75 => 112 | 127 => 131 | 164 => 139 | 80 => 116 | n => n, fun | n => n⟩
theorem Tryd.lays105 : Go.Proofs.Lays.n105 Tryd.prog Tryd.lays105_ren := {
 mixed := by kernel_rfl
 f99 := Tryd.func78.trans (congrArg some (by kernel_rfl))
 f105 := Tryd.func59.trans (congrArg some (by kernel_rfl))
 f165 := Tryd.func79.trans (congrArg some (by kernel_rfl))
 f166 := Tryd.func65.trans (congrArg some (by kernel_rfl))
 f169 := Tryd.func66.trans (congrArg some (by kernel_rfl))
 f170 := Tryd.func80.trans (congrArg some (by kernel_rfl))
 f206 := Tryd.func90.trans (congrArg some (by kernel_rfl))
 f212 := Tryd.func77.trans (congrArg some (by kernel_rfl))
 f240 := Tryd.func84.trans (congrArg some (by kernel_rfl))
 f241 := Tryd.func91.trans (congrArg some (by kernel_rfl))
 f263 := Tryd.func88.trans (congrArg some (by kernel_rfl))
 f264 := Tryd.func89.trans (congrArg some (by kernel_rfl))
 f276 := Tryd.func92.trans (congrArg some (by kernel_rfl))
 f277 := Tryd.func97.trans (congrArg some (by kernel_rfl))
 t0 := Tryd.underlying0
 a0 := Tryd.isAgg0
 z0 := Tryd.sizeOf0
 v0 := Tryd.zeroValue0
 t3 := Tryd.underlying3
 a3 := Tryd.isAgg3
 z3 := Tryd.sizeOf3
 v3 := Tryd.zeroValue3
 t4 := Tryd.underlying4
 a4 := Tryd.isAgg4
 z4 := Tryd.sizeOf4
 v4 := Tryd.zeroValue4
 t5 := Tryd.underlying5
 a5 := Tryd.isAgg5
 z5 := Tryd.sizeOf5
 v5 := Tryd.zeroValue5
 t9 := Tryd.underlying9
 a9 := Tryd.isAgg9
 z9 := Tryd.sizeOf9
 v9 := Tryd.zeroValue9
 t20 := Tryd.underlying20
 a20 := Tryd.isAgg20
 z20 := Tryd.sizeOf20
 v20 := Tryd.zeroValue20
 t37 := Tryd.underlying78
 a37 := Tryd.isAgg78
 z37 := Tryd.sizeOf78
 v37 := Tryd.zeroValue78
 t46 := Tryd.underlying88
 a46 := Tryd.isAgg88
 z46 := Tryd.sizeOf88
 v46 := Tryd.zeroValue88
 t51 := Tryd.underlying79
 a51 := Tryd.isAgg79
 z51 := Tryd.sizeOf79
 v51 := Tryd.zeroValue79
 t53 := Tryd.underlying84
 a53 := Tryd.isAgg84
 z53 := Tryd.sizeOf84
 v53 := Tryd.zeroValue84
 t70 := Tryd.underlying108
 a70 := Tryd.isAgg108
 z70 := Tryd.sizeOf108
 v70 := Tryd.zeroValue108
 t72 := Tryd.underlying110
 a72 := Tryd.isAgg110
 z72 := Tryd.sizeOf110
 v72 := Tryd.zeroValue110
 t75 := Tryd.underlying112
 a75 := Tryd.isAgg112
 z75 := Tryd.sizeOf112
 v75 := Tryd.zeroValue112
 t76 := Tryd.underlying114
 a76 := Tryd.isAgg114
 z76 := Tryd.sizeOf114
 v76 := Tryd.zeroValue114
 t109 := Tryd.underlying125
 a109 := Tryd.isAgg125
 z109 := Tryd.sizeOf125
 v109 := Tryd.zeroValue125
 t127 := Tryd.underlying131
 a127 := Tryd.isAgg131
 z127 := Tryd.sizeOf131
 v127 := Tryd.zeroValue131
 t146 := Tryd.underlying135
 a146 := Tryd.isAgg135
 z146 := Tryd.sizeOf135
 v146 := Tryd.zeroValue135
 t148 := Tryd.underlying137
 a148 := Tryd.isAgg137
 z148 := Tryd.sizeOf137
 v148 := Tryd.zeroValue137
 t164 := Tryd.underlying139
 a164 := Tryd.isAgg139
 z164 := Tryd.sizeOf139
 v164 := Tryd.zeroValue139 }
theorem Tryd.Builder_Extra_105 : Builder.Extra Tryd.prog Tryd.lays105_ren := {
 sizeBuilder := by kernel_rfl
 liesBuilder := by kernel_rfl
 t5 := Tryd.underlying5
 a5 := Tryd.isAgg5
 z5 := Tryd.sizeOf5
 v5 := Tryd.zeroValue5
 infoByte := by kernel_rfl
 cellsByte := by kernel_rfl
 sizeByte := by kernel_rfl
 neB5 := by decide }
open Go.RowKit Go.Lib in
theorem Tryd.strings_Repeat (s : ByteArray) (c : Nat) (w : World) (hc : c <= 9223372036854775807) (hlen : s.size * c <= 140737488355328) :
  Calls Tryd.prog 59 #[.string s, .int .i64 c] w fun e w' => e = .returned (.string ⟨(Lib.repeatL s.data.toList c).toArray⟩) /\ Below w.heap.size w w' := Any.strings_Repeat Tryd.lays105 Tryd.Builder_Extra_105 s c w hc hlen
end Go.Proofs
end
namespace Go.Proofs.YtkiimfgjimoffaaDoor
namespace Am
section
open Go.RowKit
def z14(l:List UInt8):List AV:=l.map fun b=> .int .u8 b.toNat
theorem z36{k:Nat}:∀(l:List UInt8),RLs k (z14 l)
 | []=>by simp [z14,RLs]
 | _::l=>by have:=z36 (k:=k) l;simp only [z14]at this;simp [z14,RLs,RL,this]
theorem Rel.below{C:Ctx}{γ:Places}{O:Store}{w w':World}(h:Rel C γ O w)(hb:Below w.heap.size w w'):Step γ w γ w'/\ Rel C γ O w':=by
 have hs:Step γ w γ w':=⟨fun r fl pl h=>⟨fl,h⟩,hb.size,fun b hb' _=>hb.block b hb',fun r pl h=> .inl ⟨r,pl,h,rfl⟩,hb.os,hb.tape,hb.output⟩
 refine⟨hs,h.len,fun r o hr=> ?_,h.dead,h.inj,fun g cs hg=>(h.gl g cs hg).mono hs⟩
 obtain⟨pl,h1,h2⟩:=h.alive r o hr
 exact⟨pl,h1,h2.mono hs (hb.block _ h2.lt)⟩
theorem ACallsTo.of_calls{C:Ctx}{f:FuncId}{args:List AV}{O:Store}{v:AV}(hc:(cFn C f).isSome=true)
  (h:∀(γ:Places) (w:World) (cargs:List Value),VRt γ w args cargs->Calls C.P f cargs.toArray w fun e w'=>∃cv,e=.returned cv/\ VR γ w' v cv/\ Below w.heap.size w w'):ACallsTo C f args O v O:=by
 obtain⟨e,hc⟩:=Option.isSome_iff_exists.1 hc
 simp only [cFn,Option.bind_eq_some_iff]at hc
 obtain⟨fn,hf,hc⟩:=hc
 split at hc
 ·cases hc
 ·rename_i hname
  simp only [Option.bind_eq_some_iff,Option.map_eq_some_iff]at hc
  obtain⟨c,hb,_⟩:=hc
  intro γ w cargs hR ha
  left
  constructor
  ·have h1:fn.name ≠ "runtime.NumGoroutine" :=by simpa using hname
   simp [callFunc,hf,h1,hb]
  ·refine(h γ w cargs ha).mono ?_
   rintro e w' ⟨cv,rfl,hv,hbl⟩
   obtain⟨s1,s2⟩:=hR.below hbl
   exact⟨cv,γ,rfl,s1,s2,hv⟩
theorem zq6(b:UInt8):∀n,Lib.repeatL [b] n=List.replicate n b:=by
 intro n
 induction n with
 |zero=>simp [Lib.repeatL]
 |succ n ih=>simp [Lib.repeatL,List.replicate_succ]at ih ⊢ <;>simp [ih]
theorem zht(O:Store)(b:UInt8)(c:Nat)(h:c<=1000000):ACallsTo TC 59 [.str [b],.int .i64 c] O (.str (List.replicate c b)) O:=by
 refine ACallsTo.of_calls (by kernel_rfl) ?_
 intro γ w cargs ha
 simp only [VRt,VR]at ha
 obtain⟨_,_,rfl,rfl,_,_,rfl,rfl,rfl⟩:=ha
 refine(Tryd.strings_Repeat ⟨[b].toArray⟩ c w (by omega) (by simp [ByteArray.size];omega)).mono ?_
 rintro e w' ⟨rfl,hb⟩
 refine⟨_,rfl,?_,hb⟩
 simp only [VR]
 rw [zq6]
theorem zm6(O:Store)(s:List UInt8)(h:s.length<1000000000000):ACallsTo TC 41 [.str s] O (.str (padS s)) O:=by
 refine ACallsTo.of_body q9ok (by simp) fun hw _=> ?_
 obtain⟨z,hz⟩:∃z:Nat,z=(119-s.length%64)%64:=⟨_,rfl⟩
 have hz64:z<64:=by rw [hz];exact Nat.mod_lt _ (by decide)
 have hz2:(119-(s.length:Int)%64)%64=z:=by omega
 have hp:putS ((s.length:Int)*8) 8=be 8 (s.length*8):=by
  unfold putS
  rw [if_pos (by omega)]
  rfl
 have hpl:(be 8 (s.length*8)).length=8:=z42 _ _
 repeat' (first|apply zs_|apply zb_|apply zc_|apply zt_ rfl|apply zf_ rfl|(apply zd_ rfl<;>intro ht<;>try omega)|((first|apply zr_|apply zk_|apply ze_|apply zq_|(apply callW.mk_pu;(first|exact(fun _=>zht _ 0 z (by omega))|exact(fun _=>z67 _ ((s.length:Int)*8) 8 (by omega) (by omega))))|(apply callW.za;(first|exact(zht _ 0 z (by omega))|exact(z67 _ ((s.length:Int)*8) 8 (by omega) (by omega))))|(apply zG<;>intro ht));all_goals try simp (disch:=first|omega|(simp only [lens];first|done|omega)) only [go_sem,hz2,hp,hpl,List.length_replicate]))
 have e:s++([128]++(List.replicate z 0++be 8 (s.length*8)))=padS s:=by unfold padS;rw [<-hz];rfl
 rw [show s++128::(List.replicate z 0++be 8 (s.length*8))=padS s by unfold padS;rw [<-hz]]
 exact DownV.same hw (z19 _ rfl)
theorem zpl(s:List UInt8):(padS s).length%64=0/\ (padS s).length<s.length+80:=by
 unfold padS
 simp only [List.length_append,List.length_cons,List.length_replicate,z42]
 omega
theorem zme:zcb=v0.c8:=rfl
theorem put4(x:W):putS (x.toNat:Int) 4=be 4 x.toNat:=by
 unfold putS
 rw [if_pos (by omega)]
 rfl
theorem mix_c8(O:Store)(v:V8)(s:List UInt8)(h:64<=s.length)(hs:s.length<9223372036854775808):ACallsTo TC 42 [.agg v.c8,.str s] O (.agg (mixS v s).c8) O:=mix_to O v s h hs
theorem zm9{l:List W}{j:Nat}(h:j<l.length):(l.flatMap fun x=>be 4 x.toNat).take (4*j)++be 4 (l[j]).toNat=(l.flatMap fun x=>be 4 x.toNat).take (4*(j+1)):=by
 induction l generalizing j with
 |nil=>simp at h
 |cons x l ih=>
  have hb:(be 4 x.toNat).length=4:=z42 _ _
  rw [List.flatMap_cons]
  cases j with
  |zero=>
   simp only [Nat.mul_zero,List.take_zero,List.nil_append,List.getElem_cons_zero,Nat.zero_add,Nat.mul_one]
   rw [List.take_append_of_le_length (by omega),List.take_of_length_le (by omega)]
  |succ j=>
   simp only [List.length_cons]at h
   have e1:(be 4 x.toNat).take (4*(j+1))=be 4 x.toNat:=List.take_of_length_le (by omega)
   have e2:(be 4 x.toNat).take (4*(j+1+1))=be 4 x.toNat:=List.take_of_length_le (by omega)
   rw [List.getElem_cons_succ,List.take_append,List.take_append,e1,e2,hb,List.append_assoc,show 4*(j+1)-4=4*j by omega,show 4*(j+1+1)-4=4*(j+1)by omega,ih (by omega)]
theorem z8m(v:V8):(outV v).length=32:=by
 simp [outV,V8.l,z42]
def z3s(v:V8)(j:Nat):List AV:=z14 ((outV v).take (4*j))++List.replicate (32-4*j) (.int .u8 0)
theorem z1a(l:List UInt8):(z14 l).length=l.length:=by simp [z14]
theorem zmp(v:V8){j:Nat}(h:j<=8):(z3s v j).length=32:=by
 simp [z3s,z1a,z8m];omega
theorem zf0(l:List UInt8):(zo l).flatten=z14 l:=by
 induction l with
 |nil=>rfl
 |cons b l ih=>simp [zo,z14,B8]at ih ⊢;exact ih
theorem zmq(v:V8){j:Nat}(h:j<8):z1b (z3s v j) (4*j) (z14 (be 4 (wat v.l j).toNat))=z3s v (j+1):=by
 have hl:v.l.length=8:=rfl
 have e:=zm9 (l:=v.l) (j:=j) (by omega)
 have hw:wat v.l j=v.l[j]'(by omega):=by simp [wat,List.getD_eq_getElem?_getD,List.getElem?_eq_getElem (show j<v.l.length by omega)]
 have h1:(z14 ((outV v).take (4*j))).length=4*j:=by rw [z1a,List.length_take,z8m];omega
 have h2:(z14 (be 4 (wat v.l j).toNat)).length=4:=by rw [z1a,z42]
 unfold z1b z3s
 rw [List.take_append_of_le_length (by omega),List.take_of_length_le (by omega),List.drop_append,List.drop_of_length_le (by omega),h1,h2,List.nil_append]
 rw [show 4*j+4-4*j=4 by omega,List.drop_replicate,show 32-4*j-4=32-4*(j+1)by omega]
 congr 1
 unfold z14
 rw [<-List.map_append]
 congr 1
 rw [hw]
 exact e
theorem z7g(O:Store)(s:List UInt8)(h:s.length<100000000000):ACallsTo TC 21 [.str s] O (.agg (z14 (shaS s))) O:=by
 obtain⟨p,hp⟩:∃p,p=padS s:=⟨_,rfl⟩
 obtain⟨hp1,hp2⟩:=zpl s
 rw [<-hp]at hp1 hp2
 obtain⟨N,hN⟩:∃N,p.length=64*N:=⟨p.length/64,by omega⟩
 obtain⟨V,hV⟩:∃V,V=blocks N v0 p:=⟨_,rfl⟩
 have hS:shaS s=outV V:=by
  unfold shaS
  rw [<-hp,hV]
  have:p.length/64=N:=by omega
  rw [this]
 rw [hS]
 have hf:=fun O=>zm6 O s (by omega)
 rw [<-hp]at hf
 refine ACallsTo.of_body q8ok (by simp) fun hw _=> ?_
 repeat' (first|apply zs_|apply zb_|apply zc_|apply zt_ rfl|apply zf_ rfl|(apply zd_ rfl<;>intro ht<;>try omega)|((first|apply zr_|apply zk_|apply ze_|apply zq_|(apply callW.mk_pu;(first|exact(fun _=>hf _)))|(apply callW.za;(first|exact(hf _)))|(apply zG<;>intro ht));all_goals try simp (disch:=first|omega|(simp only [lens];first|done|omega)) only [go_sem,zme,V8.c8]))
 refine zW.loop (fun m Z O'=>∃u q,q.length=64*m/\ q.length<=p.length/\ blocks m u q=V/\ Z 2=.ptr O.length 0 0/\ Z 3=.ptr (O.length+1) 0 0/\ Z 4=.str q/\ O'=O++ [some [z14 (List.replicate 32 0)],some [u.c8]]) N ?_ ?_
 ·exact⟨v0,p,hN,Nat.le_refl _,hV.symm,by simp (disch:=first|omega|(simp only [lens];first|done|omega)) only [go_sem],by simp (disch:=first|omega|(simp only [lens];first|done|omega)) only [go_sem],by simp (disch:=first|omega|(simp only [lens];first|done|omega)) only [go_sem],rfl⟩
 ·rintro m Z O' ⟨u,q,hq,hqp,hb,q2,q3,q4,rfl⟩
  have hz:(z14 (List.replicate 32 0)).length=32:=rfl
  cases m with
  |succ m=>
   have hne:(q==[])=false:=by cases q with
    |nil=>simp at hq
    |cons a q=>rfl
   have hmix:=fun O=>mix_c8 O u (q.take 64) (by rw [List.length_take];omega) (by rw [List.length_take];omega)
   obtain⟨M,hM⟩:∃M,M=mixS u (q.take 64):=⟨_,rfl⟩
   rw [<-hM]at hmix
   have hb2:blocks m M (q.drop 64)=V:=by rw [hM];exact hb
   unfold V8.c8 at hmix
   repeat' (first|refine zs_ ?_|refine zb_ ?_|refine zc_ ?_|refine zt_ rfl ?_|refine zf_ rfl ?_|(refine zd_ rfl (fun ht=> ?_) (fun ht=> ?_)<;>try (exfalso;omega))|((first|refine zW.regS ?_|refine zk_ ?_|refine ze_ ?_|refine zq_ ?_|(apply callW.mk_pu;(first|exact(fun _=>hmix _)))|(apply callW.za;(first|exact(hmix _)))|(apply zG<;>intro ht));all_goals try simp (disch:=first|omega|(simp only [lens];first|done|omega)) only [go_sem,q2,q3,q4,hne,V8.c8]))
   refine⟨m,by omega,M,q.drop 64,by rw [List.length_drop];omega,by rw [List.length_drop];omega,hb2,rfl,rfl⟩
  |zero=>
   have hq0:q=[]:=List.eq_nil_of_length_eq_zero (by omega)
   subst hq0
   have hu:u=V:=hb
   subst hu
   repeat' (first|apply zs_|apply zb_|apply zc_|apply zt_ rfl|apply zf_ rfl|(apply zd_ rfl<;>intro ht<;>try omega)|((first|apply zr_|apply zk_|apply ze_|apply zq_|(apply zG<;>intro ht));all_goals try simp (disch:=first|omega|(simp only [lens];first|done|omega)) only [go_sem,q2,q3,q4,V8.c8]))
   refine zW.loop (fun m Z O'=>∃j:Nat,m+j=8/\ Z 2=.ptr O.length 0 0/\ Z 5=.ptr (O.length+2) 0 0/\ Z 19=.agg u.c8/\ Z 20=.int .i64 j/\ O'=O++ [some [z14 (List.replicate 32 0)],some [u.c8],some [z3s u j]]) 8 ?_ ?_
   ·exact⟨0,by omega,by simp (disch:=first|omega|(simp only [lens];first|done|omega)) only [go_sem,q2],by simp (disch:=first|omega|(simp only [lens];first|done|omega)) only [go_sem],by simp (disch:=first|omega|(simp only [lens];first|done|omega)) only [go_sem];rfl,by simp (disch:=first|omega|(simp only [lens];first|done|omega)) only [go_sem];rfl,rfl⟩
   ·clear q2 q3 q4
    rintro m Z O' ⟨j,hm,q2,q5,q19,q20,rfl⟩
    have hlen:=zmp u (j:=j) (by omega)
    have h8:u.c8.length=8:=rfl
    by_cases hj:j<8
    ·have hst:=zmq u hj
     have hw:=ze6 (w:=u.l) (i:=j) (by simpa [V8.l]using hj)
     rw [ws_l]at hw
     generalize wat u.l j=x at*
     generalize z3s u j=cc at*
     generalize hcc:z3s u (j+1)=cc' at*
     have hx:x.toNat<4294967296:=x.isLt
     have hb4:(be 4 x.toNat).length=4:=z42 _ _
     have ht4:(zo (be 4 x.toNat)).take (32-4*j)=zo (be 4 x.toNat):=List.take_of_length_le (by rw [zu,hb4];omega)
     have hn4:(4*(j:Int)).toNat=4*j:=by omega
     repeat' (first|refine zs_ ?_|refine zb_ ?_|refine zc_ ?_|refine zt_ rfl ?_|refine zf_ rfl ?_|(refine zd_ rfl (fun ht=> ?_) (fun ht=> ?_)<;>try (exfalso;omega))|((first|refine zW.regS ?_|refine zk_ ?_|refine ze_ ?_|refine zq_ ?_|(apply callW.mk_pu;(first|exact(fun _=>z67 _ _ _ (by omega) (by omega))))|(apply callW.za;(first|exact(z67 _ _ _ (by omega) (by omega))))|(apply zG<;>intro ht));all_goals try simp (disch:=first|omega|(simp only [lens];first|done|omega)) only [go_sem,q2,q5,q19,q20,hlen,h8,hw,put4,hb4,ht4,hst,hn4,zf0]))
     unfold z1b at hst
     rw [List.append_assoc]at hst
     exact⟨8-(j+1),by omega,j+1,by omega,by simp,by rw [hst,hcc]⟩
    ·obtain rfl:j=8:=by omega
     have e8:z3s u 8=z14 (outV u):=by
      unfold z3s
      rw [List.take_of_length_le (by rw [z8m];decide)]
      exact List.append_nil _
     have hd:List.drop 32 (z14 (List.replicate 32 0))=[]:=rfl
     have hl:(z14 (outV u)).length=32:=by rw [z1a,z8m]
     rw [e8]at*
     repeat' (first|apply zs_|apply zb_|apply zc_|apply zt_ rfl|apply zf_ rfl|(apply zd_ rfl<;>intro ht<;>try omega)|((first|apply zr_|apply zk_|apply ze_|apply zq_|(apply zG<;>intro ht));all_goals try simp (disch:=first|omega|(simp only [lens];first|done|omega)) only [go_sem,q2,q5,q19,q20,hl,h8,hd]))
     exact DownV.pure hw (z5u (z36 _))
end
end Am
end Go.Proofs.YtkiimfgjimoffaaDoor
section
/- strings.Builder: the contracts of copyCheck and String over the abstract store. -/
namespace Go.Proofs
open Go.Shelf Go.RowKit
def Tryd.lays240_ren:Go.Shelf.Ren:=⟨fun| 240=>84| 276=>92|n=>n,fun| 0=>0| 4=>4| 9=>9| 20=>20| 70=>108| 72=>110| 164=>139| 37=>78|n=>n,fun|n=>n⟩
theorem Tryd.lays240:Go.Proofs.Lays.n240 Tryd.prog Tryd.lays240_ren:={
 mixed:=by kernel_rfl
 f240:=Tryd.func84.trans (congrArg some (by kernel_rfl))
 f276:=Tryd.func92.trans (congrArg some (by kernel_rfl))
 t0:=Tryd.underlying0
 a0:=Tryd.isAgg0
 z0:=Tryd.sizeOf0
 v0:=Tryd.zeroValue0
 t4:=Tryd.underlying4
 a4:=Tryd.isAgg4
 z4:=Tryd.sizeOf4
 v4:=Tryd.zeroValue4
 t9:=Tryd.underlying9
 a9:=Tryd.isAgg9
 z9:=Tryd.sizeOf9
 v9:=Tryd.zeroValue9
 t20:=Tryd.underlying20
 a20:=Tryd.isAgg20
 z20:=Tryd.sizeOf20
 v20:=Tryd.zeroValue20
 t70:=Tryd.underlying108
 a70:=Tryd.isAgg108
 z70:=Tryd.sizeOf108
 v70:=Tryd.zeroValue108
 t72:=Tryd.underlying110
 a72:=Tryd.isAgg110
 z72:=Tryd.sizeOf110
 v72:=Tryd.zeroValue110
 t164:=Tryd.underlying139
 a164:=Tryd.isAgg139
 z164:=Tryd.sizeOf139
 v164:=Tryd.zeroValue139 }
theorem Tryd.x72_240:Builder.X72 Tryd.prog Tryd.lays240_ren:={
 sizeBuilder:=by kernel_rfl
 liesBuilder:=by kernel_rfl }
section
variable {P:Program} {Z:Ren}
set_option maxRecDepth 100000 in
theorem Tryd.string_ex(L:Lays.n169 P Z)(X:Builder.Extra P Z)(b g cap:Nat)(cur:Array Value)(p:Value)(fb fg:Nat × Nat)(l:List UInt8)(w:World)(h0:l ≠ [])
  (hbk:w.heap[b]? =some (.cells #[p,.slice (some ⟨g,0,none⟩) l.length cap] (Z.t 72) fb)) (hg:w.heap[g]? =some (.cells cur (Z.t 5) fg)) (hnc:l.length<=cap) (hcs:l.length<=cur.size) (hln:l.length<=9223372036854775807)
  (hcl:∀j x,l[j]? =some x->w.cell? ((⟨g,0,none⟩:Addr).add j)=some (.int .u8 x.toNat)):
  Calls P (Z.f 169) #[.pointer (some ⟨b,0,none⟩)] w fun e w'=>e=.returned (.string ⟨l.toArray⟩)/\ w'=w.drew.freeze ⟨g,0,none⟩ l.length:=by
 have hl0:l.length ≠ 0:=by simpa using h0
 have c1:w.drew.cell? ⟨b,1,none⟩=some (.slice (some ⟨g,0,none⟩) l.length cap):=by
  have:w.drew.heap[b]? =some (.cells #[p,.slice (some ⟨g,0,none⟩) l.length cap] (Z.t 72) fb):=hbk
  rw [Lib.cell_of_heap this];rfl
 have hSD:(Builtin.unsafeSliceData_ #[(Z.t 37)] (Z.t 127) #[.slice (some ⟨g,0,none⟩) l.length cap]).run P w.drew=.ok (.pointer (some ⟨g,0,none⟩)) w.drew:=
  Lib.run_unsafeSliceData_row _ _ _ _ _ _ (by omega)
 have hUS:(Builtin.unsafeString_ #[(Z.t 127),(Z.t 3)] (Z.t 9) #[.pointer (some ⟨g,0,none⟩),.int .i64 l.length]).run P w.drew=.ok (.string ⟨l.toArray⟩) (w.drew.freeze ⟨g,0,none⟩ l.length):=
  Lib.run_unsafeString_row w.drew (Z.t 127) (Z.t 3) (Z.t 9) (Z.t 5) L.t127 X.cellsByte g cur.size (by have hg':w.drew.heap[g]? =some (.cells cur (Z.t 5) fg):=hg;simp [World.shape?,hg']) l h0 hcs hln hcl
 have mixed:=L.mixed
 have t72:=L.t72;have a72:=L.a72;have z72:=L.z72;have v72:=L.v72;have u72:=run_underlying L.t72
 have t70:=L.t70;have a70:=L.a70;have z70:=L.z70;have v70:=L.v70;have u70:=run_underlying L.t70
 have t37:=L.t37;have a37:=L.a37;have z37:=L.z37;have v37:=L.v37;have u37:=run_underlying L.t37
 have t127:=L.t127;have a127:=L.a127;have z127:=L.z127;have v127:=L.v127;have u127:=run_underlying L.t127
 have t3:=L.t3;have a3:=L.a3;have z3:=L.z3;have v3:=L.v3;have u3:=run_underlying L.t3
 have t9:=L.t9;have a9:=L.a9;have z9:=L.z9;have v9:=L.v9;have u9:=run_underlying L.t9
 have t5:=X.t5;have a5:=X.a5;have z5:=X.z5;have v5:=X.v5;have u5:=run_underlying X.t5
 clear hcl hcs hln hg hbk hnc
 go_enter L.f169,Body.n169_ntmps Z
 go_wp2
 go_region_o
 all_goals (go_wp2;go_ret;exact⟨rfl,rfl⟩)
end
end Go.Proofs
namespace Go.Proofs.YtkiimfgjimoffaaDoor
namespace Am
open Go.RowKit
section
variable {C:Ctx} {γ:Places} {O:Store} {w w':World}
theorem Rel.lose(h:Rel C γ O w){r:Nat}{pl:Place}(hr:γ[r]? =some (true,pl))(hsz:w'.heap.size=w.heap.size)(hother:∀b,b ≠ pl.b->w'.heap[b]? =w.heap[b]?)(ho:w'.os=w.os)(ht:w'.tape=w.tape)(hp:w'.output=w.output):
  Step γ w (γ.set r (false,pl)) w'/\ Rel C (γ.set r (false,pl)) (O.set r none) w':=by
 obtain⟨k1,k2⟩:=h.kill hr
 have hrl:r<γ.length:=(List.getElem?_eq_some_iff.1 hr).1
 have hs:Step γ w (γ.set r (false,pl)) w':=⟨k1.keep,by omega,fun b _ hn=>hother b fun e=>hn r pl hr e.symm,fun q x hx=>by
  rcases k1.new q x hx with h|h
  ·exact .inl h
  ·exact .inr h,ho,ht,hp⟩
 refine⟨hs,by simp [h.len],fun q o hq=> ?_,fun q hq=>k2.dead q hq,fun q q' x x' h1 h2 h3=>k2.inj q q' x x' h1 h2 h3,fun g cs hg=>(h.gl g cs hg).mono hs⟩
 by_cases e:r=q
 ·subst e
  rw [List.getElem?_set_self (by rw [<-h.len];exact hrl)]at hq;cases hq
 ·rw [List.getElem?_set_ne e]at hq
  obtain⟨x,h1,h2⟩:=h.alive q o hq
  exact⟨x,by rw [List.getElem?_set_ne e];exact h1,h2.mono hs (hother _ fun e'=>e (h.inj r q pl x hr h1 e'.symm))⟩
theorem Rel.bld_at(hR:Rel C γ O w){r:Nat}{x:AV}(hr:O[r]? =some (some [[.bld r,x]])):∃(pl:Place) (v0 v1:Value) (fz:Nat × Nat),γ[r]? =some (true,pl)/\ pl.base=0/\ pl.esz=2/\ w.heap[pl.b]? =some (.cells #[v0,v1] bldT fz) ∧
  (v0=.pointer none \/v0=.pointer (some ⟨pl.b,0,none⟩))/\ VR γ w x v1/\ (∀k,k<2->(decide (fz.1<=k) && decide (k<fz.2))=false):=by
 obtain⟨pl,hpl,hok⟩:=hR.alive r _ hr
 obtain⟨c,ty,fz,pre,mid,post,q1,q2,q3,q4,q5,q6⟩:=hok.ex
 simp only [List.flatten_cons,List.flatten_nil,List.append_nil,VRs]at q5
 obtain⟨v0,_,rfl,⟨k1,_⟩,v1,_,rfl,⟨k2,_⟩,rfl⟩:=q5
 simp only [VR]at k1
 obtain⟨fl,pl',hpl',⟨e1,e2,e3,e4,e5⟩,k3⟩:=k1
 rw [hpl]at hpl';cases hpl'
 have hty:ty=bldT:=by
  obtain⟨c0,fz0,h0⟩:=hok.tyk
  rw [q1]at h0;cases h0;exact e1
 have hpre:pre=[]:=List.eq_nil_of_length_eq_zero (by omega)
 subst hpre
 have hlen:c.toList.length=2:=by rw [Array.length_toList,q4,e5]
 have hpost:post=[]:=by
  rw [q2]at hlen
  simpa using hlen
 subst hpost
 have hc:c= #[v0,v1]:=by
  apply Array.ext'
  rw [q2];rfl
 subst hc hty
 exact⟨pl,v0,v1,fz,hpl,e2,e3,q1,k3,k2,fun k hk=>q6.1.lt k (by omega)⟩
end
theorem zqt{O:Store}{r:Nat}{x:Option AObj}(h:O[r]? =some x):O.set r x=O:=by
 apply List.ext_getElem?
 intro i
 by_cases e:r=i
 ·subst e
  rw [List.getElem?_set_self (List.getElem?_eq_some_iff.1 h).1,h]
 ·rw [List.getElem?_set_ne e]
theorem zbz(O:Store)(r:Nat)(x:AV)(hr:O[r]? =some (some [[.bld r,x]])):ACallsTo TC 84 [.ptr r 0 0] O (.tup []) O:=by
 obtain⟨e,hc⟩:=Option.isSome_iff_exists.1 (show (cFn TC 84).isSome=true by kernel_rfl)
 simp only [cFn,Option.bind_eq_some_iff]at hc
 obtain⟨fn,hf,hc⟩:=hc
 split at hc
 ·cases hc
 ·rename_i hname
  simp only [Option.bind_eq_some_iff,Option.map_eq_some_iff]at hc
  obtain⟨c,hb,_⟩:=hc
  intro γ w cargs hR ha
  left
  constructor
  ·have h1:fn.name ≠ "runtime.NumGoroutine" :=by simpa using hname
   simp [callFunc,hf,h1,hb]
  ·obtain⟨pl,v0,v1,fz,hpl,hb0,hez,hw,hv0,hv1,hfz⟩:=hR.bld_at hr
   simp only [VRt,VR]at ha
   obtain⟨_,_,rfl,⟨fl,pl',hpl',rfl⟩,rfl⟩:=ha
   rw [hpl]at hpl';cases hpl'
   have ea:pl.base+0*pl.esz+0=0:=by rw [hb0];omega
   rw [ea]
   have hcell:w.cell? ⟨pl.b,0,none⟩=some v0:=by rw [Lib.cell_of_heap hw];rfl
   rcases hv0 with rfl|rfl
   ·refine(Any.Builder_copyCheck_fresh Tryd.lays240 Tryd.x72_240 pl.b w hcell (by simp [World.shape?,hw];rfl) (by simp only [World.frozen?,hw];exact hfz 0 (by omega))).mono ?_
    rintro e w' ⟨rfl,rfl⟩
    obtain⟨w2,k1,k2,k3⟩:=hR.storeElem (i:=0) (off:=0) (vs:=[.bld r]) (vals:=[.pointer (some ⟨pl.b,0,none⟩)]) hr hpl rfl (by simp) (VRs.one ⟨by
     simp only [VR]
     obtain⟨pl2,hpl2,hok⟩:=hR.alive r _ hr
     rw [hpl]at hpl2;cases hpl2
     obtain⟨c,ty,fz2,pre,mid,post,q1,q2,q3,q4,q5,q6⟩:=hok.ex
     simp only [List.flatten_cons,List.flatten_nil,List.append_nil,VRs,VR]at q5
     obtain⟨u0,_,_,⟨⟨fl3,pl3,hpl3,k,_⟩,_⟩,_⟩:=q5
     rw [hpl]at hpl3;cases hpl3
     exact⟨true,pl,hpl,k,.inr rfl⟩,rfl⟩)
    rw [ea]at k1
    have e2:w2=w.setCell ⟨pl.b,0,none⟩ (.pointer (some ⟨pl.b,0,none⟩)):=by
     have hfr:w.frozen? ⟨pl.b,0,none⟩=false:=by simp only [World.frozen?,hw];exact hfz 0 (by omega)
     have hst:(store ⟨pl.b,0,none⟩ (.pointer (some ⟨pl.b,0,none⟩))).run TC.P w=.ok () (w.setCell ⟨pl.b,0,none⟩ (.pointer (some ⟨pl.b,0,none⟩))):=by
      rw [run_store TC.P w _ _ _ rfl,hcell];simp [hfr]
     have:=k1
     simp only [storeCells,z2q,Nat.add_zero,Sem.run_bind,hst,Result.andThen_ok,Sem.run_pure,Result.ok.injEq,true_and]at this
     exact this.symm
    rw [<-e2]
    have e3:O.set r (some ([[.bld r,x]].set 0 (z1b [.bld r,x] 0 [.bld r])))=O:=by
     have:([[AV.bld r,x]]:List (List AV)).set 0 (z1b [.bld r,x] 0 [.bld r])=[[.bld r,x]]:=by simp [z1b]
     rw [this]
     exact zqt hr
    rw [e3]at k3
    exact⟨_,γ,rfl,k2,k3,by simp only [VR];exact⟨[],rfl,VRt.nil⟩⟩
   ·refine(Any.Builder_copyCheck_used Tryd.lays240 Tryd.x72_240 pl.b w hcell).mono ?_
    rintro e w' ⟨rfl,rfl⟩
    exact⟨_,γ,rfl,Step.refl _ _,hR,by simp only [VR];exact⟨[],rfl,VRt.nil⟩⟩
theorem zbi(O:Store)(r rb:Nat)(s:List UInt8)(h0:s ≠ [])(hs:s.length<=1073741824)(h1:O[r]? =some (some [[.bld r,.bsl rb s.length]]))(h2:O[rb]? =some (some (zo s))):
  ACallsTo TC 66 [.ptr r 0 0] O (.str s) (O.set rb none):=by
 obtain⟨e,hc⟩:=Option.isSome_iff_exists.1 (show (cFn TC 66).isSome=true by kernel_rfl)
 simp only [cFn,Option.bind_eq_some_iff]at hc
 obtain⟨fn,hf,hc⟩:=hc
 split at hc
 ·cases hc
 ·rename_i hname
  simp only [Option.bind_eq_some_iff,Option.map_eq_some_iff]at hc
  obtain⟨c,hb,_⟩:=hc
  intro γ w cargs hR ha
  left
  constructor
  ·have h1:fn.name ≠ "runtime.NumGoroutine" :=by simpa using hname
   simp [callFunc,hf,h1,hb]
  ·obtain⟨pl,v0,v1,fz,hpl,hb0,hez,hw,hv0,hv1,hfz⟩:=hR.bld_at h1
   simp only [VRt,VR]at ha
   obtain⟨_,_,rfl,⟨fl,pl',hpl',rfl⟩,rfl⟩:=ha
   rw [hpl]at hpl';cases hpl'
   have ea:pl.base+0*pl.esz+0=0:=by rw [hb0];omega
   rw [ea]
   simp only [VR]at hv1
   obtain⟨fl2,pb,cap,hpb,⟨t1,t2,t3⟩,rfl,hso⟩:=hv1
   obtain⟨pb',hpb',hok⟩:=hR.alive rb _ h2
   rw [hpb]at hpb';cases hpb'
   obtain⟨cur,ty,fg,pre,mid,post,q1,q2,q3,q4,q5,q6⟩:=hok.ex
   have hty:ty=u8T:=by
    obtain⟨c0,fz0,h0⟩:=hok.tyk
    rw [q1]at h0;cases h0;exact t1
   subst hty
   have hpre:pre=[]:=List.eq_nil_of_length_eq_zero (by omega)
   subst hpre
   rw [zbl]at q5
   have hml:=q5.length
   rw [List.length_map]at hml
   have hcs:s.length<=cur.size:=by
    rw [<-Array.length_toList,q2];simp;omega
   refine(Tryd.string_ex Tryd.lays169 Tryd.Builder_Extra_169 pl.b pb.b cap cur v0 fz fg s w h0 hw q1 hso.le hcs (by omega) (fun j x hj=> ?_)).mono ?_
   ·obtain⟨v,k1,k2⟩:=q5.get (i:=j) (a:=B8 x) (by rw [List.getElem?_map,hj];rfl)
    have hv:=k2.1
    simp only [B8,VR]at hv
    rw [z2q,Nat.zero_add,Lib.cell_of_heap q1]
    show cur[j]? =_
    rw [<-Array.getElem?_toList,q2,List.nil_append,List.getElem?_append_left (by
     rcases Nat.lt_or_ge j mid.length with h|h
     ·exact h
     ·simp [List.getElem?_eq_none h]at k1),k1,hv]
   ·rintro e w' ⟨rfl,rfl⟩
    have hz:s.length ≠ 0:=by simpa using h0
    obtain⟨k1,k2⟩:=hR.lose (w':=w.drew.freeze ⟨pb.b,0,none⟩ s.length) hpb (by show (World.freeze w.drew _ _).heap.size=w.drew.heap.size;unfold World.freeze;rw [if_neg hz];exact Array.size_modify) (fun b hb=>by
     show (World.freeze w.drew _ _).heap[b]? =w.drew.heap[b]?
     unfold World.freeze
     rw [if_neg hz]
     simp only [Array.getElem?_modify]
     rw [if_neg (fun e=>hb e.symm)]) (by unfold World.freeze;rw [if_neg hz];rfl) (by unfold World.freeze;rw [if_neg hz];rfl) (by unfold World.freeze;rw [if_neg hz];rfl)
    exact⟨_,_,rfl,k1,k2,by simp only [VR]⟩
end Am
end Go.Proofs.YtkiimfgjimoffaaDoor
end
namespace Go.Proofs.YtkiimfgjimoffaaDoor
namespace Am
section
theorem zjt{k:Nat}(l:List UInt8):RLss k (zo l):=by
 induction l with
 |nil=>simp [zo,RLss]
 |cons b l ih=>simp only [zo,B8]at ih;simp [zo,RLss,B8,RLs,RL,ih]
def OwnB(O O':Store)(v:AV)(b:List UInt8):Prop:=∃news j,O'=O++news/\ v=.sl (O.length+j) 0 b.length none 1/\ news[j]? =some (some (zo b))
theorem OwnB.down{O O':Store}{v:AV}{b:List UInt8}(hw:Wf O.length O)(h:OwnB O O' v b):DownV O.length v O' (.vsl 1 (zo b) false) O:=by
 obtain⟨news,j,rfl,rfl,h⟩:=h
 have hl:(zo b).length=b.length:=zu b
 have e:((zo b).drop 0).take b.length=zo b:=by rw [List.drop_zero,List.take_of_length_le (by omega)]
 have:=DownV.froze (off:=0) (len:=b.length) (esz:=1) (lim:=none) hw h (by omega) (by rw [e];exact zjt b)
 rw [e]at this
 exact this
theorem OwnB.app{O O':Store}{r n:Nat}{b c:List UInt8}(h:OwnB O O' (.sl r 0 n none 1) b):OwnB O (O'.set r none++ [some (zo c)]) (.sl O'.length 0 c.length none 1) c:=by
 obtain⟨news,j,rfl,e,h⟩:=h
 simp only [AV.sl.injEq,true_and,and_true]at e
 obtain⟨rfl,rfl⟩:=e
 refine⟨news.set j none++ [some (zo c)],news.length,?_,by simp,?_⟩
 ·rw [List.set_append_right _ _ (by omega),Nat.add_sub_cancel_left,List.append_assoc]
 ·rw [List.getElem?_append_right (by simp)];simp
theorem OwnB.get{O O':Store}{v:AV}{b:List UInt8}(h:OwnB O O' v b):∃r,v=.sl r 0 b.length none 1/\ O'[r]? =some (some (zo b)):=by
 obtain⟨news,j,rfl,rfl,h⟩:=h
 exact⟨_,rfl,by rw [List.getElem?_append_right (by omega),Nat.add_sub_cancel_left];exact h⟩
end
section
def z32:List AV:=z14 (List.replicate 32 0)
section
variable {k:Nat} {Q:AExit->Env->Store->Prop} {Z:Env} {τ:Store} {u:V8} {p:List UInt8} {n:Nat}
end
end
section
section
variable {k:Nat} {Q:AExit->Env->Store->Prop} {Z:Env} {τ:Store} {u:V8} {p:List UInt8} {n:Nat}
end
end
section

end
section
set_option maxRecDepth 10000
def qcr0:yW:=[
 yI 1 (.box (.t 0)),
 yI 2 (.alloc zZ0)]
def qcr1:yW:=[
 yL 4 false 1 1,
 yI 5 (.lenSl (.t 4)),
 yJ 6 .eql 5 .i64 0]
def qcr2:yW:=[
 yI 7 (.call (.v (.fn 21 [])) [(.v (.str []))]),
 yS 32 2 7]
def qcc3:yX:=yq qcr2 .ret
def qcc4:yX:=.cond (.t 6) qcc3 .skip
def qcc5:yX:=yq qcr1 qcc4
def qcr6:yW:=[
 yI 3 (.alloc [.nilfn])]
def qcr7:yW:=[
 yI 8 (.mkfn 26 [(.t 1),(.t 3)]),
 yS 1 3 8]
def qcr8:yW:=[
 yL 9 false 1 3,
 yL 10 false 1 1,
 yI 11 (.lenSl (.t 10)),
 yI 12 (.call (.t 9) [(.v (.int .i64 0)),(.t 11)]),
 yS 32 2 12]
def qcc9:yX:=yq qcr8 .ret
def qcc10:yX:=yq qcr7 qcc9
def qcc11:yX:=yq qcr6 qcc10
def qcc12:yX:=.seq qcc5 qcc11
def qcc13:yX:=yq qcr0 qcc12
attribute [go_sem] qcr0 qcr1 qcr2 qcr6 qcr7 qcr8
theorem qcok:cFn TC 11=some (13,[.c 2 true 32],qcc13):=by kernel_rfl
def qdr0:yW:=[
 yI 2 (.box (.t 0)),
 yI 3 (.box (.t 1)),
 yI 4 (.alloc zZ0)]
def qdr1:yW:=[
 ⟨some 5,none,.rd,.load true 32 (.t 2)⟩,
 ⟨some 6,none,.ef,.call (.v (.fn 48 [])) [(.t 5)]⟩,
 yI 7 (.bin .add .none (.v (.str [1])) (.t 6)),
 ⟨some 8,none,.rd,.load true 32 (.t 3)⟩,
 yC 9 48 8,
 yB 10 .add 7 9,
 yC 11 21 10,
 yS 32 4 11]
def qdc2:yX:=yq qdr1 .ret
def qdc3:yX:=yq qdr0 qdc2
attribute [go_sem] qdr0 qdr1
theorem qdok:cFn TC 28=some (12,[.c 4 true 32],qdc3):=by kernel_rfl
def qer0:yW:=[
 yK 2 .i64 0]
def qer1:yW:=[
 yM 4 0,
 yJ 5 .lss 4 .i64 2]
def qer2:yW:=[
 yK 2 .i64 0]
def qec3:yX:=yq qer2 .ret
def qec4:yX:=.cond (.t 5) qec3 .skip
def qec5:yX:=yq qer1 qec4
def qer6:yW:=[
 yK 3 .i64 1]
def qer7:yW:=[
 yM 6 3,
 yM 7 0,
 yM 8 3,
 yB 9 .sub 7 8,
 yB 10 .lss 6 9]
def qec8:yX:=.cond (.t 10) .skip (.exit 0)
def qec9:yX:=yq qer7 qec8
def qer10:yW:=[
 yM 11 3,
 yJ 12 .mul 11 .i64 2,
 yM 3 12]
def qec11:yX:=.block 1 (.reg qer10)
def qec12:yX:=.seq qec9 qec11
def qec13:yX:=.loop qec12
def qer14:yW:=[
 yM 13 3,
 yM 2 13]
def qec15:yX:=yq qer14 .ret
def qec16:yX:=.seq (.block 0 qec13) qec15
def qec17:yX:=yq qer6 qec16
def qec18:yX:=.seq qec5 qec17
def qec19:yX:=yq qer0 qec18
attribute [go_sem] qer0 qer1 qer2 qer6 qer7 qer10 qer14
theorem qeok:cFn TC 27=some (14,[.t 2],qec19):=by kernel_rfl
def qfr0:yW:=[
 yI 6 (.alloc zZ0)]
def qfr1:yW:=[
 yM 8 1,
 yM 9 0,
 yB 10 .sub 8 9,
 yC 11 27 10,
 yM 7 11]
def qfr2:yW:=[
 yM 12 7,
 yJ 13 .eql 12 .i64 0]
def qfr3:yW:=[
 yL 14 false 1 2,
 yM 15 0,
 yI 16 (.iaSl 32 (.t 14) (.t 15)),
 yL 17 true 32 16,
 yS 32 6 17]
def qfc4:yX:=yq qfr3 .ret
def qfc5:yX:=.cond (.t 13) qfc4 .skip
def qfc6:yX:=yq qfr2 qfc5
def qfr7:yW:=[
 ⟨some 18,none,.rd,.load false 1 (.t 3)⟩,
 yM 19 0,
 yM 20 0,
 yM 21 7,
 yB 22 .add 20 21,
 ⟨some 23,none,.ef,.call (.t 18) [(.t 19),(.t 22)]⟩,
 ⟨some 24,none,.rd,.load false 1 (.t 3)⟩,
 yM 25 0,
 yM 26 7,
 yB 27 .add 25 26,
 yM 28 1,
 yI 29 (.call (.t 24) [(.t 27),(.t 28)]),
 yD 30 28 23 29,
 yS 32 6 30]
def qfc8:yX:=yq qfr7 .ret
def qfc9:yX:=.seq qfc6 qfc8
def qfc10:yX:=yq qfr1 qfc9
def qfc11:yX:=yq qfr0 qfc10
attribute [go_sem] qfr0 qfr1 qfr2 qfr3 qfr7
theorem qfok:cFn TC 26=some (31,[.c 6 true 32],qfc11):=by kernel_rfl
def qgr0:yW:=[
 yI 1 (.box (.t 0)),
 yI 2 (.mv (.v (.str [])))]
def qgr1:yW:=[
 yI 3 (.slice (.arr 32 1) (.t 1) none none none),
 yI 4 (.conv .str (.t 3)),
 yM 2 4]
def qgc2:yX:=yq qgr1 .ret
def qgc3:yX:=yq qgr0 qgc2
attribute [go_sem] qgr0 qgr1
theorem qgok:cFn TC 48=some (5,[.t 2],qgc3):=by kernel_rfl
end
section
theorem zdo(s:List UInt8):(shaS s).length=32:=z8m _
def z25(a b:List UInt8):List UInt8:=shaS (1::(a++b))
theorem zcu(a b:List UInt8):(z25 a b).length=32:=zdo _
theorem zbu:∀(l:List UInt8),chunk 1 l.length (z14 l)=zo l
 | []=>rfl
 |b::l=>by
  have:=zbu l
  simp only [z14,zo]at this
  simp [z14,zo,chunk,B8]at this ⊢
  exact this
theorem z87(O:Store)(h:List UInt8)(hl:h.length=32):ACallsTo TC 48 [.agg (z14 h)] O (.str h) O:=by
 refine ACallsTo.of_body qgok (by simp) fun hw _=> ?_
 have h1:=z1a h
 have hc:=zbu h
 rw [hl]at h1 hc
 repeat' (first|apply zs_|apply zb_|apply zc_|apply zt_ rfl|apply zf_ rfl|(apply zd_ rfl<;>intro ht<;>try omega)|((first|apply zr_|apply zk_|apply ze_|apply zq_|(apply zG<;>intro ht));all_goals try simp (disch:=first|omega|(simp only [lens];first|done|omega)) only [go_sem,h1,hc]))
 exact DownV.pure hw (z19 _ rfl)
def OwnN(sz:Nat)(τ O':Store)(v:AV)(es:List (List AV)):Prop:=
 ∃news,O'=τ++news/\ ((es=[]/\ v=.nilsl) \/ ∃j,es ≠ []/\ v=.sl (τ.length+j) 0 es.length none sz/\ news[j]? =some (some es))
theorem OwnN.len{sz:Nat}{τ O':Store}{v:AV}{es:List (List AV)}(h:OwnN sz τ O' v es):z1e v=some (.int .i64 es.length):=by
 obtain⟨news,rfl,⟨rfl,rfl⟩| ⟨j,_,rfl,h⟩⟩:=h<;>rfl
theorem OwnN.appB{sz:Nat}{τ O':Store}{v:AV}{es ys:List (List AV)}(h:OwnN sz τ O' v es):z2i O' v ys=aApp O' 1 v ys:=by
 obtain⟨news,rfl,⟨rfl,rfl⟩| ⟨j,_,rfl,h⟩⟩:=h<;>rfl
theorem OwnN.nil{sz:Nat}{τ news:Store}:OwnN sz τ (τ++news) .nilsl []:=⟨news,rfl,.inl ⟨rfl,rfl⟩⟩
theorem OwnN.ext{sz:Nat}{τ O':Store}{v:AV}{es:List (List AV)}(h:OwnN sz τ O' v es):∃news,O'=τ++news:=by
 obtain⟨news,h,_⟩:=h;exact⟨news,h⟩
theorem OwnN.more{sz:Nat}{τ O':Store}{v:AV}{es:List (List AV)}(h:OwnN sz τ O' v es)(y:Store):OwnN sz τ (O'++y) v es:=by
 obtain⟨news,rfl,h| ⟨j,h0,rfl,h⟩⟩:=h
 ·exact⟨news++y,by rw [List.append_assoc],.inl h⟩
 ·exact⟨news++y,by rw [List.append_assoc],.inr ⟨j,h0,rfl,by rw [List.getElem?_append_left (List.getElem?_eq_some_iff.1 h).1];exact h⟩⟩
theorem OwnN.app{sz:Nat}{τ O':Store}{v:AV}{es ys:List (List AV)}(h:OwnN sz τ O' v es)(h0:ys.length ≠ 0)(hl:es.length+ys.length<=1073741824):
  ∃v' O'',aApp O' sz v ys=some (v',O'')/\ OwnN sz τ O'' v' (es++ys):=by
 have hne:es++ys ≠ []:=fun e=>h0 (by rw [(List.append_eq_nil_iff.1 e).2];rfl)
 obtain⟨news,rfl,⟨rfl,rfl⟩| ⟨j,_,rfl,h⟩⟩:=h
 ·refine⟨_,_,by rw [z7y,if_neg h0,if_pos (by simpa using hl)],news++ [some ys],by rw [List.append_assoc],.inr ⟨news.length,hne,by simp,by rw [List.getElem?_append_right (Nat.le_refl _)];simp⟩⟩
 ·have hj:=(List.getElem?_eq_some_iff.1 h).1
  have hg:(τ++news)[τ.length+j]? =some (some es):=by rw [List.getElem?_append_right (by omega),Nat.add_sub_cancel_left];exact h
  refine⟨.sl (τ++news).length 0 (es.length+ys.length) none sz,(τ++news).set (τ.length+j) none++ [some (es++ys)],?_,news.set j none++ [some (es++ys)],?_,.inr ⟨news.length,hne,by simp,by rw [List.getElem?_append_right (by simp)];simp⟩⟩
  ·rw [z7z,if_neg h0,hg]
   simp only
   rw [if_pos ⟨trivial,by omega,by omega⟩,if_neg (by omega),List.drop_zero,List.take_of_length_le (Nat.le_refl _)]
  ·rw [List.set_append_right _ _ (by omega),Nat.add_sub_cancel_left,List.append_assoc]
theorem OwnN.sl{sz:Nat}{τ O':Store}{v:AV}{es:List (List AV)}(h:OwnN sz τ O' v es)(h0:es ≠ []):∃r,v=.sl r 0 es.length none sz/\ O'[r]? =some (some es)/\ τ.length<=r:=by
 obtain⟨news,rfl,⟨rfl,rfl⟩| ⟨j,_,rfl,h⟩⟩:=h
 ·exact absurd rfl h0
 ·exact⟨_,rfl,by rw [List.getElem?_append_right (by omega),Nat.add_sub_cancel_left];exact h,by omega⟩
def SlV(sz:Nat)(es:List (List AV))(x:AV):Prop:=(x=.nilsl/\ es=[]) \/ ∃ex,x=.vsl sz es ex
theorem SlV.len{sz:Nat}{es:List (List AV)}{x:AV}(h:SlV sz es x):z1e x=some (.int .i64 es.length):=by
 rcases h with⟨rfl,rfl⟩| ⟨ex,rfl⟩<;>rfl
theorem SlV.vsl{sz:Nat}{es:List (List AV)}{x:AV}(h:SlV sz es x)(h0:0<es.length):∃ex,x=.vsl sz es ex:=by
 rcases h with⟨rfl,rfl⟩|h
 ·simp at h0
 ·exact h
def z18(sz:Nat)(es:List (List AV)):AV:=if es=[]then .nilsl else .vsl sz es false
theorem z40(sz:Nat)(es:List (List AV)):SlV sz es (z18 sz es):=by
 unfold z18
 split
 ·rename_i h;exact .inl ⟨rfl,h⟩
 ·exact .inr ⟨false,rfl⟩
def ownV(O:Store)(sz:Nat)(es:List (List AV)):AV:=if es=[]then .nilsl else .sl O.length 0 es.length none sz
def ownS(O:Store)(es:List (List AV)):Store:=if es=[]then O else O++ [some es]
theorem z74(O:Store)(sz:Nat)(es:List (List AV)):OwnN sz O (ownS O es) (ownV O sz es) es:=by
 unfold ownV ownS
 by_cases h:es=[]
 ·rw [if_pos h,if_pos h];exact⟨[],by simp,.inl ⟨h,rfl⟩⟩
 ·rw [if_neg h,if_neg h];exact⟨[some es],rfl,.inr ⟨0,h,rfl,rfl⟩⟩
theorem OwnN.froze{sz:Nat}{O O':Store}{v:AV}{es:List (List AV)}(hw:Wf O.length O)(h:OwnN sz O O' v es)(hr:RLss O.length es):DownV O.length v O' (z18 sz es) O:=by
 unfold z18
 obtain⟨news,rfl,⟨rfl,rfl⟩| ⟨j,h0,rfl,h⟩⟩:=h
 ·rw [if_pos rfl];exact DownV.pure hw (z19 _ rfl)
 ·have e:(es.drop 0).take es.length=es:=by rw [List.drop_zero,List.take_of_length_le (Nat.le_refl _)]
  have:=DownV.froze (off:=0) (len:=es.length) (esz:=sz) (lim:=none) hw h (by omega) (by rw [e];exact hr)
  rw [e]at this
  rw [if_neg h0];exact this
theorem OwnN.own{sz:Nat}{O O':Store}{v:AV}{es:List (List AV)}(hw:Wf O.length O)(h:OwnN sz O O' v es)(hr:RLss O.length es):DownV O.length v O' (ownV O sz es) (ownS O es):=by
 unfold ownV ownS
 obtain⟨news,rfl,⟨rfl,rfl⟩| ⟨j,h0,rfl,h⟩⟩:=h
 ·rw [if_pos rfl,if_pos rfl];exact DownV.pure hw (z19 _ rfl)
 ·rw [if_neg h0,if_neg h0];exact DownV.own (off:=0) (len:=es.length) (esz:=sz) (lim:=none) hw h hr
theorem ze2(O:Store)(a b:List UInt8)(ha:a.length=32)(hb:b.length=32):ACallsTo TC 28 [.agg (z14 a),.agg (z14 b)] O (.agg (z14 (z25 a b))) O:=by
 refine ACallsTo.of_body qdok (by simp) fun hw _=> ?_
 have h1:=z1a a
 have h2:=z1a b
 have h3:=z1a (z25 a b)
 rw [ha]at h1
 rw [hb]at h2
 rw [zcu]at h3
 obtain⟨n,hn⟩:∃n,n=z25 a b:=⟨_,rfl⟩
 have hs:∀O,ACallsTo TC 21 [.str (1::(a++b))] O (.agg (z14 n)) O:=fun O=>by rw [hn];exact z7g O _ (by simp;omega)
 rw [<-hn]at h3 ⊢
 repeat' (first|refine zs_ ?_|refine zb_ ?_|refine zc_ ?_|refine zt_ rfl ?_|refine zf_ rfl ?_|(refine zd_ rfl (fun ht=> ?_) (fun ht=> ?_)<;>try (exfalso;omega))|((first|refine zW.regS ?_|refine zk_ ?_|refine ze_ ?_|refine zq_ ?_|(apply callW.mk_pu;(first|exact(fun _=>z87 _ _ ha)|exact(fun _=>z87 _ _ hb)|exact(fun _=>hs _)))|(apply callW.za;(first|exact(z87 _ _ ha)|exact(z87 _ _ hb)|exact(hs _)))|(apply zG<;>intro ht));all_goals try simp (disch:=first|omega|(simp only [lens];first|done|omega)) only [go_sem,h1,h2,h3]))
 exact DownV.pure hw (z5u (z36 _))
end
section
def zz(n:Nat):Nat:=if n<2 then 0 else 2^Nat.log2 (n-1)
theorem z5z{n:Nat}(h:2<=n):zz n<n/\ n<=2*zz n/\ 0<zz n:=by
 unfold zz
 rw [if_neg (by omega)]
 have h1:=Nat.log2_self_le (n:=n-1) (by omega)
 have h2:=Nat.lt_log2_self (n:=n-1)
 rw [Nat.pow_succ]at h2
 have h3:0<2^Nat.log2 (n-1):=Nat.pow_pos (by decide)
 omega
theorem zdt{n j:Nat}(h1:2^j<n)(h2:n<=2^(j+1)):zz n=2^j:=by
 have h3:0<2^j:=Nat.pow_pos (by decide)
 unfold zz
 rw [if_neg (by omega)]
 have h4:=Nat.log2_self_le (n:=n-1) (by omega)
 have h5:=Nat.lt_log2_self (n:=n-1)
 congr 1
 generalize Nat.log2 (n-1)=i at*
 have a1:2^j<2^(i+1):=by omega
 have a2:2^i<2^(j+1):=by omega
 have b1:=(Nat.pow_lt_pow_iff_right (by decide:1<2)).1 a1
 have b2:=(Nat.pow_lt_pow_iff_right (by decide:1<2)).1 a2
 omega
theorem zb6(O:Store)(n:Nat)(h:n<1000000000000):ACallsTo TC 27 [.int .i64 n] O (.int .i64 (zz n)) O:=by
 refine ACallsTo.of_body qeok (by simp) fun hw _=> ?_
 by_cases h2:n<2
 ·have e:zz n=0:=by unfold zz;rw [if_pos h2]
  rw [e]
  repeat' (first|apply zs_|apply zb_|apply zc_|apply zt_ rfl|apply zf_ rfl|(apply zd_ rfl<;>intro ht<;>try omega)|((first|apply zr_|apply zk_|apply ze_|apply zq_|(apply zG<;>intro ht));all_goals try simp (disch:=first|omega|(simp only [lens];first|done|omega)) only [go_sem]))
  exact DownV.same hw (z19 _ rfl)
 ·repeat' (first|apply zs_|apply zb_|apply zc_|apply zt_ rfl|apply zf_ rfl|(apply zd_ rfl<;>intro ht<;>try omega)|((first|apply zr_|apply zk_|apply ze_|apply zq_|(apply zG<;>intro ht));all_goals try simp (disch:=first|omega|(simp only [lens];first|done|omega)) only [go_sem]))
  refine zW.loop (fun m Z O'=>∃j:Nat,m=n-2^j/\ 2^j<n/\ Z 0=.int .i64 n/\ Z 3=.int .i64 ((2^j:Nat):Int)/\ O'=O) (n-1) ?_ ?_
  ·exact⟨0,rfl,by omega,by simp (disch:=first|omega|(simp only [lens];first|done|omega)) only [go_sem],by simp (disch:=first|omega|(simp only [lens];first|done|omega)) only [go_sem];rfl,rfl⟩
  ·rintro m Z O' ⟨j,hm,hj,q0,q3,rfl⟩
   have hp:0<2^j:=Nat.pow_pos (by decide)
   have hs:2^(j+1)=2^j*2:=Nat.pow_succ ..
   generalize hk:2^j=k at*
   by_cases hc:(k:Int)<n-k
   ·repeat' (first|apply zs_|apply zb_|apply zc_|apply zt_ rfl|apply zf_ rfl|(apply zd_ rfl<;>intro ht<;>try omega)|((first|apply zr_|apply zk_|apply ze_|apply zq_|(apply zG<;>intro ht));all_goals try simp (disch:=first|omega|(simp only [lens];first|done|omega)) only [go_sem,q0,q3]))
    exact⟨n-k*2,by omega,j+1,by rw [hs],by omega,by rw [hs];rfl⟩
   ·have e:zz n=k:=by rw [<-hk];exact zdt (by omega) (by omega)
    rw [e]
    repeat' (first|apply zs_|apply zb_|apply zc_|apply zt_ rfl|apply zf_ rfl|(apply zd_ rfl<;>intro ht<;>try omega)|((first|apply zr_|apply zk_|apply ze_|apply zq_|(apply zG<;>intro ht));all_goals try simp (disch:=first|omega|(simp only [lens];first|done|omega)) only [go_sem,q0,q3]))
    exact DownV.same hw (z19 _ rfl)
def z6d:Nat->List (List UInt8)->List UInt8
 | 0,_=>[]
 | _+1,[]=>shaS []
 | _+1,[h]=>h
 |f+1,a::b::l=>z25 (z6d f ((a::b::l).take (zz (l.length+2)))) (z6d f ((a::b::l).drop (zz (l.length+2))))
theorem zat:∀(f g:Nat) (l:List (List UInt8)),l.length<f->l.length<g->z6d f l=z6d g l
 | 0,_,_,h,_=>by omega
 | _+1,0,_,_,h=>by omega
 |f+1,g+1,[],_,_=>rfl
 |f+1,g+1,[_],_,_=>rfl
 |f+1,g+1,a::b::l,h,h'=>by
  obtain⟨s1,s2,s3⟩:=z5z (n:=l.length+2) (by omega)
  simp only [List.length_cons]at h h'
  simp only [z6d]
  rw [zat f g ((a::b::l).take (zz (l.length+2))) (by rw [List.length_take];simp;omega) (by rw [List.length_take];simp;omega),
   zat f g ((a::b::l).drop (zz (l.length+2))) (by rw [List.length_drop];simp;omega) (by rw [List.length_drop];simp;omega)]
def z1y(l:List (List UInt8)):List UInt8:=z6d (l.length+1) l
theorem zqd:z1y []=shaS []:=rfl
theorem zde{l:List (List UInt8)}(h:2<=l.length):z1y l=z25 (z1y (l.take (zz l.length))) (z1y (l.drop (zz l.length))):=by
 match l,h with
 |a::b::l,_=>
  obtain⟨s1,s2,s3⟩:=z5z (n:=l.length+2) (by omega)
  unfold z1y
  simp only [z6d,List.length_cons]
  congr 1
  ·refine zat _ _ _ ?_ (Nat.lt_succ_self _)
   rw [List.length_take]
   simp only [List.length_cons]
   omega
  ·refine zat _ _ _ ?_ (Nat.lt_succ_self _)
   rw [List.length_drop]
   simp only [List.length_cons]
   omega
def H32(l:List (List UInt8)):Prop:=∀h ∈ l,h.length=32
theorem H32.take{l:List (List UInt8)}(h:H32 l)(n:Nat):H32 (l.take n):=fun x hx=>h x (List.mem_of_mem_take hx)
theorem H32.drop{l:List (List UInt8)}(h:H32 l)(n:Nat):H32 (l.drop n):=fun x hx=>h x (List.mem_of_mem_drop hx)
theorem z8s{l:List (List UInt8)}(h:H32 l):(z1y l).length=32:=by
 match l,h with
 | [],_=>exact zdo _
 | [x],h=>exact h x (by simp)
 |a::b::l,_=>rw [zde (by simp)];exact zcu _ _
end
section
def z27(l:List (List UInt8)):List (List AV):=l.map z14
theorem zgd(l:List (List UInt8)):(z27 l).length=l.length:=by simp [z27]
theorem zdb{k:Nat}:∀(l:List (List UInt8)),RLss k (z27 l)
 | []=>by simp [z27,RLss]
 |h::l=>by have:=zdb (k:=k) l;simp only [z27]at this;simp [z27,RLss,this,z36]
theorem zjx(hs:List (List UInt8))(hH:H32 hs)(hl:hs.length<1000000000)(ex:Bool)(r1 r3:Nat):
  ∀(d:Nat) (O:Store) (a:Nat),0<d->a+d<=hs.length->O[r1]? =some (some [[.vsl 32 (z27 hs) ex]])->O[r3]? =some (some [[.fn 26 [.ptr r1 0 0,.ptr r3 0 0]]])->
   ACallsTo TC 26 [.int .i64 a,.int .i64 ((a+d:Nat):Int),.ptr r1 0 0,.ptr r3 0 0] O (.agg (z14 (z1y ((hs.drop a).take d)))) O:=by
 intro d
 induction d using Nat.strongRecOn with
 | _ d ih=>
  intro O a h0 had hg1 hg3
  have hr1:=(List.getElem?_eq_some_iff.1 hg1).1
  have hr3:=(List.getElem?_eq_some_iff.1 hg3).1
  obtain⟨L,hL⟩:∃L,L=(hs.drop a).take d:=⟨_,rfl⟩
  have hLl:L.length=d:=by rw [hL,List.length_take,List.length_drop];omega
  have hLH:H32 L:=by rw [hL];exact(hH.drop a).take d
  have hn:=z8s hLH
  have hc:=z1a (z1y L)
  rw [hn]at hc
  rw [<-hL]
  have hsub:((a+d:Nat):Int)-a=d:=by omega
  by_cases h1:d=1
  ·have e0:zz d=0:=by unfold zz;rw [if_pos (by omega)]
   have hsp:=fun O=>zb6 O d (by omega)
   rw [e0]at hsp
   obtain⟨x,hx⟩:∃x,hs[a]? =some x:=⟨_,List.getElem?_eq_getElem (by omega)⟩
   have hgr:(z27 hs)[a]? =some (z14 x):=by simp [z27,hx]
   have eL:z1y L=x:=by
    have:L=[x]:=by
     rw [hL,h1]
     apply List.ext_getElem?
     intro i
     cases i with
     |zero=>simp [List.getElem?_take,List.getElem?_drop,hx]
     |succ i=>simp [List.getElem?_take]
    rw [this];rfl
   rw [eL]at hc ⊢
   have hrl:=zgd hs
   clear eL
   generalize z27 hs=rows at*
   refine ACallsTo.of_body qfok (by simp) fun hw _=> ?_
   repeat' (first|apply zs_|apply zb_|apply zc_|apply zt_ rfl|apply zf_ rfl|(apply zd_ rfl<;>intro ht<;>try omega)|((first|apply zr_|apply zk_|apply ze_|apply zq_|(apply callW.mk_pu;(first|exact(fun _=>hsp _)))|(apply callW.za;(first|exact(hsp _)))|(apply zG<;>intro ht));all_goals try simp (disch:=first|omega|(simp only [lens];first|done|omega)) only [go_sem,hsub,hg1,hgr,hc]))
   exact DownV.pure hw (z5u (z36 _))
  ·obtain⟨s1,s2,s3⟩:=z5z (n:=d) (by omega)
   have hsp:=fun O=>zb6 O d (by omega)
   have eL:=zde (l:=L) (by omega)
   rw [hLl]at eL
   have t1:L.take (zz d)=(hs.drop a).take (zz d):=by rw [hL,List.take_take,Nat.min_eq_left (by omega)]
   have t2:L.drop (zz d)=(hs.drop (a+zz d)).take (d-zz d):=by rw [hL,List.drop_take,List.drop_drop]
   generalize hk:zz d=k at*
   have i1:=fun y=>ih k (by omega) (O++y) a (by omega) (by omega) (by rw [gapp hr1];exact hg1) (by rw [gapp hr3];exact hg3)
   have i2:=fun y=>ih (d-k) (by omega) (O++y) (a+k) (by omega) (by omega) (by rw [gapp hr1];exact hg1) (by rw [gapp hr3];exact hg3)
   rw [<-t1]at i1
   rw [<-t2]at i2
   rw [show a+k+(d-k)=a+d by omega]at i2
   have n1:=z8s (hLH.take k)
   have n2:=z8s (hLH.drop k)
   have e1:((a:Int)+k)=((a+k:Nat):Int):=by omega
   rw [eL]at hc ⊢
   generalize z1y (L.take k)=A at*
   generalize z1y (L.drop k)=B at*
   have k0:¬(k:Int)=0:=by omega
   refine ACallsTo.of_body qfok (by simp) fun hw _=> ?_
   repeat' (first|refine zs_ ?_|refine zb_ ?_|refine zc_ ?_|refine zt_ rfl ?_|refine zf_ rfl ?_|(refine zd_ rfl (fun ht=> ?_) (fun ht=> ?_)<;>try (exfalso;omega))|((first|refine zW.regS ?_|refine zk_ ?_|refine ze_ ?_|refine zq_ ?_|(apply callW.mk_pu;(first|exact(fun _=>hsp _)|exact(fun _=>i1 _)|exact(fun _=>i2 _)|exact(fun _=>ze2 _ _ _ n1 n2)))|(apply callW.za;(first|exact(hsp _)|exact(i1 _)|exact(i2 _)|exact(ze2 _ _ _ n1 n2)))|(apply zG<;>intro ht));all_goals try simp (disch:=first|omega|(simp only [lens];first|done|omega)) only [go_sem,hsub,hg1,hg3,hc,e1]))
   exact DownV.pure hw (z5u (z36 _))
theorem zsy(O:Store)(hs:List (List UInt8))(x:AV)(hx:SlV 32 (z27 hs) x)(hH:H32 hs)(hl:hs.length<1000000000):ACallsTo TC 11 [x] O (.agg (z14 (z1y hs))) O:=by
 have hc:=z1a (z1y hs)
 rw [z8s hH]at hc
 have hrl:=zgd hs
 by_cases h0:hs=[]
 ·subst h0
  have hx':=hx.len
  unfold z1e at hx'
  refine ACallsTo.of_body qcok (by simp) fun hw _=> ?_
  rw [zqd]at hc ⊢
  rcases hx with⟨rfl,h⟩| ⟨ex,rfl⟩
  ·repeat' (first|apply zs_|apply zb_|apply zc_|apply zt_ rfl|apply zf_ rfl|(apply zd_ rfl<;>intro ht<;>try omega)|((first|apply zr_|apply zk_|apply ze_|apply zq_|(apply callW.mk_pu;(first|exact(fun _=>z7g _ [] (by simp))))|(apply callW.za;(first|exact(z7g _ [] (by simp))))|(apply zG<;>intro ht));all_goals try simp (disch:=first|omega|(simp only [lens];first|done|omega)) only [go_sem,hc]))
   exact DownV.pure hw (z5u (z36 _))
  ·repeat' (first|apply zs_|apply zb_|apply zc_|apply zt_ rfl|apply zf_ rfl|(apply zd_ rfl<;>intro ht<;>try omega)|((first|apply zr_|apply zk_|apply ze_|apply zq_|(apply callW.mk_pu;(first|exact(fun _=>z7g _ [] (by simp))))|(apply callW.za;(first|exact(z7g _ [] (by simp))))|(apply zG<;>intro ht));all_goals try simp (disch:=first|omega|(simp only [lens];first|done|omega)) only [go_sem,hc,hrl]))
   exact DownV.pure hw (z5u (z36 _))
 ·have hpos:0<hs.length:=List.length_pos_iff.2 h0
  obtain⟨ex,rfl⟩:=hx.vsl (by rw [hrl];exact hpos)
  have h1:=zjx hs hH hl ex O.length (O.length+2) hs.length
  refine ACallsTo.of_body qcok (by simp) fun hw _=> ?_
  have h1:=fun O'=>h1 O' 0 hpos (by omega)
  simp only [Nat.zero_add,List.drop_zero,List.take_length]at h1
  generalize z1y hs=R at*
  generalize z27 hs=rows at*
  repeat' (first|apply zs_|apply zb_|apply zc_|apply zt_ rfl|apply zf_ rfl|(apply zd_ rfl<;>intro ht<;>try omega)|((first|apply zr_|apply zk_|apply ze_|apply zq_|(apply callW.mk_pu;(first|exact(fun _=>h1 _ (by simp) (by simp))))|(apply callW.za;(first|exact(h1 _ (by simp) (by simp))))|(apply zG<;>intro ht));all_goals try simp (disch:=first|omega|(simp only [lens];first|done|omega)) only [go_sem,hc,hrl]))
  exact DownV.pure hw (z5u (z36 _))
end
section
def RdSl(O:Store)(sz:Nat)(es:List (List AV))(x:AV):Prop:=
 SlV sz es x \/ ∃r off lim o,x=.sl r off es.length lim sz/\ O[r]? =some (some o)/\ off+es.length<=o.length/\ (o.drop off).take es.length=es
theorem RdSl.of{O:Store}{sz:Nat}{es:List (List AV)}{x:AV}(h:SlV sz es x):RdSl O sz es x:=.inl h
theorem OwnN.rd{sz:Nat}{τ O':Store}{v:AV}{es:List (List AV)}(h:OwnN sz τ O' v es):RdSl O' sz es v:=by
 by_cases h0:es=[]
 ·obtain⟨news,rfl,⟨rfl,rfl⟩| ⟨j,h1,_⟩⟩:=h
  ·exact .inl (.inl ⟨rfl,rfl⟩)
  ·exact absurd h0 h1
 ·obtain⟨r,rfl,hg,_⟩:=h.sl h0
  exact .inr ⟨r,0,none,es,rfl,hg,by omega,by rw [List.drop_zero,List.take_of_length_le (Nat.le_refl _)]⟩
theorem RdSl.app{O y:Store}{sz:Nat}{es:List (List AV)}{x:AV}(h:RdSl O sz es x):RdSl (O++y) sz es x:=by
 rcases h with h| ⟨r,off,lim,o,rfl,hg,h1,h2⟩
 ·exact .inl h
 ·exact .inr ⟨r,off,lim,o,rfl,by rw [gapp (List.getElem?_eq_some_iff.1 hg).1];exact hg,h1,h2⟩
theorem RdSl.len{O:Store}{sz:Nat}{es:List (List AV)}{x:AV}(h:RdSl O sz es x):z1e x=some (.int .i64 es.length):=by
 rcases h with h| ⟨r,off,lim,o,rfl,_⟩
 ·exact h.len
 ·rfl
theorem RdSl.lend{O:Store}{sz:Nat}{es:List (List AV)}{x:AV}(h:RdSl O sz es x)(hr:RLss 0 es):∃x0,SlV sz es x0/\ DR (z3a O) x0 x:=by
 rcases h with h| ⟨r,off,lim,o,rfl,hg,h1,h2⟩
 ·refine⟨x,h,DR.refl (k:=0) (by omega) x ?_⟩
  rcases h with⟨rfl,_⟩| ⟨ex,rfl⟩
  ·simp [RL]
  ·simpa only [RL]using hr
 ·refine⟨.vsl sz es false,.inr ⟨false,rfl⟩,?_⟩
  simp only [DR,z3a]
  exact .inr (.inl ⟨r,off,lim,o,rfl,trivial,hg,h1,by simp,by rw [h2];exact DRss.refl (k:=0) (by omega) es hr⟩)
theorem znv{O:Store}{r i off cap esz:Nat}{o es:List (List AV)}{cs rest:List AV}(hg:O[r]? =some (some o))(hi:o[i]? =some cs)(ho:off<=cs.length)(hd:cs.drop off=es.flatten++rest)(he:∀e ∈ es,e.length=esz)(hn:es.length ≠ 0)(hr:RLss 0 es):
  DR (z3a O) (.vsl esz es false) (.asl r i off es.length cap esz):=by
 simp only [DR,z3a]
 exact .inr (.inr ⟨r,i,off,cap,o,cs,es,rest,rfl,trivial,hg,hi,ho,hd,he,hn,by simp,DRss.refl (k:=0) (by omega) es hr⟩)
theorem rl0{a:AV}(h:RL 0 a)(O:Store):DR (z3a O) a a:=DR.refl (k:=0) (by omega) a h
theorem drs1{D:DC}{a b:AV}(h:DR D a b):DRs D [a] [b]:=by simp only [DRs];exact⟨b,[],rfl,h,rfl⟩
theorem drsc{D:DC}{a b:AV}{l m:List AV}(h:DR D a b)(h2:DRs D l m):DRs D (a::l) (b::m):=by simp only [DRs];exact⟨b,m,rfl,h,h2⟩
theorem zdp(k:Nat):∀(l:List UInt8),shs k (z14 l)=z14 l
 | []=>rfl
 |b::l=>by have:=zdp k l;simp only [z14]at this;simp [z14,shs,sh,this]
theorem zqy(k:Nat)(l:List UInt8):sh k (.agg (z14 l))=.agg (z14 l):=by simp only [sh,zdp]
theorem z8u(k:Nat):shS k []=[]:=rfl
theorem zsx(O:Store)(hs:List (List UInt8))(x:AV)(hx:RdSl O 32 (z27 hs) x)(hH:H32 hs)(hl:hs.length<1000000000):ACallsTo TC 11 [x] O (.agg (z14 (z1y hs))) O:=by
 obtain⟨x0,h0,hd⟩:=hx.lend (zdb hs)
 have:=ACallsTo.lend glok (zsy [] hs x0 h0 hH hl) (drs1 hd)
 rwa [zqy,z8u,List.append_nil]at this
theorem zfi:∀(a b:List UInt8),z1s (z14 a) (z14 b)=decide (a=b)
 | [],[]=>rfl
 | [],_::_=>rfl
 | _::_,[]=>rfl
 |a::l,b::m=>by
  have ih:=zfi l m
  simp only [z14,List.map_cons,z1s,z69]at ih ⊢
  rw [ih,Bool.eq_iff_iff]
  simp [<-UInt8.toNat_inj]
  intro _
  omega
theorem zgj:∀(l:List UInt8),(z14 l).map z1l=List.replicate l.length (some (LK.i .u8))
 | []=>rfl
 | _::l=>by have:=zgj l;simp only [z14]at this;simp [z14,z1l,this,List.replicate_succ]
theorem znm{l:List UInt8}(h:l.length=32):(z14 l).map z1l=(List.replicate 32 (LK.i .u8)).map some:=by rw [zgj,h];rfl
end
section
set_option maxRecDepth 10000

end
section
def subF:Nat->List (List UInt8)->Nat->Bool->List (List UInt8)
 | 0,_,_,_=>[]
 |f+1,l,m,known=>
  if m=l.length then(if known then []else [z1y l])
  else if m<=zz l.length then subF f (l.take (zz l.length)) m known++ [z1y (l.drop (zz l.length))]
  else subF f (l.drop (zz l.length)) (m-zz l.length) false++ [z1y (l.take (zz l.length))]
def subS(l:List (List UInt8))(m:Nat)(known:Bool):List (List UInt8):=subF (l.length+1) l m known
theorem DownV.tup2{k:Nat}{v v2:AV}{O O2:Store}{i:IntKind}{e:Int}(h:DownV k v O v2 O2):DownV k (.tup [v,.int i e]) O (.tup [v2,.int i e]) O2:=by
 obtain⟨D,a,b,c⟩:=h
 exact⟨D,a,b,by simp only [DR,DRs];exact⟨_,rfl,_,_,rfl,c,_,_,rfl,rfl,rfl⟩⟩
theorem zfo{O O':Store}(h:O.length<=O'.length)(h2:∀q,q<O.length->O'[q]? =O[q]?):∃y,O'=O++y:=by
 refine⟨O'.drop O.length,?_⟩
 have e:O'.take O.length=O:=by
  refine List.ext_getElem? fun i=> ?_
  by_cases hi:i<O.length
  ·rw [List.getElem?_take_of_lt hi];exact h2 i hi
  ·rw [List.getElem?_eq_none (by simp;omega),List.getElem?_eq_none (by omega)]
 calc O'=O'.take O.length++O'.drop O.length:=(List.take_append_drop _ _).symm
  _=O++O'.drop O.length:=by rw [e]
def zak(hs:List (List UInt8))(m:Int):List (List UInt8):=if 0<m/\ m<hs.length then subS hs m.toNat true else []
def zaj(hs:List (List UInt8))(m:Int):Int:=if m<0 \/(hs.length:Int)<m then 2 else 0
def ProofP(O:Store)(hs:List (List UInt8))(m:Int)(v:AV)(O':Store):Prop:=∃v2,v=.tup [v2,.int .i64 (zaj hs m)]/\ OwnN 32 O O' v2 (z27 (zak hs m))
theorem ProofP.ex(O:Store)(hs:List (List UInt8))(m:Int):∃v O',ProofP O hs m v O':=⟨_,_,_,rfl,z74 O 32 _⟩
theorem ProofP.none{O:Store}{hs:List (List UInt8)}{m:Int}(h:zak hs m=[]):ProofP O hs m (.tup [.nilsl,.int .i64 (zaj hs m)]) O:=⟨.nilsl,rfl,by rw [h];exact⟨[],by simp,.inl ⟨rfl,rfl⟩⟩⟩
end
section
def OwnA(sz:Nat)(τ O':Store)(v:AV)(es:List (List AV)):Prop:=OwnN sz τ O' v es \/(v=.vsl sz es true/\ es ≠ []/\ ∃news,O'=τ++news)
theorem OwnA.app{sz:Nat}{τ O':Store}{v:AV}{es ys:List (List AV)}(h:OwnA sz τ O' v es)(h0:ys.length ≠ 0)(hl:es.length+ys.length<=1073741824):
  ∃v' O'',aApp O' sz v ys=some (v',O'')/\ OwnN sz τ O'' v' (es++ys):=by
 rcases h with h| ⟨rfl,h1,news,rfl⟩
 ·exact h.app h0 hl
 ·refine⟨.sl (τ++news).length 0 (es.length+ys.length) none sz,(τ++news)++ [some (es++ys)],by rw [z80,if_neg h0,if_pos ⟨rfl,rfl,hl⟩],news++ [some (es++ys)],by rw [List.append_assoc],.inr ⟨news.length,by simp [h1],by simp,by rw [List.getElem?_append_right (Nat.le_refl _)];simp⟩⟩
theorem OwnA.rd{sz:Nat}{τ O':Store}{v:AV}{es:List (List AV)}(h:OwnA sz τ O' v es):RdSl O' sz es v:=by
 rcases h with h| ⟨rfl,_⟩
 ·exact h.rd
 ·exact .inl (.inr ⟨true,rfl⟩)
theorem OwnA.more{sz:Nat}{τ O':Store}{v:AV}{es:List (List AV)}(h:OwnA sz τ O' v es)(y:Store):OwnA sz τ (O'++y) v es:=by
 rcases h with h| ⟨rfl,h1,news,rfl⟩
 ·exact .inl (h.more y)
 ·exact .inr ⟨rfl,h1,news++y,by rw [List.append_assoc]⟩
theorem OwnA.ext{sz:Nat}{τ O':Store}{v:AV}{es:List (List AV)}(h:OwnA sz τ O' v es):∃news,O'=τ++news:=by
 rcases h with h| ⟨_,_,h⟩
 ·exact h.ext
 ·exact h
theorem OwnA.down{sz:Nat}{O O':Store}{v:AV}{es:List (List AV)}(hw:Wf O.length O)(h:OwnA sz O O' v es)(hr:RLss O.length es):∃v2 O2,OwnA sz O O2 v2 es/\ DownV O.length v O' v2 O2:=by
 rcases h with h| ⟨rfl,h1,news,rfl⟩
 ·exact⟨_,_,.inl (z74 O sz es),h.own hw hr⟩
 ·exact⟨_,O,.inr ⟨rfl,h1,[],by simp⟩,DownV.pure hw (by simpa only [RL]using hr)⟩
def OwnQ(kn:Bool)(τ O':Store)(v:AV)(es:List (List AV)):Prop:=OwnA 32 τ O' v es/\ (kn=true->OwnN 32 τ O' v es)
theorem OwnQ.is(kn:Bool)(O:Store)(es:List (List AV)):OwnQ kn O (ownS O es) (ownV O 32 es) es:=⟨.inl (z74 O 32 es),fun _=>z74 O 32 es⟩
theorem OwnQ.down{kn:Bool}{O O':Store}{v:AV}{es:List (List AV)}(hw:Wf O.length O)(h:OwnN 32 O O' v es)(hr:RLss O.length es):∃v2 O2,OwnQ kn O O2 v2 es/\ DownV O.length v O' v2 O2:=
 ⟨_,_,OwnQ.is kn O es,h.own hw hr⟩
end
section
def RefP(O:Store)(hs:List (List UInt8))(m:Int)(v:AV)(O':Store):Prop:=∃v2,v=.tup [v2,.int .i64 (zaj hs m)]/\ OwnA 32 O O' v2 (z27 (zak hs m))
def st(i last:Nat):Nat × Nat:=if h:i%2=1 then st (i/2) (last/2)else(i,last)
termination_by i
decreasing_by omega
def lp(i last:Nat):List Bool:=
 if h:last=0 then []else if i%2=1 then true::lp (i/2) (last/2)else if i=last then lp (i/2) (last/2)else false::lp (i/2) (last/2)
termination_by last
decreasing_by all_goals omega
def run:List Bool->List (List UInt8)->List UInt8->List UInt8->Option (List UInt8 × List UInt8)
 | [],[],a,b=>some (a,b)
 |true::p,h::ps,a,b=>run p ps (z25 h a) (z25 h b)
 |false::p,h::ps,a,b=>run p ps a (z25 b h)
 | _,_,_,_=>none
def chkG(i last:Nat)(o:List UInt8)(ps:List (List UInt8)):Option (List UInt8 × List UInt8):=
 if 0<i then match ps with
  | []=>none
  |h::ps=>run (lp i last) ps h h
 else run (lp i last) ps o o
def chkS(i last:Nat)(o:List UInt8)(ps:List (List UInt8)):Option (List UInt8 × List UInt8):=chkG (st i last).1 (st i last).2 o ps
def fitI(r:Option (List UInt8 × List UInt8))(o nw:List UInt8):Int:=
 match r with
 |some (a,b)=>if a=o/\ b=nw then 0 else 80
 |none=>80
def chkI(m n:Int)(o nw:List UInt8)(ps:List (List UInt8)):Int:=
 if n<0 \/4096<n \/m<0 \/n<m then 2
 else if m=0 then(if ps=[]/\ o=z1y []/\ (0<n \/nw=o)then 0 else 80)
 else if m=n then(if ps=[]/\ o=nw then 0 else 80)
 else fitI (chkS (m.toNat-1) (n.toNat-1) o ps) o nw
end
section
structure ChkM(ia ib:Nat)(O O':Store)(o nw:List UInt8)(pv:AV)(ps:List (List UInt8))(a b:List UInt8):Prop where
 hab:(ia=3/\ ib=4) \/(ia=4/\ ib=3)
 len:O.length+5<=O'.length
 keep:∀q,q<O.length->O'[q]? =O[q]?
 g0:O'[O.length]? =some (some [z14 o])
 g1:O'[O.length+1]? =some (some [z14 nw])
 g2:O'[O.length+2]? =some (some [[pv]])
 g3:O'[O.length+ia]? =some (some [z14 a])
 g4:O'[O.length+ib]? =some (some [z14 b])
 hp:SlV 32 (z27 ps) pv
 ha:a.length=32
 hb:b.length=32
theorem ChkM.app{ia ib:Nat}{O O' y:Store}{o nw:List UInt8}{pv:AV}{ps:List (List UInt8)}{a b:List UInt8}(h:ChkM ia ib O O' o nw pv ps a b):ChkM ia ib O (O'++y) o nw pv ps a b:=by
 have hl:=h.len
 have hab:=h.hab
 refine⟨hab,by rw [List.length_append];omega,fun q hq=> ?_,?_,?_,?_,?_,?_,h.hp,h.ha,h.hb⟩
 ·rw [gapp (by omega)];exact h.keep q hq
 ·rw [gapp (by omega)];exact h.g0
 ·rw [gapp (by omega)];exact h.g1
 ·rw [gapp (by omega)];exact h.g2
 ·rw [gapp (by omega)];exact h.g3
 ·rw [gapp (by omega)];exact h.g4
theorem ChkM.fin{ia ib:Nat}{O O':Store}{o nw:List UInt8}{pv:AV}{ps:List (List UInt8)}{a b:List UInt8}(h:ChkM ia ib O O' o nw pv ps a b)(hw:Wf O.length O){i:Int}:DownV O.length (.int .i64 i) O' (.int .i64 i) O:=by
 have hl:=h.len
 have hab:=h.hab
 obtain⟨y,rfl⟩:=zfo (by omega) h.keep
 exact DownV.pure hw (z19 _ rfl)
theorem SlV.cells{sz:Nat}{es:List (List AV)}{x:AV}(h:SlV sz es x):cellsOf x=some [x]:=by
 rcases h with⟨rfl,rfl⟩| ⟨ex,rfl⟩<;>rfl
end
section

end
section

end
section
theorem split2:zz 2=1:=by decide
theorem split4:zz 4=2:=by decide
theorem ProofP.is{O O':Store}{hs:List (List UInt8)}{m:Int}{v:AV}(h:ProofP O hs m v O'):∃v2,v=.tup [v2,.int .i64 (zaj hs m)]/\ OwnN 32 O O' v2 (z27 (zak hs m)):=h
end
section
theorem RefP.ex(O:Store)(hs:List (List UInt8))(m:Int):∃v O',RefP O hs m v O':=⟨_,_,_,rfl,.inl (z74 O 32 _)⟩
end
section
abbrev Hash:={l:List UInt8//l.length=32}
def hc(h:Hash):List AV:=z14 h.1
def hr(l:List Hash):List (List AV):=l.map hc
def hb(l:List Hash):List (List UInt8):=l.map (·.1)
theorem hb_H(l:List Hash):H32 (hb l):=fun x hx=>by
 simp only [hb,List.mem_map]at hx
 obtain⟨h,_,rfl⟩:=hx
 exact h.2
theorem zcd(l:List Hash):(hb l).length=l.length:=by simp [hb]
theorem zmm(l:List Hash)(n:Nat):(hb l).take n=hb (l.take n):=by simp [hb,List.map_take]
theorem zml(l:List Hash)(n:Nat):(hb l).drop n=hb (l.drop n):=by simp [hb,List.map_drop]
theorem hr_hb(l:List Hash):z27 (hb l)=hr l:=by simp [z27,hb,hr,hc]
@[go_sem] theorem z7 (h:Hash):(hc h).length=32:=by rw [hc,z1a,h.2]
@[go_sem] theorem za7 (h:Hash):(hc h).drop 32=[]:=List.drop_of_length_le (by rw [z7];decide)
@[go_sem] theorem zmo (h:Hash):(hc h).take 32=hc h:=List.take_of_length_le (by rw [z7];decide)
@[go_sem] theorem z8e (h:Hash) (l:List AV):(hc h++l).take 32=hc h:=by
 have:=z7 h
 rw [List.take_append_of_le_length (by omega),zmo]
@[go_sem] theorem zce (h:Hash) (l:List AV):(hc h++l).drop 32=l:=by
 have:=z7 h
 rw [List.drop_append_of_le_length (by omega),za7,List.nil_append]
@[go_sem] theorem hc_eq (a b:Hash):z1s (hc a) (hc b)=decide (a=b):=by
 rw [hc,hc,zfi,Bool.eq_iff_iff]
 simp [Subtype.ext_iff]
@[go_sem] theorem hc_kinds (h:Hash):(hc h).map z1l=(List.replicate 32 (LK.i .u8)).map some:=znm h.2
@[go_sem] theorem z6 (l:List Hash):(hr l).length=l.length:=by simp [hr]
@[go_sem] theorem zgb (l:List Hash) (n:Nat):(hr l).take n=hr (l.take n):=by simp [hr,List.map_take]
@[go_sem] theorem hr_drop (l:List Hash) (n:Nat):(hr l).drop n=hr (l.drop n):=by simp [hr,List.map_drop]
@[go_sem] theorem hr_set (l:List Hash) (i:Nat) (h:Hash):(hr l).set i (hc h)=hr (l.set i h):=by simp [hr,List.map_set]
theorem zg9(a b:List Hash):hr (a++b)=hr a++hr b:=by simp [hr]
theorem zch:hr []=[]:=rfl
theorem z8f(h:Hash)(l:List Hash):hr (h::l)=hc h::hr l:=rfl
theorem hr_nil_iff{l:List Hash}:hr l=[] ↔ l=[]:=by simp [hr]
def zeroH:Hash:=⟨List.replicate 32 0,by simp⟩
def hd(l:List Hash)(i:Nat):Hash:=l.getD i zeroH
@[go_sem] theorem z8g {l:List Hash} {i:Nat} (h:i<l.length):(hr l)[i]? =some (hc (hd l i)):=by
 simp [hr,hd,List.getElem?_map,List.getElem?_eq_getElem h]
theorem z6t{l:List Hash}{i:Nat}(h:i<l.length):hd l i=l[i]:=by simp [hd,h]
theorem z6b{k:Nat}(h:Hash):RLs k (hc h):=z36 _
theorem z33{k:Nat}(l:List Hash):RLss k (hr l):=by rw [<-hr_hb];exact zdb _
theorem zay(k:Nat)(h:Hash):shs k (hc h)=hc h:=zdp k _
def z11(a b:Hash):Hash:=⟨z25 a.1 b.1,zcu _ _⟩
def zx(l:List Hash):Hash:=⟨z1y (hb l),z8s (hb_H l)⟩
def shaH(s:List UInt8):Hash:=⟨shaS s,zdo s⟩
theorem zdd(h:Hash):zx [h]=h:=rfl
theorem z7b{l:List Hash}(h:2<=l.length):zx l=z11 (zx (l.take (zz l.length))) (zx (l.drop (zz l.length))):=by
 apply Subtype.ext
 show z1y (hb l)=z25 (z1y (hb _)) (z1y (hb _))
 rw [<-zmm,<-zml]
 have:=zde (l:=hb l) (by rw [zcd];exact h)
 rwa [zcd]at this
theorem z8z(O:Store)(a b:Hash):ACallsTo TC 28 [.agg (hc a),.agg (hc b)] O (.agg (hc (z11 a b))) O:=ze2 O a.1 b.1 a.2 b.2
theorem z6j(O:Store)(l:List Hash)(x:AV)(hx:RdSl O 32 (hr l) x)(hl:l.length<1000000000):ACallsTo TC 11 [x] O (.agg (hc (zx l))) O:=
 zsx O (hb l) x (by rw [hr_hb];exact hx) (hb_H l) (by rw [zcd];exact hl)
end
section
def z29:Nat->List Hash->Hash->List Hash
 | _,[],h=>[h]
 |m,x::rs,h=>if m%2=1 then z29 (m/2) rs (z11 x h)else h::x::rs
theorem z8p{m:Nat}{rs:List Hash}{h:Hash}(hm:m%2=0):z29 m rs h=h::rs:=by
 cases rs with
 |nil=>rfl
 |cons x rs=>simp [z29,hm]
theorem z8q{m:Nat}{rs:List Hash}{x h:Hash}(hm:m%2=1):z29 m (x::rs) h=z29 (m/2) rs (z11 x h):=by simp [z29,hm]
theorem zd3:∀(f m:Nat) (rs:List Hash) (h:Hash),m+1<2^f->rs.length=pc f m->(z29 m rs h).length=pc f (m+1)
 | 0,_,_,_,h,_=>by simp at h
 |f+1,m,rs,h,hm,hl=>by
  have e2:=Nat.pow_succ (n:=2) (m:=f)
  simp only [pc]at hl ⊢
  by_cases h1:m%2=1
  ·match rs,hl with
   | [],hl=>simp at hl;omega
   |x::rs,hl=>
    simp only [List.length_cons]at hl
    rw [z8q h1,zd3 f (m/2) rs (z11 x h) (by omega) (by omega),show (m+1)/2=m/2+1 by omega]
    omega
  ·rw [z8p (by omega),List.length_cons,show (m+1)/2=m/2 by omega]
   omega
theorem pc_two(j f m:Nat):pc (f+j) (2^j*m)=pc f m:=by
 induction j with
 |zero=>simp
 |succ j ih=>
  have h1:2^(j+1)*m=2*(2^j*m):=by rw [Nat.pow_succ,Nat.mul_comm (2^j) 2,Nat.mul_assoc]
  show pc ((f+j)+1) _=_
  simp only [pc]
  rw [h1,Nat.mul_div_cancel_left _ (by decide),ih];omega
def extR:Nat->List Hash->List Hash->List Hash
 | _,rs,[]=>rs
 |n,rs,x::l=>extR (n+1) (z29 n rs x) l
theorem z8a:∀(n:Nat) (rs l m:List Hash),extR n rs (l++m)=extR (n+l.length) (extR n rs l) m
 |n,rs,[],m=>by simp [extR]
 |n,rs,x::l,m=>by
  simp only [List.cons_append,extR,List.length_cons]
  rw [z8a (n+1),show n+1+l.length=n+(l.length+1)by omega]
theorem za5:∀(f n:Nat) (rs l:List Hash),n+l.length<2^f->rs.length=pc f n->(extR n rs l).length=pc f (n+l.length)
 | _,_,_,[],_,h=>h
 |f,n,rs,x::l,h,hl=>by
  simp only [List.length_cons]at h ⊢
  simp only [extR]
  rw [za5 f (n+1) _ l (by omega) (zd3 f n rs x (by omega) hl),show n+1+l.length=n+(l.length+1)by omega]
def ofR(l:List Hash):List Hash:=extR 0 [] l
theorem z8w(j:Nat):zz (2^(j+1))=2^j:=by
 have:0<2^j:=Nat.pow_pos (by decide)
 exact zdt (by rw [Nat.pow_succ];omega) (Nat.le_refl _)
theorem zqe{j:Nat}{c:List Hash}(h:c.length=2^(j+1)):zx c=z11 (zx (c.take (2^j))) (zx (c.drop (2^j))):=by
 have:0<2^j:=Nat.pow_pos (by decide)
 rw [z7b (by rw [h,Nat.pow_succ];omega),h,z8w]
theorem za6:∀(j q:Nat) (rs c:List Hash),c.length=2^j->extR (2^j*q) rs c=z29 q rs (zx c)
 | 0,q,rs,c,h=>by
  match c,h with
  | [x],_=>simp [extR,zdd]
 |j+1,q,rs,c,h=>by
  have hp:0<2^j:=Nat.pow_pos (by decide)
  have e2:=Nat.pow_succ (n:=2) (m:=j)
  have l1:(c.take (2^j)).length=2^j:=by rw [List.length_take];omega
  have l2:(c.drop (2^j)).length=2^j:=by rw [List.length_drop];omega
  have e:extR (2^(j+1)*q) rs c=extR (2^(j+1)*q) rs (c.take (2^j)++c.drop (2^j)):=by rw [List.take_append_drop]
  rw [e,z8a,l1,show 2^(j+1)*q=2^j*(2*q)by rw [e2,Nat.mul_assoc],za6 j (2*q) rs _ l1,show 2^j*(2*q)+2^j=2^j*(2*q+1)by rw [Nat.mul_add,Nat.mul_one],
   za6 j (2*q+1) _ _ l2,z8p (m:=2*q) (by omega),z8q (by omega),show (2*q+1)/2=q by omega,zqe h]
def z5v:List Hash->Hash
 | []=>shaH []
 |x::rs=>rs.foldl (fun o h=>z11 h o) x
theorem zhm:∀(j f i:Nat) (rs:List Hash) (a x:Hash),i+1<2^j->rs.length=pc f i->j<=f->z29 (2^j+i) (rs++ [a]) x=z29 i rs x++ [a]
 | 0,_,_,_,_,_,h,_,_=>by simp at h
 |j+1,0,_,_,_,_,_,_,h=>by omega
 |j+1,f+1,i,rs,a,x,h,hl,hj=>by
  have e2:=Nat.pow_succ (n:=2) (m:=j)
  simp only [pc]at hl
  by_cases h1:i%2=1
  ·match rs,hl with
   | [],hl=>simp at hl;omega
   |y::rs,hl=>
    simp only [List.length_cons]at hl
    rw [List.cons_append,z8q (by omega),z8q h1,show (2^(j+1)+i)/2=2^j+i/2 by omega]
    exact zhm j f (i/2) rs a _ (by omega) (by omega) (by omega)
  ·rw [z8p (by omega),z8p (by omega)];rfl
theorem zfn:∀(j:Nat) (b:List Hash) (i:Nat) (rs:List Hash) (a:Hash),i+b.length<2^j->rs.length=pc j i->extR (2^j+i) (rs++ [a]) b=extR i rs b++ [a]
 | _,[],_,_,_,_,_=>rfl
 |j,x::b,i,rs,a,h,hl=>by
  simp only [List.length_cons]at h
  simp only [extR]
  rw [zhm j j i rs a x (by omega) hl (Nat.le_refl _),Nat.add_assoc]
  exact zfn j b (i+1) _ a (by omega) (zd3 j i rs x (by omega) hl)
theorem zqb{l:List Hash}{a:Hash}(h:l ≠ []):z5v (l++ [a])=z11 a (z5v l):=by
 match l,h with
 |x::l,_=>simp [z5v]
theorem zgy:∀(f:Nat) (l:List Hash),l.length<f->z5v (ofR l)=zx l
 | 0,_,h=>by omega
 |f+1,[],_=>rfl
 |f+1,x::m,h=>by
  obtain⟨l,hl⟩:∃l,l=x::m:=⟨_,rfl⟩
  have hp:0<l.length:=by rw [hl];simp
  rw [<-hl]at h ⊢
  clear hl
  have h1:=Nat.log2_self_le (n:=l.length) (by omega)
  have h2:=Nat.lt_log2_self (n:=l.length)
  generalize Nat.log2 l.length=j at*
  rw [Nat.pow_succ]at h2
  have hj:0<2^j:=Nat.pow_pos (by decide)
  by_cases h3:l.length=2^j
  ·have:=za6 j 0 [] l h3
   rw [Nat.mul_zero]at this
   rw [ofR,this];rfl
  ·have l1:(l.take (2^j)).length=2^j:=by rw [List.length_take];omega
   have e:ofR l=extR 0 [] (l.take (2^j)++l.drop (2^j)):=by rw [List.take_append_drop];rfl
   have c:=za6 j 0 [] _ l1
   rw [Nat.mul_zero]at c
   have b:=zfn j (l.drop (2^j)) 0 [] (zx (l.take (2^j))) (by rw [List.length_drop];omega) (by rw [zai];rfl)
   have hne:extR 0 [] (l.drop (2^j)) ≠ []:=by
    intro hn
    have:=za5 (j+1) 0 [] (l.drop (2^j)) (by rw [List.length_drop,Nat.pow_succ];omega) (by rw [zai];rfl)
    rw [hn]at this
    exact z8n (j+1) _ (by rw [List.length_drop];omega) (by rw [List.length_drop,Nat.pow_succ];omega) this.symm
   have ih:=zgy f (l.drop (2^j)) (by rw [List.length_drop];omega)
   simp only [ofR]at ih
   rw [e,z8a,l1,c,show z29 0 [] (zx (l.take (2^j)))=[]++ [zx (l.take (2^j))]from rfl,show 0+2^j=2^j+0 by omega,b,zqb hne,ih,z7b (l:=l) (by omega),
    zdt (n:=l.length) (j:=j) (by omega) (by rw [Nat.pow_succ];omega)]
where
 z8n:∀(f n:Nat),0<n->n<2^f->pc f n ≠ 0
  | 0,n,h,h'=>by simp at h';omega
  |f+1,n,h,h'=>by
   rw [Nat.pow_succ]at h'
   simp only [pc]
   by_cases h1:n%2=1
   ·omega
   ·have:=z8n f (n/2) (by omega) (by omega);omega
end
section

end
section
set_option maxRecDepth 10000
def qhr0:yW:=[
 yI 2 (.box (.t 0)),
 yI 3 (.box (.t 1)),
 yI 4 (.alloc [(.int .i64 0),.nilsl]),
 yK 5 .i64 0]
def qhr1:yW:=[
 yL 6 true 2 2,
 yL 7 true 32 3,
 yI 8 (.lit 32 [(.t 7)]),
 yD 9 51 6 8,
 yE 10 0 9,
 yE 11 1 9,
 yS 2 4 10,
 yM 5 11]
def qhc2:yX:=yq qhr1 .ret
def qhc3:yX:=yq qhr0 qhc2
attribute [go_sem] qhr0 qhr1
theorem qhok:cFn TC 31=some (12,[.c 4 true 2,.t 5],qhc3):=by kernel_rfl
def qir0:yW:=[
 yI 2 (.box (.t 0)),
 yI 4 (.alloc [(.int .i64 0),.nilsl]),
 yK 5 .i64 0]
def qir1:yW:=[
 yL 9 true 2 2,
 yC 10 52 9,
 yI 11 (.un .not (.t 10)),
 yM 8 11]
def qir2:yW:=[
 yI 12 (.build [(.int .i64 0),.nilsl] []),
 yS 2 4 12,
 yK 5 .i64 2]
def qic3:yX:=yq qir2 .ret
def qir4:yW:=[
 yM 14 1,
 yI 15 (.lenSl (.t 14)),
 yF 16 0 2,
 yL 17 false 1 16,
 yI 18 (.bin .sub .none (.v (.int .i64 4096)) (.t 17)),
 yB 19 .gtr 15 18,
 yM 13 19]
def qir5:yW:=[
 yI 20 (.build [(.int .i64 0),.nilsl] []),
 yS 2 4 20,
 yK 5 .i64 60]
def qic6:yX:=yq qir5 .ret
def qic7:yX:=.cond (.t 13) qic6 .skip
def qic8:yX:=yq qir4 qic7
def qic9:yX:=.cond (.t 8) qic3 qic8
def qic10:yX:=yq qir1 qic9
def qir11:yW:=[
 yF 21 1 2,
 yL 22 false 1 21,
 yC 23 69 22,
 yF 24 1 2,
 yS 1 24 23]
def qir12:yW:=[
 yM 25 1,
 yI 26 (.lenSl (.t 25)),
 yK 27 .i64 0]
def qir13:yW:=[
 yB 28 .lss 27 26]
def qir14:yW:=[
 yI 29 (.iaSl 32 (.t 25) (.t 27)),
 yL 30 true 32 29,
 yI 7 (.alloc zZ0),
 yS 32 7 30]
def qir15:yW:=[
 yL 31 true 2 2,
 yL 32 true 32 7,
 yI 33 (.call (.v (.fn 70 [])) [(.t 31),(.v (.int .i64 1)),(.t 32)]),
 yS 2 2 33]
def qic16:yX:=yq qir14 (.reg qir15)
def qir17:yW:=[
 yJ 34 .add 27 .i64 1,
 yM 27 34]
def qic18:yX:=.seq (.block 2 qic16) (.reg qir17)
def qic19:yX:=.seq (.cond (.t 28) .skip (.exit 1)) qic18
def qic20:yX:=yq qir13 qic19
def qic21:yX:=.loop qic20
def qic22:yX:=.block 1 qic21
def qic23:yX:=yq qir12 qic22
def qir24:yW:=[
 yL 35 true 2 2,
 yS 2 4 35,
 yK 5 .i64 0]
def qic25:yX:=yq qir24 .ret
def qic26:yX:=.seq qic23 qic25
def qic27:yX:=yq qir11 qic26
def qic28:yX:=.seq (.block 0 qic10) qic27
def qic29:yX:=yq qir0 qic28
attribute [go_sem] qir0 qir1 qir2 qir4 qir5 qir11 qir12 qir13 qir14 qir15 qir17 qir24
theorem qiok:cFn TC 51=some (36,[.c 4 true 2,.t 5],qic29):=by kernel_rfl
def qjr0:yW:=[
 yI 1 (.box (.t 0)),
 yI 2 (.mv (.v (.bool false)))]
def qjr1:yW:=[
 yF 3 0 1,
 yL 4 false 1 3,
 yJ 5 .geq 4 .i64 0,
 yM 6 5,
 yT 7 6 true 0 1,
 yU 8 6 true false 1 7,
 yG 9 6 true (.bin .leq .none (.t 8) (.v (.int .i64 4096))),
 yQ 10 6 9,
 yM 11 10,
 yT 12 11 true 1 1,
 ⟨some 13,some (11,true),.rd,.load false 1 (.t 12)⟩,
 yG 14 11 true (.lenSl (.t 13)),
 yT 15 11 true 0 1,
 ⟨some 16,some (11,true),.rd,.load false 1 (.t 15)⟩,
 ⟨some 17,some (11,true),.ef,.call (.v (.fn 71 [])) [(.t 16)]⟩,
 yG 18 11 true (.bin .eql .none (.t 14) (.t 17)),
 yQ 19 11 18,
 yM 2 19]
def qjc2:yX:=yq qjr1 .ret
def qjc3:yX:=yq qjr0 qjc2
attribute [go_sem] qjr0 qjr1
theorem qjok:cFn TC 52=some (20,[.t 2],qjc3):=by kernel_rfl
def qkr0:yW:=[
 yI 1 (.box (.t 0)),
 yI 2 (.alloc zZ0),
 yK 3 .i64 0]
def qkr1:yW:=[
 yL 9 true 2 1,
 yC 10 52 9,
 yI 11 (.un .not (.t 10)),
 yM 8 11]
def qkr2:yW:=[
 yI 12 (.build zZ0 []),
 yS 32 2 12,
 yK 3 .i64 2]
def qkc3:yX:=yq qkr2 .ret
def qkr4:yW:=[
 yF 14 0 1,
 yL 15 false 1 14,
 yJ 16 .eql 15 .i64 0,
 yM 13 16]
def qkr5:yW:=[
 yI 17 (.call (.v (.fn 11 [])) [(.v .nilsl)]),
 yS 32 2 17,
 yK 3 .i64 0]
def qkc6:yX:=yq qkr5 .ret
def qkc7:yX:=.cond (.t 13) qkc6 .skip
def qkc8:yX:=yq qkr4 qkc7
def qkc9:yX:=.cond (.t 8) qkc3 qkc8
def qkc10:yX:=yq qkr1 qkc9
def qkr11:yW:=[
 yF 18 1 1,
 yL 19 false 1 18,
 yI 20 (.lenSl (.t 19)),
 yJ 21 .sub 20 .i64 1,
 yM 4 21]
def qkr12:yW:=[
 yF 22 1 1,
 yL 23 false 1 22,
 yM 24 4,
 yI 25 (.iaSl 32 (.t 23) (.t 24)),
 yL 26 true 32 25,
 yI 5 (.alloc zZ0),
 yS 32 5 26]
def qkr13:yW:=[
 yF 27 1 1,
 yL 28 false 1 27,
 yM 29 4,
 yI 30 (.slice (.sl 32) (.t 28) none (some (.t 29)) none),
 yC 31 53 30]
def qkr14:yW:=[
 yI 7 (.alloc zZ0),
 yS 32 7 33]
def qkr15:yW:=[
 yL 34 true 32 7,
 yL 35 true 32 5,
 yD 36 28 34 35,
 yS 32 5 36]
def qkc16:yX:=.block 2 (.reg qkr15)
def qkc17:yX:=.rangef (.t 31) [32,33] (.reg qkr14) qkc16
def qkc18:yX:=.block 1 qkc17
def qkc19:yX:=yq qkr13 qkc18
def qkr20:yW:=[
 yL 37 true 32 5,
 yS 32 2 37,
 yK 3 .i64 0]
def qkc21:yX:=yq qkr20 .ret
def qkc22:yX:=.seq qkc19 qkc21
def qkc23:yX:=yq qkr12 qkc22
def qkc24:yX:=yq qkr11 qkc23
def qkc25:yX:=.seq (.block 0 qkc10) qkc24
def qkc26:yX:=yq qkr0 qkc25
attribute [go_sem] qkr0 qkr1 qkr2 qkr4 qkr5 qkr11 qkr12 qkr13 qkr14 qkr15 qkr20
theorem qkok:cFn TC 32=some (38,[.c 2 true 32,.t 3],qkc26):=by kernel_rfl
def qlr0:yW:=[
 yI 2 (.mv (.v .nilsl))]
def qlr1:yW:=[
 yM 3 0,
 yI 4 (.bin .eql .slc (.t 3) (.v .nilsl))]
def qlr2:yW:=[
 yI 2 (.mv (.v .nilsl))]
def qlc3:yX:=yq qlr2 .ret
def qlc4:yX:=.cond (.t 4) qlc3 .skip
def qlc5:yX:=yq qlr1 qlc4
def qlr6:yW:=[
 yI 5 (.lit 32 []),
 yM 6 0,
 yI 7 (.app 32 (.t 5) (.t 6)),
 yM 2 7]
def qlc7:yX:=yq qlr6 .ret
def qlc8:yX:=.seq qlc5 qlc7
def qlc9:yX:=yq qlr0 qlc8
attribute [go_sem] qlr0 qlr1 qlr2 qlr6
theorem qlok:cFn TC 69=some (8,[.t 2],qlc9):=by kernel_rfl
def qmr0:yW:=[
 yI 3 (.box (.t 0)),
 yI 5 (.box (.t 2)),
 yI 6 (.alloc [(.int .i64 0),.nilsl])]
def qmr1:yW:=[
 yF 9 1 3,
 yL 10 false 1 9,
 yC 11 69 10,
 yM 7 11]
def qmr2:yW:=[
 yM 12 1,
 yM 8 12]
def qmr3:yW:=[
 yF 13 0 3,
 yL 14 false 1 13,
 yM 15 8,
 yB 16 .and 14 15,
 yJ 17 .neq 16 .i64 0]
def qmc4:yX:=.cond (.t 17) .skip (.exit 0)
def qmc5:yX:=yq qmr3 qmc4
def qmr6:yW:=[
 yM 20 7,
 yM 21 7,
 yI 22 (.lenSl (.t 21)),
 yJ 23 .sub 22 .i64 1,
 yI 24 (.iaSl 32 (.t 20) (.t 23)),
 ⟨some 25,none,.rd,.load true 32 (.t 24)⟩,
 ⟨some 26,none,.rd,.load true 32 (.t 5)⟩,
 yD 27 28 25 26,
 yS 32 5 27]
def qmr7:yW:=[
 yM 28 7,
 yM 29 7,
 yI 30 (.lenSl (.t 29)),
 yJ 31 .sub 30 .i64 1,
 yI 32 (.slice (.sl 32) (.t 28) none (some (.t 31)) none),
 yM 7 32]
def qmc8:yX:=yq qmr6 (.reg qmr7)
def qmr9:yW:=[
 yM 18 8,
 yJ 19 .mul 18 .i64 2,
 yM 8 19]
def qmc10:yX:=.seq (.block 1 qmc8) (.reg qmr9)
def qmc11:yX:=.seq qmc5 qmc10
def qmc12:yX:=.loop qmc11
def qmc13:yX:=.block 0 qmc12
def qmc14:yX:=yq qmr2 qmc13
def qmr15:yW:=[
 yF 33 0 3,
 ⟨some 34,none,.rd,.load false 1 (.t 33)⟩,
 yM 35 1,
 yB 36 .add 34 35,
 yM 37 7,
 ⟨some 38,none,.rd,.load true 32 (.t 5)⟩,
 yI 39 (.lit 32 [(.t 38)]),
 ⟨some 40,none,.ef,.app 32 (.t 37) (.t 39)⟩,
 yI 41 (.build [(.int .i64 0),.nilsl] [(0,1,(.t 36)),(1,1,(.t 40))]),
 yS 2 6 41]
def qmc16:yX:=yq qmr15 .ret
def qmc17:yX:=.seq qmc14 qmc16
def qmc18:yX:=yq qmr1 qmc17
def qmc19:yX:=yq qmr0 qmc18
attribute [go_sem] qmr0 qmr1 qmr2 qmr3 qmr6 qmr7 qmr9 qmr15
theorem qmok:cFn TC 70=some (42,[.c 6 true 2],qmc19):=by kernel_rfl
def qnr0:yW:=[
 yI 1 (.box (.t 0)),
 yI 2 (.mv (.v .nilfn))]
def qnr1:yW:=[
 yI 3 (.mkfn 72 [(.t 1)]),
 yM 2 3]
def qnc2:yX:=yq qnr1 .ret
def qnc3:yX:=yq qnr0 qnc2
attribute [go_sem] qnr0 qnr1
theorem qnok:cFn TC 53=some (4,[.t 2],qnc3):=by kernel_rfl
end
section
theorem ACallsP.toDown{C:Ctx}{f:FuncId}{args:List AV}{O O2:Store}{v2:AV}{P:AV->Store->Prop}(h:ACallsP C f args O P)
  (hd:Wf O.length O->∀v O',P v O'->DownV O.length v O' v2 O2):ACallsTo C f args O v2 O2:=by
 intro γ w cargs hR ha
 rcases h γ w cargs hR ha with⟨h1,h2⟩| ⟨cv,v,γ',O',w',h1,hp,h2,h3,h4⟩
 ·refine .inl ⟨h1,h2.mono ?_⟩
  rintro e w' ⟨cv,v,γ',O',rfl,hp,k1,k2,k3⟩
  obtain⟨γ2,q1,q2,q3⟩:=(hd hR.wf v O' hp).sound k2 k3 k1 hR.gl (by rw [hR.len];exact Nat.le_refl _)
  exact⟨cv,γ2,rfl,q1,q2,q3⟩
 ·obtain⟨γ2,q1,q2,q3⟩:=(hd hR.wf v O' hp).sound h3 h4 h2 hR.gl (by rw [hR.len];exact Nat.le_refl _)
  exact .inr ⟨cv,γ2,w',h1,q1,q2,q3⟩
theorem slen{O:Store}{r:Nat}{x:Option AObj}(h:O[r]? =some x):r<O.length:=(List.getElem?_eq_some_iff.1 h).1
def FrzD(τ news:Store):DC:=z28 τ news [] id (fun _=>true)
theorem DownV.all{τ news:Store}{v v2:AV}(hw:Wf τ.length τ)(h:DR (FrzD τ news) v2 v):DownV τ.length v (τ++news) v2 τ:=
 ⟨FrzD τ news,rfl,by show DownS τ.length (z28 τ news [] id (fun _=>true)) τ;simpa using za9 (kept:=[]) (idx:=id) (fzl:=fun _=>true) (news:=news) hw (by simp) (by simp) (by simp) (by simp),h⟩
theorem FrzD.same{τ news:Store}{v:AV}(h:RL τ.length v):DR (FrzD τ news) v v:=DR.refl (z6a _ _ _) v h
theorem FrzD.sl{τ news:Store}{r off:Nat}{lim:Option Nat}{esz:Nat}{o es:AObj}(hk:τ.length<=r)(ho:(τ++news)[r]? =some (some o))(hl:off+es.length<=o.length)(he:(o.drop off).take es.length=es)(hr:RLss τ.length es):
  DR (FrzD τ news) (.vsl esz es false) (.sl r off es.length lim esz):=by
 simp only [DR,FrzD,z28]
 right
 left
 exact⟨r,off,lim,o,rfl,by simpa using hk,ho,hl,by simp,by rw [he];exact DRss.refl (z6a [] id (fun _=>true)) _ hr⟩
theorem drA{D:DC}{a b:List AV}(h:DRs D a b):DR D (.agg a) (.agg b):=by simp only [DR];exact⟨b,rfl,h⟩
theorem drT{D:DC}{a b:List AV}(h:DRs D a b):DR D (.tup a) (.tup b):=by simp only [DR];exact⟨b,rfl,h⟩
theorem OwnN.frz{sz:Nat}{τ news:Store}{v:AV}{es:List (List AV)}(h:OwnN sz τ (τ++news) v es)(hr:RLss τ.length es):DR (FrzD τ news) (z18 sz es) v:=by
 by_cases h0:es=[]
 ·obtain⟨n2,_,⟨rfl,rfl⟩| ⟨j,h1,_⟩⟩:=h
  ·simp [z18,DR]
  ·exact absurd h0 h1
 ·obtain⟨r,rfl,hg,hk⟩:=h.sl h0
  unfold z18
  rw [if_neg h0]
  exact FrzD.sl hk hg (by omega) (by simp) hr
def lkp:List (Nat × AV)->Env
 | [],_=> .any
 |(a,v)::l,t=>bif t==a then v else lkp l t
@[go_sem] theorem lkp_cons {a t:Nat} {v:AV} {l:List (Nat × AV)}:lkp ((a,v)::l) t=bif t==a then v else lkp l t:=rfl
def OwnE(sz:Nat)(τ O':Store)(v:AV)(es:List (List AV)):Prop:=OwnN sz τ O' v es \/(es=[]/\ v=.vsl sz [] true/\ ∃news,O'=τ++news)
theorem OwnE.ext{sz:Nat}{τ O':Store}{v:AV}{es:List (List AV)}(h:OwnE sz τ O' v es):∃news,O'=τ++news:=by
 rcases h with h| ⟨_,_,h⟩
 ·exact h.ext
 ·exact h
theorem OwnE.rd{sz:Nat}{τ O':Store}{v:AV}{es:List (List AV)}(h:OwnE sz τ O' v es):RdSl O' sz es v:=by
 rcases h with h| ⟨rfl,rfl,_⟩
 ·exact h.rd
 ·exact .inl (.inr ⟨true,rfl⟩)
theorem OwnE.len{sz:Nat}{τ O':Store}{v:AV}{es:List (List AV)}(h:OwnE sz τ O' v es):z1e v=some (.int .i64 es.length):=h.rd.len
theorem OwnE.app{sz:Nat}{τ O':Store}{v:AV}{es ys:List (List AV)}(h:OwnE sz τ O' v es)(h0:ys.length ≠ 0)(hl:es.length+ys.length<=1073741824):
  ∃v' O'',aApp O' sz v ys=some (v',O'')/\ OwnN sz τ O'' v' (es++ys):=by
 rcases h with h| ⟨rfl,rfl,news,rfl⟩
 ·exact h.app h0 hl
 ·refine⟨.sl (τ++news).length 0 ys.length none sz,(τ++news)++ [some ys],by rw [z80,if_neg h0,if_pos ⟨rfl,rfl,hl⟩];simp,news++ [some ys],by rw [List.append_assoc],.inr ⟨news.length,?_,by simp,by rw [List.getElem?_append_right (Nat.le_refl _)];simp⟩⟩
  intro e;exact h0 (by rw [(List.append_eq_nil_iff.1 e).2];rfl)
theorem RdSl.elems{O:Store}{sz:Nat}{es:List (List AV)}{x:AV}(h:RdSl O sz es x):z1z O x=some es:=by
 rcases h with(⟨rfl,rfl⟩| ⟨ex,rfl⟩)| ⟨r,off,lim,o,rfl,hg,h1,h2⟩
 ·rfl
 ·rfl
 ·rw [zaz,hg];simp only;rw [if_pos h1,h2]
theorem ze8(O:Store)(l:List Hash)(x:AV)(hx:RdSl O 32 (hr l) x)(hl:l.length<1000000):
  ACallsP TC 69 [x] O (fun v O'=>OwnE 32 O O' v (hr l)/\ (x=.nilsl ↔ v=.nilsl)):=by
 rcases hx with(⟨rfl,hnil⟩| ⟨ex,rfl⟩)| ⟨r,off,lim,o,rfl,hg,h1,h2⟩
 ·refine ACallsTo.toP (v:=.nilsl) (O':=O) ?_ ⟨.inl ⟨[],by simp,.inl ⟨hnil,rfl⟩⟩,Iff.rfl⟩
  refine ACallsTo.of_body qlok (by simp) fun hw _=> ?_
  repeat' (first|apply zs_|apply zb_|apply zc_|apply zt_ rfl|apply zf_ rfl|(apply zd_ rfl<;>intro ht<;>try omega)|((first|apply zr_|apply zk_|apply ze_|apply zq_|(apply zG<;>intro ht));all_goals try simp (disch:=first|omega|(simp only [lens];first|done|omega)) only [go_sem]))
  exact DownV.same hw (z19 _ rfl)
 ·by_cases h0:l=[]
  ·subst h0
   refine ACallsTo.toP (v:=.vsl 32 [] true) (O':=O) ?_ ⟨.inr ⟨rfl,rfl,[],by simp⟩,by simp⟩
   refine ACallsTo.of_body qlok (by simp) fun hw _=> ?_
   rw [zch]
   repeat' (first|apply zs_|apply zb_|apply zc_|apply zt_ rfl|apply zf_ rfl|(apply zd_ rfl<;>intro ht<;>try omega)|((first|apply zr_|apply zk_|apply ze_|apply zq_|(apply zG<;>intro ht));all_goals try simp (disch:=first|omega|(simp only [lens];first|done|omega)) only [go_sem]))
   exact DownV.same hw (z19 _ rfl)
  ·have hne:¬l.length=0:=fun e=>h0 (List.eq_nil_of_length_eq_zero e)
   refine ACallsP.of_keep qlok (by simp) ?_
   repeat' (first|apply zs_|apply zb_|apply zc_|apply zt_ rfl|apply zf_ rfl|(apply zd_ rfl<;>intro ht<;>try omega)|((first|apply zr_|apply zk_|apply ze_|apply zq_|(apply zG<;>intro ht));all_goals try simp (disch:=first|omega|(simp only [lens];first|done|omega)) only [go_sem,hne,z80]))
   refine .inl ⟨[some (hr l)],by simp,.inr ⟨0,by rw [Ne,hr_nil_iff];exact h0,?_,by simp⟩⟩
   simp [z6]
 ·have hrl:=z6 l
  by_cases h0:l=[]
  ·subst h0
   refine ACallsTo.toP (v:=.vsl 32 [] true) (O':=O) ?_ ⟨.inr ⟨rfl,rfl,[],by simp⟩,by simp⟩
   refine ACallsTo.of_body qlok (by simp) fun hw _=> ?_
   rw [zch]at*
   repeat' (first|apply zs_|apply zb_|apply zc_|apply zt_ rfl|apply zf_ rfl|(apply zd_ rfl<;>intro ht<;>try omega)|((first|apply zr_|apply zk_|apply ze_|apply zq_|(apply zG<;>intro ht));all_goals try simp (disch:=first|omega|(simp only [lens];first|done|omega)) only [go_sem,hg,zaz,h1,h2]))
   exact DownV.same hw (z19 _ rfl)
  ·have hne:¬l.length=0:=fun e=>h0 (List.eq_nil_of_length_eq_zero e)
   rw [hrl]at h1 h2
   refine ACallsP.of_keep qlok (by simp) ?_
   repeat' (first|apply zs_|apply zb_|apply zc_|apply zt_ rfl|apply zf_ rfl|(apply zd_ rfl<;>intro ht<;>try omega)|((first|apply zr_|apply zk_|apply ze_|apply zq_|(apply zG<;>intro ht));all_goals try simp (disch:=first|omega|(simp only [lens];first|done|omega)) only [go_sem,hg,hne,z80,zaz,h1,h2]))
   refine .inl ⟨[some (hr l)],by simp,.inr ⟨0,by rw [Ne,hr_nil_iff];exact h0,?_,by simp⟩⟩
   simp [z6]
end
section
theorem z7i{l:List Hash}{i:Nat}(h:i<l.length):l.take (i+1)=l.take i++ [hd l i]:=by
 rw [z6t h];exact(List.take_append_getElem h).symm
def z3p(n:Int)(len:Nat):Bool:=decide (0<=n/\ n<=4096/\ len=pc 64 n.toNat)
theorem zhn(O:Store)(n:Int)(hs:List Hash)(x:AV)(hx:RdSl O 32 (hr hs) x):
  ACallsTo TC 52 [.agg [.int .i64 n,x]] O (.bool (z3p n hs.length)) O:=by
 have r1:=hx.len
 rw [z6]at r1
 unfold z1e at r1
 refine ACallsTo.of_body qjok (by simp) fun hw _=> ?_
 by_cases h1:0<=n/\ n<=4096
 ·have h:=fun O=>zkb O n (by omega)
  by_cases h2:hs.length=pc 64 n.toNat
  ·have e:z3p n hs.length=true:=decide_eq_true ⟨h1.1,h1.2,h2⟩
   have h2':(hs.length:Int)=pc 64 n.toNat:=by omega
   rw [e]
   repeat' (first|apply zs_|apply zb_|apply zc_|apply zt_ rfl|apply zf_ rfl|(apply zd_ rfl<;>intro ht<;>try omega)|((first|apply zr_|apply zk_|apply ze_|apply zq_|(apply callW.mk_pu;(first|exact(fun _=>h _)))|(apply callW.za;(first|exact(h _)))|(apply zG<;>intro ht));all_goals try simp (disch:=first|omega|(simp only [lens];first|done|omega)) only [go_sem,r1,h2']))
   exact DownV.pure hw (z19 _ rfl)
  ·have e:z3p n hs.length=false:=decide_eq_false fun e=>h2 e.2.2
   have h2':¬(hs.length:Int)=pc 64 n.toNat:=by omega
   rw [e]
   repeat' (first|apply zs_|apply zb_|apply zc_|apply zt_ rfl|apply zf_ rfl|(apply zd_ rfl<;>intro ht<;>try omega)|((first|apply zr_|apply zk_|apply ze_|apply zq_|(apply callW.mk_pu;(first|exact(fun _=>h _)))|(apply callW.za;(first|exact(h _)))|(apply zG<;>intro ht));all_goals try simp (disch:=first|omega|(simp only [lens];first|done|omega)) only [go_sem,r1,h2']))
   exact DownV.pure hw (z19 _ rfl)
 ·have e:z3p n hs.length=false:=decide_eq_false fun e=>h1 ⟨e.1,e.2.1⟩
  rw [e]
  repeat' (first|apply zs_|apply zb_|apply zc_|apply zt_ rfl|apply zf_ rfl|(apply zd_ rfl<;>intro ht<;>try omega)|((first|apply zr_|apply zk_|apply ze_|apply zq_|(apply zG<;>intro ht));all_goals try simp (disch:=first|omega|(simp only [lens];first|done|omega)) only [go_sem,r1]))
  all_goals exact DownV.pure hw (z19 _ rfl)
end
section
def Ext(O O':Store):Prop:=∃news,O'=O++news
theorem Ext.refl(O:Store):Ext O O:=⟨[],by simp⟩
theorem Ext.app{O O' y:Store}(h:Ext O O'):Ext O (O'++y):=by
 obtain⟨n,rfl⟩:=h
 exact⟨n++y,by rw [List.append_assoc]⟩
theorem Ext.set{O O':Store}{r:Nat}{x:Option AObj}(h:Ext O O')(hr:O.length<=r):Ext O (O'.set r x):=by
 obtain⟨n,rfl⟩:=h
 exact⟨n.set (r-O.length) x,List.set_append_right _ _ hr⟩
theorem Ext.trans{O O' O'':Store}(h:Ext O O')(h':Ext O' O''):Ext O O'':=by
 obtain⟨n,rfl⟩:=h
 obtain⟨m,rfl⟩:=h'
 exact⟨n++m,by rw [List.append_assoc]⟩
theorem Ext.le{O O':Store}(h:Ext O O'):O.length<=O'.length:=by
 obtain⟨n,rfl⟩:=h;simp
theorem zjl(O:Store)(l:List Hash)(x:AV)(hx:RdSl O 32 (hr l) x):∃v O',OwnE 32 O O' v (hr l)/\ (x=.nilsl ↔ v=.nilsl):=by
 have h1:=z74 O 32 (hr l)
 rcases hx with(⟨rfl,h⟩| ⟨ex,rfl⟩)| ⟨r,off,lim,o,rfl,_⟩
 ·exact⟨.nilsl,O,.inl ⟨[],by simp,.inl ⟨h,rfl⟩⟩,Iff.rfl⟩
 ·by_cases h0:hr l=[]
  ·exact⟨.vsl 32 [] true,O,.inr ⟨h0,rfl,[],by simp⟩,by simp⟩
  ·refine⟨_,_,.inl h1,?_⟩
   unfold ownV;rw [if_neg h0];simp
 ·by_cases h0:hr l=[]
  ·exact⟨.vsl 32 [] true,O,.inr ⟨h0,rfl,[],by simp⟩,by simp⟩
  ·refine⟨_,_,.inl h1,?_⟩
   unfold ownV;rw [if_neg h0];simp
theorem zer{n i:Nat}:n &&& 2^i=if n/2^i%2=1 then 2^i else 0:=by
 apply Nat.eq_of_testBit_eq
 intro k
 rw [Nat.testBit_and,Nat.testBit_two_pow]
 by_cases hk:i=k
 ·subst hk
  rw [Nat.testBit_eq_decide_div_mod_eq]
  split
  ·rename_i h;simp [h,Nat.testBit_two_pow]
  ·rename_i h;simp [h]
 ·split
  ·simp [hk,Nat.testBit_two_pow]
  ·simp [hk]
theorem zhe{f q:Nat}(h:q%2=1)(hf:0<f):pc f q=1+pc (f-1) (q/2):=by
 match f,hf with
 |f+1,_=>simp [pc,h]
theorem zW.once{C:Ctx}{n k:Nat}{Q:AExit->Env->Store->Prop}{Z:Env}{O:Store}{x:ACode}(h:zW C n k x (z2b (fun _ _=>False) Q) Z O):zW C n k (.loop x) Q Z O:=
 zW.loop (fun _ Z' O'=>Z'=Z/\ O'=O) 0 ⟨rfl,rfl⟩ (by
  rintro m _ _ ⟨rfl,rfl⟩
  refine h.mono fun e Z O h=> ?_
  cases e
  ·exact h.elim
  ·exact h
  ·exact h)
theorem zq1(O:Store)(n j:Nat)(x:AV)(hs:List Hash)(h:Hash)(hx:RdSl O 32 (hr hs) x)(hj:2^j ∣ n)(hn:n+2^j<=4096)(hl:hs.length=pc 13 n):
  ACallsTo TC 70 [.agg [.int .i64 n,x],.int .i64 ((2^j:Nat):Int),.agg (hc h)] O (.agg [.int .i64 ((n+2^j:Nat):Int),.vsl 32 (hr (z29 (n/2^j) hs.reverse h).reverse) false]) O:=by
 have hp:0<2^j:=Nat.pow_pos (by decide)
 have hj12:j<=12:=by
  rcases Nat.lt_or_ge j 13 with h|h
  ·omega
  ·have:=Nat.pow_le_pow_right (n:=2) (by decide) h
   omega
 have hlen:hs.length<1000000:=by
  have:∀f q,pc f q<=f:=fun f=>by
   induction f with
   |zero=>intro q;simp [pc]
   |succ f ih=>intro q;simp only [pc];have:=ih (q/2);omega
  have:=this 13 n;omega
 obtain⟨q0,hq0⟩:=hj
 have hdiv:n/2^j=q0:=by rw [hq0];exact Nat.mul_div_cancel_left _ hp
 have hpl:hs.length=pc (13-j) (n/2^j):=by
  have:=pc_two j (13-j) q0
  rw [<-hq0,show 13-j+j=13 by omega]at this
  rw [hl,this,hdiv]
 generalize hk0:2^j=k0 at*
 have hadd:((n:Int)+k0)=((n+k0:Nat):Int):=by omega
 refine ACallsTo.of_body qmok (by simp) fun hw _=> ?_
 repeat' (first|apply zs_|apply zb_|apply zc_|apply zt_ rfl|apply zf_ rfl|(apply zd_ rfl<;>intro ht<;>try omega)|((first|apply zr_|apply zk_|apply ze_|apply zq_|(apply zG<;>intro ht));all_goals try simp (disch:=first|omega|(simp only [lens];first|done|omega)) only [go_sem]))
 refine callW.mkP (ze8 _ hs x hx.app hlen) (zjl _ hs x hx.app) ?_
 rintro v O1 ⟨hO,_⟩
 obtain⟨y,hy⟩:=hO.ext
 have b0:O1[O.length]? =some (some [[.int .i64 n,x]]):=by rw [hy];simp
 have b1:O1[O.length+1]? =some (some [hc h]):=by rw [hy];simp
 have b2:O1[O.length+2]? =some (some [[.int .i64 0,.nilsl]]):=by rw [hy];simp
 have b3:Ext O O1:=by rw [hy];exact(Ext.refl O).app.app
 have g0:=slen b0
 have g1:=slen b1
 have g2:=slen b2
 by_cases h0:hs=[]
 ·subst h0
  have hn0:n/k0%2=0:=by
   have:=hpl
   simp at this
   rcases Nat.mod_two_eq_zero_or_one (n/k0)with h|h
   ·exact h
   ·rw [zhe h (by omega)]at this;omega
  have hand:=zer (n:=n) (i:=j)
  rw [hk0,if_neg (by omega)]at hand
  have hres:hr (z29 (n/k0) ([]:List Hash).reverse h).reverse=[hc h]:=rfl
  rw [hres]
  have hv:v=.nilsl \/v=.vsl 32 [] true:=by
   rcases hO with⟨_,_,⟨_,rfl⟩| ⟨_,h1,_⟩⟩| ⟨_,rfl,_⟩
   ·exact .inl rfl
   ·exact absurd rfl h1
   ·exact .inr rfl
  have fin:∀O2 r,Ext O O2->O.length<=r->O2[r]? =some (some [hc h])->DownV O.length (.agg [.int .i64 ((n+k0:Nat):Int),.sl r 0 1 none 32]) O2 (.agg [.int .i64 ((n+k0:Nat):Int),.vsl 32 [hc h] false]) O:=fun O2 r e hr hg=>by
   obtain⟨news,rfl⟩:=e
   exact DownV.all hw (drA (drsc (FrzD.same (by simp [RL])) (drs1 (FrzD.sl (es:=[hc h]) hr hg (by simp) (by simp) (by simp only [RLss];exact⟨z6b _,trivial⟩)))))
  rcases hv with rfl|rfl
  ·repeat' (first|apply zs_|apply zb_|apply zc_|apply zt_ rfl|apply zf_ rfl|(apply zd_ rfl<;>intro ht<;>try omega)|((first|apply zr_|apply zk_|apply ze_|apply zq_|(apply zG<;>intro ht));all_goals try simp (disch:=first|omega|(simp only [lens];first|done|omega)) only [go_sem,b0,b1,b2]))
   refine zW.once ?_
   repeat' (first|apply zs_|apply zb_|apply zc_|apply zt_ rfl|apply zf_ rfl|(apply zd_ rfl<;>intro ht<;>try omega)|((first|apply zr_|apply zk_|apply ze_|apply zq_|(apply zG<;>intro ht));all_goals try simp (disch:=first|omega|(simp only [lens];first|done|omega)) only [go_sem,b0,b1,b2,hand,hadd]))
   exact fin _ _ (b3.set (by omega)).app (by omega) (by simp)
  ·repeat' (first|apply zs_|apply zb_|apply zc_|apply zt_ rfl|apply zf_ rfl|(apply zd_ rfl<;>intro ht<;>try omega)|((first|apply zr_|apply zk_|apply ze_|apply zq_|(apply zG<;>intro ht));all_goals try simp (disch:=first|omega|(simp only [lens];first|done|omega)) only [go_sem,b0,b1,b2]))
   refine zW.once ?_
   repeat' (first|apply zs_|apply zb_|apply zc_|apply zt_ rfl|apply zf_ rfl|(apply zd_ rfl<;>intro ht<;>try omega)|((first|apply zr_|apply zk_|apply ze_|apply zq_|(apply zG<;>intro ht));all_goals try simp (disch:=first|omega|(simp only [lens];first|done|omega)) only [go_sem,b0,b1,b2,hand,hadd]))
   exact fin _ _ (b3.set (by omega)).app (by omega) (by simp)
 ·have hpos:0<hs.length:=List.length_pos_iff.2 h0
  obtain⟨r,rfl,hgr,hrl⟩:∃r,v=.sl r 0 hs.length none 32/\ O1[r]? =some (some (hr hs))/\ O.length+3<=r:=by
   rcases hO with hO|hO
   ·obtain⟨r,h1,h2,h3⟩:=hO.sl (by rw [Ne,hr_nil_iff];exact h0)
    rw [z6]at h1
    exact⟨r,h1,h2,by simpa using h3⟩
   ·exact absurd (hr_nil_iff.1 hO.1) h0
  have g3:=slen hgr
  repeat' (first|apply zs_|apply zb_|apply zc_|apply zt_ rfl|apply zf_ rfl|(apply zd_ rfl<;>intro ht<;>try omega)|((first|apply zr_|apply zk_|apply ze_|apply zq_|(apply zG<;>intro ht));all_goals try simp (disch:=first|omega|(simp only [lens];first|done|omega)) only [go_sem,b0,b1,b2,hadd]))
  refine zW.loop (fun m Z O'=>∃(i:Nat) (h':Hash),m<=hs.length/\ j<=i/\ i<=13/\ m=pc (13-i) (n/2^i)/\ z29 (n/2^i) (hs.take m).reverse h'=z29 (n/k0) hs.reverse h ∧
   O'[O.length]? =some (some [[.int .i64 n,x]])/\ O'[O.length+1]? =some (some [hc h'])/\ O'[O.length+2]? =some (some [[.int .i64 0,.nilsl]])/\ O'[r]? =some (some (hr hs))/\ Ext O O' ∧
   Z 1=.int .i64 k0/\ Z 3=.ptr O.length 0 0/\ Z 5=.ptr (O.length+1) 0 0/\ Z 6=.ptr (O.length+2) 0 0/\ Z 7=.sl r 0 m none 32/\ Z 8=.int .i64 ((2^i:Nat):Int)) hs.length ?_ ?_
  ·refine⟨j,h,Nat.le_refl _,Nat.le_refl _,by omega,?_,?_,b0,b1,b2,hgr,b3,by simp (disch:=first|omega|(simp only [lens];first|done|omega)) only [go_sem],by simp (disch:=first|omega|(simp only [lens];first|done|omega)) only [go_sem],by simp (disch:=first|omega|(simp only [lens];first|done|omega)) only [go_sem],by simp (disch:=first|omega|(simp only [lens];first|done|omega)) only [go_sem],by simp (disch:=first|omega|(simp only [lens];first|done|omega)) only [go_sem],by simp (disch:=first|omega|(simp only [lens];first|done|omega)) only [go_sem];rw [hk0]⟩
   ·rw [hk0];exact hpl
   ·rw [hk0,List.take_of_length_le (Nat.le_refl _)]
  ·rintro m Z O' ⟨i,h',hm,hji,hi13,hmp,hpush,c0,c1,c2,cr,ce,q1,q3,q5,q6,q7,q8⟩
   have d0:=slen c0
   have d1:=slen c1
   have d2:=slen c2
   have dr:=slen cr
   have hki:0<2^i:=Nat.pow_pos (by decide)
   have hand:=zer (n:=n) (i:=i)
   have hi8:2^i<=8192:=by
    have:=Nat.pow_le_pow_right (n:=2) (by decide) hi13
    exact this
   have hs2:2^(i+1)=2^i*2:=Nat.pow_succ ..
   have hdd:n/2^i/2=n/2^(i+1):=by rw [Nat.div_div_eq_div_mul,hs2]
   by_cases hbit:n/2^i%2=1
   ·rw [if_pos hbit]at hand
    have hi12:i<13:=by
     rcases Nat.lt_or_ge i 13 with h|h
     ·exact h
     ·have e13:i=13:=by omega
      rw [e13,Nat.div_eq_of_lt (by omega)]at hbit
      simp at hbit
    rw [zhe hbit (by omega)]at hmp
    obtain⟨l,rfl⟩:∃l,m=l+1:=⟨m-1,by omega⟩
    have hrev:(hs.take (l+1)).reverse=hd hs l::(hs.take l).reverse:=by rw [z7i (by omega)];simp
    rw [hrev,z8q hbit,hdd]at hpush
    rw [hdd,show 13-i-1=13-(i+1)by omega]at hmp
    generalize hki2:2^i=k at*
    have hne:¬(k:Int)=0:=by omega
    have hl1:((l+1:Nat):Int)-1=l:=by omega
    repeat' (first|refine zs_ ?_|refine zb_ ?_|refine zc_ ?_|refine zt_ rfl ?_|refine zf_ rfl ?_|(refine zd_ rfl (fun ht=> ?_) (fun ht=> ?_)<;>try (exfalso;omega))|((first|refine zW.regS ?_|refine zk_ ?_|refine ze_ ?_|refine zq_ ?_|(apply callW.mk_pu;(first|exact(fun _=>z8z _ _ _)))|(apply callW.za;(first|exact(z8z _ _ _)))|(apply zG<;>intro ht));all_goals try simp (disch:=first|omega|(simp only [lens];first|done|omega)) only [go_sem,q1,q3,q5,q6,q7,q8,c0,c1,c2,cr,hand,hne,hl1]))
    exact⟨l,by omega,i+1,z11 (hd hs l) h',by omega,by omega,by omega,by omega,hpush,rfl,ce.set (by omega),by simp,by rw [hs2];simp⟩
   ·rw [if_neg hbit]at hand
    rw [z8p (by omega)]at hpush
    have hres:(z29 (n/k0) hs.reverse h).reverse=hs.take m++ [h']:=by rw [<-hpush];simp
    rw [hres]
    generalize hki2:2^i=k at*
    have fin:∀O2 r2 o,Ext O O2->O.length<=r2->O2[r2]? =some (some o)->m+1<=o.length->o.take (m+1)=hr (hs.take m++ [h'])->DownV O.length (.agg [.int .i64 ((n+k0:Nat):Int),.sl r2 0 (m+1) none 32]) O2 (.agg [.int .i64 ((n+k0:Nat):Int),.vsl 32 (hr (hs.take m++ [h'])) false]) O:=fun O2 r2 o e hr2 hg ho1 ho2=>by
     obtain⟨news,rfl⟩:=e
     have hl3:(hr (hs.take m++ [h'])).length=m+1:=by simp [z6];omega
     have:=FrzD.sl (τ:=O) (news:=news) (r:=r2) (off:=0) (lim:=none) (esz:=32) (o:=o) (es:=hr (hs.take m++ [h'])) hr2 hg (by omega) (by rw [hl3,List.drop_zero];exact ho2) (z33 _)
     rw [hl3]at this
     exact DownV.all hw (drA (drsc (FrzD.same (by simp [RL])) (drs1 this)))
    by_cases hfull:m<hs.length
    ·repeat' (first|apply zs_|apply zb_|apply zc_|apply zt_ rfl|apply zf_ rfl|(apply zd_ rfl<;>intro ht<;>try omega)|((first|apply zr_|apply zk_|apply ze_|apply zq_|(apply zG<;>intro ht));all_goals try simp (disch:=first|omega|(simp only [lens];first|done|omega)) only [go_sem,q1,q3,q5,q6,q7,q8,c0,c1,c2,cr,hand,hadd]))
     refine fin _ r _ ((ce.set (by omega)).set (by omega)) (by omega) (by rw [z1r (by omega),z2z dr]) (by simp [z6];omega) ?_
     rw [show hr (hs.take m)++hc h'::hr (hs.drop (m+1))=hr ((hs.take m++ [h'])++hs.drop (m+1))by simp [hr],zgb,List.take_left' (by simp;omega)]
    ·have hm':hs.take m=hs:=List.take_of_length_le (by omega)
     rw [hm']at fin
     repeat' (first|apply zs_|apply zb_|apply zc_|apply zt_ rfl|apply zf_ rfl|(apply zd_ rfl<;>intro ht<;>try omega)|((first|apply zr_|apply zk_|apply ze_|apply zq_|(apply zG<;>intro ht));all_goals try simp (disch:=first|omega|(simp only [lens];first|done|omega)) only [go_sem,q1,q3,q5,q6,q7,q8,c0,c1,c2,cr,hand,hadd]))
     refine fin _ _ _ ((ce.set (by omega)).set (by omega)).app (by omega) (by rw [z1k (by simp),List.length_set,List.length_set,Nat.sub_self];rfl) (by simp [z6];omega) ?_
     rw [show hr hs++ [hc h']=hr (hs++ [h'])by simp [hr],zgb,List.take_of_length_le (by simp;omega)]
end
section
def knil(es:List (List AV)):AV->AV
 | .nilsl=> .nilsl
 | _=> .vsl 32 es false
theorem zck{es:List (List AV)}{x:AV}(h:x ≠ .nilsl):knil es x=.vsl 32 es false:=by
 cases x<;>first|rfl|exact absurd rfl h
theorem zgk{O:Store}{l:List Hash}{x:AV}(h:RdSl O 32 (hr l) x):SlV 32 (hr l) (knil (hr l) x):=by
 rcases h with(⟨rfl,h⟩| ⟨ex,rfl⟩)| ⟨r,off,lim,o,rfl,_⟩
 ·exact .inl ⟨rfl,h⟩
 ·exact .inr ⟨false,rfl⟩
 ·exact .inr ⟨false,rfl⟩
theorem zq8{k:Nat}(l:List Hash)(x:AV):RL k (knil (hr l) x):=by
 by_cases h:x=.nilsl
 ·subst h;simp [knil,RL]
 ·rw [zck h];simp only [RL];exact z33 _
theorem zjm(O:Store)(l:List Hash)(x:AV)(hx:RdSl O 32 (hr l) x)(hl:l.length<1000000):
  ACallsTo TC 69 [x] O (knil (hr l) x) O:=by
 refine ACallsP.toDown (ze8 O l x hx hl) fun hw v O' h=> ?_
 obtain⟨h,hn⟩:=h
 obtain⟨y,rfl⟩:=h.ext
 refine DownV.all hw ?_
 by_cases h0:x=.nilsl
 ·rw [hn.1 h0,h0];simp [knil,DR]
 ·have hv:v ≠ .nilsl:=fun e=>h0 (hn.2 e)
  rw [zck h0]
  rcases h with h| ⟨h1,rfl,_⟩
  ·have h2:=h.frz (z33 l)
   unfold z18 at h2
   split at h2
   ·simp only [DR]at h2;exact absurd h2 hv
   ·exact h2
  ·rw [h1]
   simp only [DR]
   exact .inl ⟨_,_,rfl,by simp,by simp [DRss]⟩
theorem Ext.pure{O O':Store}{v:AV}(hw:Wf O.length O)(h:Ext O O')(hv:RL O.length v):DownV O.length v O' v O:=by
 obtain⟨n,rfl⟩:=h
 exact DownV.pure hw hv
def zv(x:AV)(first:Bool)(l:List Hash):AV:=if first then knil (hr l) x else .vsl 32 (hr l) false
theorem zjg{O:Store}{x:AV}{first:Bool}{l:List Hash}(h:first=true->RdSl O 32 (hr l) x):SlV 32 (hr l) (zv x first l):=by
 unfold zv
 cases first with
 |true=>exact zgk (h rfl)
 |false=>exact .inr ⟨false,rfl⟩
theorem rl_zv{k:Nat}(x:AV)(first:Bool)(l:List Hash):RL k (zv x first l):=by
 unfold zv
 cases first with
 |true=>exact zq8 _ _
 |false=>simp only [Bool.false_eq_true,if_false,RL];exact z33 _
theorem zjf(x:AV)(first:Bool)(l:List Hash):cellsOf (zv x first l)=some [zv x first l]:=by
 unfold zv
 cases first with
 |true=>
  by_cases h:x=.nilsl
  ·subst h;rfl
  ·simp only [if_true];rw [zck h];rfl
 |false=>rfl
def rg(n:Int)(z:AV)(e:Int):AV:=.tup [.agg [.int .i64 n,z],.int .i64 e]
theorem zaq{k:Nat}{n e:Int}{z:AV}(h:RL k z):RL k (rg n z e):=by simp only [rg,RL,RLs];exact⟨⟨trivial,h,trivial⟩,trivial,trivial⟩
def extA(n:Int)(hs l:List Hash)(x:AV):AV:=
 if z3p n hs.length=false then rg 0 .nilsl 2
 else if 4096-n<l.length then rg 0 .nilsl 60
 else rg (n+l.length) (zv x l.isEmpty (extR n.toNat hs.reverse l).reverse) 0
theorem pc13{n:Nat}(h:n<=4096):pc 64 n=pc 13 n:=zhd 13 n (by omega) 51
theorem zq0(O:Store)(n:Nat)(x:AV)(hs:List Hash)(h:Hash)(hx:RdSl O 32 (hr hs) x)(hn:n+1<=4096)(hl:hs.length=pc 13 n):
  ACallsTo TC 70 [.agg [.int .i64 n,x],.int .i64 1,.agg (hc h)] O (.agg [.int .i64 ((n+1:Nat):Int),.vsl 32 (hr (z29 n hs.reverse h).reverse) false]) O:=by
 have:=zq1 O n 0 x hs h hx ⟨n,by simp⟩ hn hl
 simpa using this
attribute [local irreducible] ACallsTo ACallsP
theorem zjn(O:Store)(n:Int)(hs l:List Hash)(x y:AV)(hx:RdSl O 32 (hr hs) x)(hy:SlV 32 (hr l) y)(hn: -9223372036854775808<=n/\ n<=9223372036854775807)(hhl:hs.length<1000000)(hl:l.length<1000000):
  ACallsTo TC 51 [.agg [.int .i64 n,x],y] O (extA n hs l x) O:=by
 have r1:=hy.len
 rw [z6]at r1
 unfold z1e at r1
 have hV:=fun y=>zhn (O++y) n hs x hx.app
 unfold extA
 by_cases hv:z3p n hs.length=true
 ·rw [if_neg (by simp [hv])]
  rw [hv]at hV
  have hv':=of_decide_eq_true hv
  obtain⟨n,rfl⟩:∃k:Nat,n=k:=⟨n.toNat,by omega⟩
  rw [Int.toNat_natCast]at hv' ⊢
  have hhs:hs.length=pc 13 n:=by rw [hv'.2.2,pc13 (by omega)]
  by_cases hf:4096-(n:Int)<l.length
  ·rw [if_pos hf]
   refine ACallsTo.of_body qiok (by simp) fun hw _=> ?_
   repeat' (first|apply zs_|apply zb_|apply zc_|apply zt_ rfl|apply zf_ rfl|(apply zd_ rfl<;>intro ht<;>try omega)|((first|apply zr_|apply zk_|apply ze_|apply zq_|(apply callW.mk_pu;(first|exact(fun _=>hV _)))|(apply callW.za;(first|exact(hV _)))|(apply zG<;>intro ht));all_goals try simp (disch:=first|omega|(simp only [lens];first|done|omega)) only [go_sem,r1]))
   exact DownV.pure hw (zaq (by simp [RL]))
  ·rw [if_neg hf]
   refine ACallsTo.of_body qiok (by simp) fun hw _=> ?_
   have hCl:=fun y=>zjm (O++y) hs x hx.app (by omega)
   have hk:=zgk hx
   have e0:knil (hr hs) x=zv x true (extR n hs.reverse (l.take 0)).reverse:=by simp [zv,extR]
   rw [e0]at hCl
   have z0:=zjf x true (extR n hs.reverse (l.take 0)).reverse
   generalize hzz:zv x true (extR n hs.reverse (l.take 0)).reverse=z at*
   unfold cellsOf at z0
   repeat' (first|apply zs_|apply zb_|apply zc_|apply zt_ rfl|apply zf_ rfl|(apply zd_ rfl<;>intro ht<;>try omega)|((first|apply zr_|apply zk_|apply ze_|apply zq_|(apply callW.mk_pu;(first|exact(fun _=>hV _)|exact(fun _=>hCl _)))|(apply callW.za;(first|exact(hV _)|exact(hCl _)))|(apply zG<;>intro ht));all_goals try simp (disch:=first|omega|(simp only [lens];first|done|omega)) only [go_sem,r1,z0]))
   refine zW.loop (fun m Z O'=>∃i:Nat,m+i=l.length/\ Ext O O'/\ O'[O.length]? =some (some [[.int .i64 ((n+i:Nat):Int),zv x (decide (i=0)) (extR n hs.reverse (l.take i)).reverse]])/\ O'[O.length+1]? =some (some [[.int .i64 0,.nilsl]]) ∧
    Z 2=.ptr O.length 0 0/\ Z 4=.ptr (O.length+1) 0 0/\ Z 5=.int .i64 0/\ Z 25=y/\ Z 26=.int .i64 l.length/\ Z 27=.int .i64 i) l.length ?_ ?_
   ·refine⟨0,by omega,?_,?_,?_,by simp (disch:=first|omega|(simp only [lens];first|done|omega)) only [go_sem],by simp (disch:=first|omega|(simp only [lens];first|done|omega)) only [go_sem],by simp (disch:=first|omega|(simp only [lens];first|done|omega)) only [go_sem],by simp (disch:=first|omega|(simp only [lens];first|done|omega)) only [go_sem],by simp (disch:=first|omega|(simp only [lens];first|done|omega)) only [go_sem,r1],by simp (disch:=first|omega|(simp only [lens];first|done|omega)) only [go_sem];rfl⟩
    ·first|exact(Ext.refl O).app|exact⟨_,rfl⟩
    ·rw [<-hzz];simp
    ·simp
   ·rintro m Z O' ⟨i,hm,he,c0,c1,q2,q4,q5,q25,q26,q27⟩
    have d0:=slen c0
    have d1:=slen c1
    by_cases hi:i<l.length
    ·obtain⟨ex,rfl⟩:=hy.vsl (by rw [z6];omega)
     have hz:SlV 32 (hr (extR n hs.reverse (l.take i)).reverse) (zv x (decide (i=0)) (extR n hs.reverse (l.take i)).reverse):=zjg fun h=>by
      have:i=0:=of_decide_eq_true h
      subst this
      simpa [extR]using hx
     have hlen:(extR n hs.reverse (l.take i)).reverse.length=pc 13 (n+i):=by
      rw [List.length_reverse,za5 13 n hs.reverse (l.take i) (by rw [List.length_take];omega) (by rw [List.length_reverse];exact hhs),List.length_take,Nat.min_eq_left (by omega)]
     have hP:=fun O=>zq0 O (n+i) _ _ (hd l i) (.of hz) (by omega) hlen
     have hnext:z29 (n+i) (extR n hs.reverse (l.take i)) (hd l i)=extR n hs.reverse (l.take (i+1)):=by
      rw [z7i hi,z8a,List.length_take,Nat.min_eq_left (by omega)];rfl
     simp only [List.reverse_reverse,hnext]at hP
     clear hz hlen hnext
     generalize zv x (decide (i=0)) (extR n hs.reverse (l.take i)).reverse=z at*
     repeat' (first|apply zs_|apply zb_|apply zc_|apply zt_ rfl|apply zf_ rfl|(apply zd_ rfl<;>intro ht<;>try omega)|((first|apply zr_|apply zk_|apply ze_|apply zq_|(apply callW.mk_pu;(first|exact(fun _=>hP _)))|(apply callW.za;(first|exact(hP _)))|(apply zG<;>intro ht));all_goals try simp (disch:=first|omega|(simp only [lens];first|done|omega)) only [go_sem,q2,q4,q5,q25,q26,q27,c0,c1]))
     refine⟨l.length-(i+1),by omega,i+1,by omega,?_,?_,?_⟩
     ·first|exact(he.app.set (by omega))|exact(he.set (by omega)).app
     ·simp [zv];omega
     ·simp
    ·have hil:i=l.length:=by omega
     subst hil
     rw [List.take_of_length_le (Nat.le_refl _)]at c0
     have e1:decide (l.length=0)=l.isEmpty:=by cases l<;>simp
     rw [e1]at c0
     have hz:=rl_zv (k:=O.length) x l.isEmpty (extR n hs.reverse l).reverse
     have hcast:(n:Int)+l.length=((n+l.length:Nat):Int):=by omega
     rw [hcast]
     generalize zv x l.isEmpty (extR n hs.reverse l).reverse=z at*
     repeat' (first|apply zs_|apply zb_|apply zc_|apply zt_ rfl|apply zf_ rfl|(apply zd_ rfl<;>intro ht<;>try omega)|((first|apply zr_|apply zk_|apply ze_|apply zq_|(apply zG<;>intro ht));all_goals try simp (disch:=first|omega|(simp only [lens];first|done|omega)) only [go_sem,q2,q4,q5,q25,q26,q27,c0,c1]))
     exact Ext.pure hw (he.set (by omega)) (zaq hz)
 ·have hv0:z3p n hs.length=false:=by simpa using hv
  rw [if_pos hv0]
  rw [hv0]at hV
  refine ACallsTo.of_body qiok (by simp) fun hw _=> ?_
  repeat' (first|apply zs_|apply zb_|apply zc_|apply zt_ rfl|apply zf_ rfl|(apply zd_ rfl<;>intro ht<;>try omega)|((first|apply zr_|apply zk_|apply ze_|apply zq_|(apply callW.mk_pu;(first|exact(fun _=>hV _)))|(apply callW.za;(first|exact(hV _)))|(apply zG<;>intro ht));all_goals try simp (disch:=first|omega|(simp only [lens];first|done|omega)) only [go_sem,r1]))
  exact DownV.pure hw (zaq (by simp [RL]))
end
section
def zcv:Nat->List AV:=fun n=>[.int .i64 n]
def nums(l:List (Nat)):List (List AV):=l.map zcv
@[go_sem] theorem zog (l:List (Nat)):(nums l).length=l.length:=by simp [nums]
@[go_sem] theorem nums_take (l:List (Nat)) (n:Nat):(nums l).take n=nums (l.take n):=by simp [nums,List.map_take]
@[go_sem] theorem nums_drop (l:List (Nat)) (n:Nat):(nums l).drop n=nums (l.drop n):=by simp [nums,List.map_drop]
@[go_sem] theorem nums_set (l:List (Nat)) (i:Nat) (x:Nat):(nums l).set i (zcv x)=nums (l.set i x):=by simp [nums,List.map_set]
def numsD(l:List (Nat))(i:Nat):Nat:=l.getD i 0
@[go_sem] theorem nums_get {l:List (Nat)} {i:Nat} (h:i<l.length):(nums l)[i]? =some (zcv (numsD l i)):=by
 simp [nums,numsD,List.getElem?_map,List.getElem?_eq_getElem h]
def trsR:Nat × Hash->List AV:=fun t=> .int .i64 t.1::hc t.2
def trs(l:List (Nat × Hash)):List (List AV):=l.map trsR
@[go_sem] theorem zsz (l:List (Nat × Hash)):(trs l).length=l.length:=by simp [trs]
@[go_sem] theorem trs_take (l:List (Nat × Hash)) (n:Nat):(trs l).take n=trs (l.take n):=by simp [trs,List.map_take]
@[go_sem] theorem trs_drop (l:List (Nat × Hash)) (n:Nat):(trs l).drop n=trs (l.drop n):=by simp [trs,List.map_drop]
@[go_sem] theorem trs_set (l:List (Nat × Hash)) (i:Nat) (x:Nat × Hash):(trs l).set i (trsR x)=trs (l.set i x):=by simp [trs,List.map_set]
def trsD(l:List (Nat × Hash))(i:Nat):Nat × Hash:=l.getD i (0,zeroH)
@[go_sem] theorem trs_get {l:List (Nat × Hash)} {i:Nat} (h:i<l.length):(trs l)[i]? =some (trsR (trsD l i)):=by
 simp [trs,trsD,List.getElem?_map,List.getElem?_eq_getElem h]
theorem RdSl.frz{sz:Nat}{τ news:Store}{v:AV}{es:List (List AV)}(h:RdSl (τ++news) sz es v)(hn:∀r off len lim e,v=.sl r off len lim e->τ.length<=r)(hr:RLss τ.length es):∃v2,SlV sz es v2/\ DR (FrzD τ news) v2 v:=by
 rcases h with(⟨rfl,rfl⟩| ⟨ex,rfl⟩)| ⟨r,off,lim,o,rfl,hg,h1,h2⟩
 ·exact⟨.nilsl,.inl ⟨rfl,rfl⟩,by simp [DR]⟩
 ·exact⟨.vsl sz es ex,.inr ⟨ex,rfl⟩,FrzD.same (by simpa only [RL]using hr)⟩
 ·exact⟨.vsl sz es false,.inr ⟨false,rfl⟩,FrzD.sl (hn _ _ _ _ _ rfl) hg h1 h2 hr⟩
theorem Ext.all{O O':Store}{v v2:AV}(hw:Wf O.length O)(he:Ext O O')(h:∀news,O'=O++news->DR (FrzD O news) v2 v):DownV O.length v O' v2 O:=by
 obtain⟨news,rfl⟩:=he
 exact DownV.all hw (h news rfl)
def OwnR(sz k:Nat)(O':Store)(v:AV)(es:List (List AV)):Prop:=(es=[]/\ v=.nilsl) \/ ∃r,k<=r/\ es ≠ []/\ v=.sl r 0 es.length none sz/\ O'[r]? =some (some es)
theorem OwnR.nil{sz k:Nat}{O':Store}:OwnR sz k O' .nilsl []:=.inl ⟨rfl,rfl⟩
theorem OwnR.cells{sz k:Nat}{O':Store}{v:AV}{es:List (List AV)}(h:OwnR sz k O' v es):cellsOf v=some [v]:=by
 rcases h with⟨_,rfl⟩| ⟨r,_,_,rfl,_⟩<;>rfl
theorem OwnR.rd{sz k:Nat}{O':Store}{v:AV}{es:List (List AV)}(h:OwnR sz k O' v es):RdSl O' sz es v:=by
 rcases h with⟨h,rfl⟩| ⟨r,_,_,rfl,hg⟩
 ·exact .inl (.inl ⟨rfl,h⟩)
 ·exact .inr ⟨r,0,none,es,rfl,hg,by omega,by simp⟩
theorem OwnR.len{sz k:Nat}{O':Store}{v:AV}{es:List (List AV)}(h:OwnR sz k O' v es):z1e v=some (.int .i64 es.length):=h.rd.len
theorem OwnR.set{sz k q:Nat}{O':Store}{v:AV}{es:List (List AV)}{x:Option AObj}(h:OwnR sz k O' v es)(hq:q<k):OwnR sz k (O'.set q x) v es:=by
 rcases h with h| ⟨r,h1,h2,h3,h4⟩
 ·exact .inl h
 ·exact .inr ⟨r,h1,h2,h3,by rw [z1r (by omega)];exact h4⟩
theorem OwnR.more{sz k:Nat}{O' y:Store}{v:AV}{es:List (List AV)}(h:OwnR sz k O' v es):OwnR sz k (O'++y) v es:=by
 rcases h with h| ⟨r,h1,h2,h3,h4⟩
 ·exact .inl h
 ·exact .inr ⟨r,h1,h2,h3,by rw [gapp (slen h4)];exact h4⟩
theorem OwnR.app{sz k:Nat}{O':Store}{v:AV}{es ys:List (List AV)}(h:OwnR sz k O' v es)(hk:k<=O'.length)(h0:ys.length ≠ 0)(hl:es.length+ys.length<=1073741824):
  ∃v' O2,aApp O' sz v ys=some (v',O2)/\ OwnR sz k O2 v' (es++ys)/\ (∀q,q<k->O2[q]? =O'[q]?)/\ (∀O:Store,O.length<=k->Ext O O'->Ext O O2)/\ k<=O2.length:=by
 have hne:es++ys ≠ []:=fun e=>h0 (by rw [(List.append_eq_nil_iff.1 e).2];rfl)
 rcases h with⟨rfl,rfl⟩| ⟨r,h1,h2,rfl,hg⟩
 ·refine⟨.sl O'.length 0 ys.length none sz,O'++ [some ys],by rw [z7y,if_neg h0,if_pos (by simpa using hl)],.inr ⟨O'.length,hk,hne,by simp,by simp⟩,fun q hq=>gapp (by omega),fun O _ he=>he.app,by simp;omega⟩
 ·have hr:=slen hg
  refine⟨.sl O'.length 0 (es.length+ys.length) none sz,O'.set r none++ [some (es++ys)],?_,.inr ⟨O'.length,hk,hne,by simp,by rw [z1k (by simp)];simp⟩,fun q hq=>by rw [gapp (by simp;omega),z1r (by omega)],fun O hs he=>(he.set (by omega)).app,by simp;omega⟩
  rw [z7z,if_neg h0,hg]
  simp only
  rw [if_pos ⟨trivial,by omega,by omega⟩,if_neg (by omega),List.drop_zero,List.take_of_length_le (Nat.le_refl _)]
theorem OwnR.frz{sz k:Nat}{τ news:Store}{v:AV}{es:List (List AV)}(h:OwnR sz k (τ++news) v es)(hk:τ.length<=k)(hr:RLss τ.length es):DR (FrzD τ news) (z18 sz es) v:=by
 unfold z18
 rcases h with⟨rfl,rfl⟩| ⟨r,h1,h2,rfl,hg⟩
 ·simp [DR]
 ·rw [if_neg h2]
  exact FrzD.sl (by omega) hg (by omega) (by simp) hr
theorem OwnR.fr{sz k:Nat}{τ O' news:Store}{v:AV}{es:List (List AV)}(h:OwnR sz k O' v es)(e:O'=τ++news)(hk:τ.length<=k)(hr:RLss τ.length es):DR (FrzD τ news) (z18 sz es) v:=by
 subst e;exact h.frz hk hr
end
section
attribute [local irreducible] ACallsTo ACallsP
theorem zd1:∀(f n:Nat),pc f n<=f
 | 0,_=>Nat.le_refl _
 |f+1,n=>by simp only [pc];have:=zd1 f (n/2);omega
theorem OwnN.base{sz:Nat}{τ y O':Store}{v:AV}{es:List (List AV)}(h:OwnN sz (τ++y) O' v es):OwnN sz τ O' v es:=by
 obtain⟨news,rfl,h⟩:=h
 refine⟨y++news,by rw [List.append_assoc],?_⟩
 rcases h with h| ⟨j,h0,rfl,hj⟩
 ·exact .inl h
 ·exact .inr ⟨y.length+j,h0,by rw [List.length_append];congr 1;omega,by rw [List.getElem?_append_right (by omega),Nat.add_sub_cancel_left];exact hj⟩
end
section
attribute [local irreducible] ACallsTo ACallsP
theorem zq9{k sz:Nat}{es:List (List AV)}(h:RLss k es):RL k (z18 sz es):=by
 unfold z18
 split
 ·simp [RL]
 ·simpa only [RL]using h
theorem RdSl.rel{O:Store}{sz:Nat}{es:List (List AV)}{x:AV}(h:RdSl O sz es x):z3k O sz x=some es:=by
 rcases h with(⟨rfl,rfl⟩| ⟨ex,rfl⟩)| ⟨r,off,lim,o,rfl,hg,h1,h2⟩
 ·rfl
 ·simp [z3k]
 ·simp [z3k,zaz,hg,h1,h2]
end
section
attribute [local irreducible] ACallsTo ACallsP
theorem zlp(n:Int)(hs l:List Hash)(x:AV):∃n' z e,extA n hs l x=.tup [.agg [.int .i64 n',z],.int .i64 e]/\ (∀k,RL k z)/\ cellsOf z=some [z]:=by
 unfold extA
 split
 ·exact⟨0,.nilsl,2,rfl,fun k=>by simp [RL],rfl⟩
 ·split
  ·exact⟨0,.nilsl,60,rfl,fun k=>by simp [RL],rfl⟩
  ·exact⟨_,_,0,rfl,fun k=>rl_zv _ _ _,zjf _ _ _⟩
theorem zjh(O:Store)(n:Int)(hs:List Hash)(x:AV)(h:Hash)(hx:RdSl O 32 (hr hs) x)(hn: -9223372036854775808<=n/\ n<=9223372036854775807)(hhl:hs.length<1000000):
  ACallsTo TC 31 [.agg [.int .i64 n,x],.agg (hc h)] O (extA n hs [h] x) O:=by
 have hE:=fun y=>zjn (O++y) n hs [h] x (.vsl 32 [hc h] true) hx.app (.inr ⟨true,rfl⟩) hn hhl (by simp)
 obtain⟨n',z,e,h',hz,hcz⟩:=zlp n hs [h] x
 rw [h']at hE ⊢
 unfold cellsOf at hcz
 refine ACallsTo.of_body qhok (by simp) fun hw _=> ?_
 repeat' (first|apply zs_|apply zb_|apply zc_|apply zt_ rfl|apply zf_ rfl|(apply zd_ rfl<;>intro ht<;>try omega)|((first|apply zr_|apply zk_|apply ze_|apply zq_|(apply callW.mk_pu;(first|exact(fun _=>hE _)))|(apply callW.za;(first|exact(hE _)))|(apply zG<;>intro ht));all_goals try simp (disch:=first|omega|(simp only [lens,z7,z6,zsz,zog,lQr];first|done|omega)) only [go_sem,hcz]))
 exact DownV.pure hw (zaq (hz _))
end
section
attribute [local irreducible] ACallsTo ACallsP
end
section
attribute [local irreducible] ACallsTo ACallsP
theorem z8v{sz:Nat}{es:List (List AV)}{z:AV}(h:SlV sz es z):cellsOf z=some [z]:=by
 rcases h with⟨rfl,_⟩| ⟨ex,rfl⟩<;>rfl
end
section
theorem zau(a b:Hash):zx [a,b]=z11 a b:=by
 rw [z7b (by simp)];simp [split2,zdd]
theorem zhy(a b c d:Hash):zx [a,b,c,d]=z11 (z11 a b) (z11 c d):=by
 rw [z7b (by simp)];simp [split4,zau]
attribute [local irreducible] ACallsTo ACallsP
end
section
attribute [local irreducible] ACallsTo ACallsP
end
section
attribute [local irreducible] ACallsTo ACallsP
end
section
attribute [local irreducible] ACallsTo ACallsP
theorem zji(O:Store)(x:AV)(hx:cellsOf x=some [x]):
  ACallsTo TC 53 [x] O (.fn 72 [.ptr O.length 0 0]) (O++ [some [[x]]]):=by
 unfold cellsOf at hx
 refine ACallsTo.of_body_keep qnok (by simp) ?_
 repeat' (first|apply zs_|apply zb_|apply zc_|apply zt_ rfl|apply zf_ rfl|(apply zd_ rfl<;>intro ht<;>try omega)|((first|apply zr_|apply zk_|apply ze_|apply zq_|(apply zG<;>intro ht));all_goals try simp (disch:=first|omega|(simp only [lens,z7,z6,lQr];first|done|omega)) only [go_sem,hx,z4e]))
def z6c(n:Int)(hs:List Hash):AV:=if z3p n hs.length=false then .tup [.agg (hc zeroH),.int .i64 2]else .tup [.agg (hc (z5v hs.reverse)),.int .i64 0]
theorem zd9{k:Nat}{h:Hash}{e:Int}:RL k (.tup [.agg (hc h),.int .i64 e]):=by simp only [RL,RLs];exact⟨z6b h,trivial,trivial⟩
theorem zqc{hs:List Hash}{m:Nat}(h:hs.length=m+1):z5v hs.reverse=((hs.take m).reverse.take m).foldl (fun o h=>z11 h o) (hd hs m):=by
 have e:hs=hs.take m++ [hd hs m]:=by rw [<-z7i (by omega),List.take_of_length_le (by omega)]
 have e2:hs.reverse=hd hs m::(hs.take m).reverse:=by
  conv=>lhs;rw [e]
  rw [List.reverse_append,List.reverse_singleton,List.singleton_append]
 have e3:(hs.take m).reverse.take m=(hs.take m).reverse:=List.take_of_length_le (by simp;omega)
 rw [e2,z5v,e3]
theorem zmb{R:List Hash}{j:Nat}(x:Hash)(h:j<R.length):(R.reverse.take (j+1)).foldl (fun o h=>z11 h o) x=z11 (hd R (R.length-1-j)) ((R.reverse.take j).foldl (fun o h=>z11 h o) x):=by
 have hj:j<R.reverse.length:=by rw [List.length_reverse];exact h
 rw [List.take_add_one,List.getElem?_eq_getElem hj]
 simp only [Option.toList_some,List.foldl_append,List.foldl_cons,List.foldl_nil]
 rw [z6t (by omega),List.getElem_reverse]
theorem z8n:∀(f m:Nat),0<m->m<2^f->0<pc f m
 | 0,m,h,h1=>by simp at h1;omega
 |f+1,m,h,h1=>by
  simp only [pc]
  by_cases h2:m%2=1
  ·omega
  ·have:=z8n f (m/2) (by omega) (by rw [Nat.pow_succ]at h1;omega)
   omega
theorem Root_v (O : Store) (n : Int) (hs : List Hash) (x : AV) (hx : SlV 32 (hr hs) x) (hl : hs.length < 1000000) (hn : -9223372036854775808 <= n /\ n <= 9223372036854775807) :
    ACallsTo TC 32 [.agg [.int .i64 n,x]] O (z6c n hs) O:=by
  have xc:=z8v hx
  unfold cellsOf at xc
  have r1:=hx.len
  rw [z6]at r1
  unfold z1e at r1
  have hV:=fun O=>zhn O n hs x (.of hx)
  have hT:=fun O=>z6j O [] .nilsl (.of (.inl ⟨rfl,rfl⟩)) (by decide)
  refine ACallsTo.of_bodyD qkok (by simp) fun hw _=> ?_
  unfold z6c
  refine SWpD.seqS ?_
  repeat' (first|apply zs_|apply zb_|apply zc_|apply zt_ rfl|apply zf_ rfl|(apply zd_ rfl<;>intro ht<;>try omega)|((first|apply zr_|apply zk_|apply ze_|apply zq_|(apply zG<;>intro ht));all_goals try simp (disch:=first|omega|(simp only [lens,z7,z6,lQr];first|done|omega)) only [go_sem,xc]))
  refine SWpD.seqS ?_
  cases hv:z3p n hs.length with
  |false=>
    rw [hv]at hV
    rw [if_pos rfl]
    repeat' (first|apply zs_|apply zb_|apply zc_|apply zt_ rfl|apply zf_ rfl|(apply zd_ rfl<;>intro ht<;>try omega)|((first|apply zr_|apply zk_|apply ze_|apply zq_|(apply callW.mk_pu;(first|exact(fun _=>hV _)))|(apply callW.za;(first|exact(hV _)))|(apply zG<;>intro ht));all_goals try simp (disch:=first|omega|(simp only [lens,z7,z6,lQr];first|done|omega)) only [go_sem,xc]))
    exact DownV.pure hw (zd9 (h:=zeroH))
  |true=>
    rw [hv]at hV
    rw [if_neg (by simp)]
    by_cases hn0:n=0
    · subst hn0
      have h0:hs=[]:=by
        have:=of_decide_eq_true hv
        exact List.eq_nil_of_length_eq_zero this.2.2
      subst h0
      repeat' (first|apply zs_|apply zb_|apply zc_|apply zt_ rfl|apply zf_ rfl|(apply zd_ rfl<;>intro ht<;>try omega)|((first|apply zr_|apply zk_|apply ze_|apply zq_|(apply callW.mk_pu;(first|exact(fun _=>hV _)|exact(fun _=>hT _)))|(apply callW.za;(first|exact(hV _)|exact(hT _)))|(apply zG<;>intro ht));all_goals try simp (disch:=first|omega|(simp only [lens,z7,z6,lQr];first|done|omega)) only [go_sem,xc]))
      exact DownV.pure hw zd9
    · obtain⟨_,hn2,hpc⟩:=of_decide_eq_true hv
      have hlen:∃m,hs.length=m+1:=by
        rcases Nat.eq_zero_or_pos hs.length with h|h
        · exfalso
          have:=z8n 64 n.toNat (by omega) (by omega)
          omega
        · exact⟨hs.length-1,by omega⟩
      obtain⟨m,hm⟩:=hlen
      obtain⟨ex,rfl⟩:=hx.vsl (by rw [z6];omega)
      have hm1:((hs.length:Nat):Int)-1=(m:Int):=by omega
      have hmm:((m:Nat):Int).toNat=m:=rfl
      have hB:=fun O t=>zji O (.vsl 32 (hr (hs.take m)) t) rfl
      have hlt:(hs.take m).length=m:=by rw [List.length_take];omega
      have hR:=zqc hm
      repeat' (first|apply zs_|apply zb_|apply zc_|apply zt_ rfl|apply zf_ rfl|(apply zd_ rfl<;>intro ht<;>try omega)|((first|apply zr_|apply zk_|apply ze_|apply zq_|(apply callW.mk_pu;(first|exact(fun _=>hV _)))|(apply callW.za;(first|exact(hV _)))|(apply zG<;>intro ht));all_goals try simp (disch:=first|omega|(simp only [lens,z7,z6,lQr];first|done|omega)) only [go_sem,xc,hn0]))
      refine SWpD.seqS ?_
      repeat' (first|apply zs_|apply zb_|apply zc_|apply zt_ rfl|apply zf_ rfl|(apply zd_ rfl<;>intro ht<;>try omega)|((first|apply zr_|apply zk_|apply ze_|apply zq_|(apply zG<;>intro ht));all_goals try simp (disch:=first|omega|(simp only [lens,z7,z6,lQr];first|done|omega)) only [go_sem,xc,r1,hm1]))
      refine SWpD.seqS ?_
      repeat' (first|apply zs_|apply zb_|apply zc_|apply zt_ rfl|apply zf_ rfl|(apply zd_ rfl<;>intro ht<;>try omega)|((first|apply zr_|apply zk_|apply ze_|apply zq_|(apply zG<;>intro ht));all_goals try simp (disch:=first|omega|(simp only [lens,z7,z6,lQr];first|done|omega)) only [go_sem,xc,r1,hm1,hmm]))
      refine SWpD.seqR ?_
      refine SWpD.seqS ?_
      repeat' (first|apply zs_|apply zb_|apply zc_|apply zt_ rfl|apply zf_ rfl|(apply zd_ rfl<;>intro ht<;>try omega)|((first|apply zr_|apply zk_|apply ze_|apply zq_|(apply callW.mk_pu;(first|exact(fun _=>hB _ _)))|(apply callW.za;(first|exact(hB _ _)))|(apply zG<;>intro ht));all_goals try simp (disch:=first|omega|(simp only [lens,z7,z6,lQr];first|done|omega)) only [go_sem,xc,r1,hm1,hmm]))
      refine SWpD.block ?_
      refine zq4 (rB := O.length + 3) (es := hr (hs.take m)) (by simp (disch:=first|omega|(simp only [lens,z7,z6,lQr];first|done|omega)) only [go_sem] <;> rfl) (by rw [z6]; omega) (by decide) (by decide) (fun e he => by
          simp only [hr,List.mem_map]at he
          obtain⟨h,_,rfl⟩:=he
          exact z7 h)
        (fun j O'=>O'[O.length+1]? =some (some [hc zeroH])/\ O'[O.length+2]? =some (some [hc (((hs.take m).reverse.take j).foldl (fun o h=>z11 h o) (hd hs m))])/\ (∃ex,O'[O.length+3]? =some (some [[.vsl 32 (hr (hs.take m)) ex]]))/\ ∃news,O'=O++news) ?_ ?_ ?_ ?_
      · refine⟨by simp (disch:=first|omega|(simp only [lens,z7,z6,lQr];first|done|omega)) only [go_sem]<;>rfl,by simp (disch:=first|omega|(simp only [lens,z7,z6,lQr];first|done|omega)) only [go_sem]<;>rfl,⟨_,by simp (disch:=first|omega|(simp only [lens,z7,z6,lQr];first|done|omega)) only [go_sem]<;>rfl⟩,_,rfl⟩
      · rintro j O' ⟨_,_,⟨ex,h⟩,_⟩
        exact⟨_,h,.inr ⟨ex,rfl⟩⟩
      · rintro l j O' cs ⟨i1,i2,⟨ex2,i3⟩,news,rfl⟩ hj hcs
        rw [z6,hlt]at hj
        have hcs2:cs=hc (hd (hs.take m) (m-1-j)):=by
          rw [z6,hlt,z8g (by omega)]at hcs
          exact(Option.some.inj hcs).symm
        subst hcs2
        have hN:=fun O=>z8z O (hd (hs.take m) (m-1-j)) (((hs.take m).reverse.take j).foldl (fun o h=>z11 h o) (hd hs m))
        have hst:=zmb (R:=hs.take m) (j:=j) (hd hs m) (by omega)
        rw [hlt]at hst
        rw [<-hst]at hN
        generalize ((hs.take m).reverse.take j).foldl (fun o h=>z11 h o) (hd hs m)=A at*
        generalize ((hs.take m).reverse.take (j+1)).foldl (fun o h=>z11 h o) (hd hs m)=B at*
        generalize hd (hs.take m) (m-1-j)=H at*
        rw [getElem?_app]at i1 i2 i3
        have l1:=slen i1
        have l2:=slen i2
        have l3:=slen i3
        refine SWpI.reg rfl ?_
        simp (disch:=first|omega|(simp only [lens,z7,z6,lQr];first|done|omega)) only [go_sem]
        refine SWpI.block ?_
        refine SWpI.reg rfl ?_
        simp (disch:=first|omega|(simp only [lens,z7,z6,lQr];first|done|omega)) only [go_sem,i1,i2,i3,l1,l2,l3]
        refine callW.za (hN _) trivial ?_
        simp (disch:=first|omega|(simp only [lens,z7,z6,lQr];first|done|omega)) only [go_sem,i1,i2,i3,l1,l2,l3]
        exact⟨⟨_,rfl⟩,_,rfl⟩
      · rintro O' ⟨i1,i2,⟨ex2,i3⟩,news,rfl⟩
        rw [z6,hlt]at i2
        rw [<-hR]at i2
        rw [getElem?_app]at i1 i2
        have l1:=slen i1
        have l2:=slen i2
        repeat' (first|apply zs_|apply zb_|apply zc_|apply zt_ rfl|apply zf_ rfl|(apply zd_ rfl<;>intro ht<;>try omega)|((first|apply zr_|apply zk_|apply ze_|apply zq_|(apply zG<;>intro ht));all_goals try simp (disch:=first|omega|(simp only [lens,z7,z6,lQr];first|done|omega)) only [go_sem,i1,i2,l1,l2]))
        exact DownV.pure hw zd9
end
section
attribute [local irreducible] ACallsTo ACallsP
theorem Root_h(O:Store)(n:Int)(hs:List Hash)(x:AV)(hx:RdSl O 32 (hr hs) x)(hl:hs.length<1000000)(hn: -9223372036854775808<=n/\ n<=9223372036854775807):
  ACallsTo TC 32 [.agg [.int .i64 n,x]] O (z6c n hs) O:=by
 obtain⟨x0,h0,hd⟩:=hx.lend (z33 hs)
 have hi:∀i:Int,RL 0 (.int .i64 i):=fun i=>by simp [RL]
 have:=ACallsTo.lend glok (Root_v [] n hs x0 h0 hl hn) (drs1 (drA (drsc (rl0 (hi n) O) (drs1 hd))))
 have e:sh O.length (z6c n hs)=z6c n hs:=by
  unfold z6c
  split
  all_goals simp only [sh,shs,zay]
 rwa [e,z8u,List.append_nil]at this
theorem ext_ok{O:Store}{n:Nat}{hs l:List Hash}{x:AV}(hx:RdSl O 32 (hr hs) x)(hl:hs.length=pc 13 n)(h:n+l.length<=4096):
  ∃z,extA n hs l x=.tup [.agg [.int .i64 ((n+l.length:Nat):Int),z],.int .i64 0]/\ SlV 32 (hr (extR n hs.reverse l).reverse) z:=by
 have hv:z3p n hs.length=true:=decide_eq_true ⟨by omega,by omega,by rw [Int.toNat_natCast,pc13 (by omega)];exact hl⟩
 refine⟨zv x l.isEmpty (extR n hs.reverse l).reverse,?_,zjg (O:=O) fun h=> ?_⟩
 ·unfold extA
  rw [hv,if_neg (by simp),if_neg (by omega),Int.toNat_natCast];rfl
 ·have:l=[]:=by cases l<;>simp at h ⊢
  subst this
  simpa [extR]using hx
theorem zad(l:List Hash)(h:l.length<=4096):(ofR l).length=pc 13 l.length:=by
 have:=za5 13 0 [] l (by omega) (by rw [zai];rfl)
 rwa [Nat.zero_add]at this
end
section
attribute [local irreducible] ACallsTo ACallsP
end
section
attribute [local irreducible] ACallsTo ACallsP
end
section
attribute [local irreducible] ACallsTo ACallsP
end
section

end
section

end
section

end
section

end
section
def chkH(m n:Int)(o nw:Hash)(ps:List Hash):Int:=chkI m n o.1 nw.1 (hb ps)
end
section
attribute [local irreducible] ACallsTo ACallsP
end
section
set_option maxRecDepth 10000
def qor0:yW:=[
 yI 2 (.alloc zZ0),
 yI 3 (.mv (.v (.str []))),
 yI 4 (.mv (.v (.bool false)))]
def qor1:yW:=[
 yM 7 0,
 yI 8 (.call (.v (.fn 96 [])) [(.t 7),(.v (.int .u64 32))]),
 yM 6 8,
 yE 9 0 6,
 yE 10 1 6,
 yE 11 2 6,
 yM 5 9,
 yM 3 10,
 yM 4 11]
def qor2:yW:=[
 yI 12 (.slice (.arr 32 1) (.t 2) none none none),
 yM 13 5,
 yI 14 (.copy 1 (.t 12) (.t 13))]
def qor3:yW:=[
 yL 15 true 32 2,
 yM 16 3,
 yM 17 4,
 yS 32 2 15,
 yM 3 16,
 yM 4 17]
def qoc4:yX:=yq qor3 .ret
def qoc5:yX:=yq qor2 qoc4
def qoc6:yX:=yq qor1 qoc5
def qoc7:yX:=yq qor0 qoc6
attribute [go_sem] qor0 qor1 qor2 qor3
theorem qook:cFn TC 87=some (18,[.c 2 true 32,.t 3,.t 4],qoc7):=by kernel_rfl
def qpr0:yW:=[
 yI 2 (.mv (.v (.str [])))]
def qpr1:yW:=[
 yM 4 0,
 yJ 5 .rem 4 .u64 128,
 yI 6 (.conv (.int .u8) (.t 5)),
 yI 7 (.lit 1 [(.t 6)]),
 yM 3 7]
def qpr2:yW:=[
 yM 8 0,
 yJ 9 .quo 8 .u64 128,
 yM 0 9]
def qpr3:yW:=[
 yM 10 0,
 yJ 11 .gtr 10 .u64 0]
def qpc4:yX:=.cond (.t 11) .skip (.exit 0)
def qpc5:yX:=yq qpr3 qpc4
def qpr6:yW:=[
 yM 14 0,
 yJ 15 .rem 14 .u64 128,
 yI 16 (.conv (.int .u8) (.t 15)),
 yJ 17 .or 16 .u8 128,
 yI 18 (.lit 1 [(.t 17)]),
 yM 19 3,
 yI 20 (.appB (.t 18) (.t 19)),
 yM 3 20]
def qpr7:yW:=[
 yM 12 0,
 yJ 13 .quo 12 .u64 128,
 yM 0 13]
def qpc8:yX:=.seq (.block 1 (.reg qpr6)) (.reg qpr7)
def qpc9:yX:=.seq qpc5 qpc8
def qpc10:yX:=.loop qpc9
def qpc11:yX:=.block 0 qpc10
def qpc12:yX:=yq qpr2 qpc11
def qpr13:yW:=[
 yM 21 3,
 yI 22 (.conv .str (.t 21)),
 yM 2 22]
def qpc14:yX:=yq qpr13 .ret
def qpc15:yX:=.seq qpc12 qpc14
def qpc16:yX:=yq qpr1 qpc15
def qpc17:yX:=yq qpr0 qpc16
attribute [go_sem] qpr0 qpr1 qpr2 qpr3 qpr6 qpr7 qpr13
theorem qpok:cFn TC 93=some (23,[.t 2],qpc17):=by kernel_rfl
def qqr0:yW:=[
 yI 2 (.mv (.v (.str [])))]
def qqr1:yW:=[
 yM 3 0,
 yI 4 (.lenStr (.t 3)),
 yI 5 (.conv (.int .u64) (.t 4)),
 yC 6 93 5,
 yM 7 0,
 yB 8 .add 6 7,
 yM 2 8]
def qqc2:yX:=yq qqr1 .ret
def qqc3:yX:=yq qqr0 qqc2
attribute [go_sem] qqr0 qqr1
theorem qqok:cFn TC 85=some (9,[.t 2],qqc3):=by kernel_rfl
def qrr0:yW:=[
 yI 4 (.mv (.v (.str []))),
 yI 5 (.mv (.v (.str []))),
 yI 6 (.mv (.v (.bool false)))]
def qrr1:yW:=[
 yM 7 1,
 yM 8 0,
 yI 9 (.lenStr (.t 8)),
 yI 10 (.conv (.int .u64) (.t 9)),
 yB 11 .gtr 7 10]
def qrr2:yW:=[
 yI 4 (.mv (.v (.str []))),
 yI 5 (.mv (.v (.str []))),
 yI 6 (.mv (.v (.bool false)))]
def qrc3:yX:=yq qrr2 .ret
def qrc4:yX:=.cond (.t 11) qrc3 .skip
def qrc5:yX:=yq qrr1 qrc4
def qrr6:yW:=[
 yM 12 0,
 yM 13 1,
 yI 14 (.slice .str (.t 12) none (some (.t 13)) none),
 yM 15 0,
 yM 16 1,
 yI 17 (.slice .str (.t 15) (some (.t 16)) none none),
 yM 4 14,
 yM 5 17,
 yI 6 (.mv (.v (.bool true)))]
def qrc7:yX:=yq qrr6 .ret
def qrc8:yX:=.seq qrc5 qrc7
def qrc9:yX:=yq qrr0 qrc8
attribute [go_sem] qrr0 qrr1 qrr2 qrr6
theorem qrok:cFn TC 96=some (18,[.t 4,.t 5,.t 6],qrc9):=by kernel_rfl
end
section
def u8(n:Nat):UInt8:=UInt8.ofNat n
theorem zj5{n:Nat}(h:n<256):(u8 n).toNat=n:=by unfold u8;rw [UInt8.toNat_ofNat'];omega
def z3q:Nat->Nat->List UInt8
 | 0,_=>[]
 |f+1,n=>if n<128 then [u8 (n+128)]else z3q f (n/128)++ [u8 (n%128+128)]
theorem zeq(f n:Nat):z3q (f+1) n=if n<128 then [u8 (n+128)]else z3q f (n/128)++ [u8 (n%128+128)]:=rfl
theorem zep:∀(f g n:Nat),n<128^f->n<128^g->0<f->0<g->z3q f n=z3q g n
 | 0,_,_,_,_,h,_=>by omega
 | _+1,0,_,_,_,_,h=>by omega
 |f+1,g+1,n,h,h',_,_=>by
  simp only [z3q]
  by_cases h1:n<128
  ·rw [if_pos h1,if_pos h1]
  ·rw [if_neg h1,if_neg h1]
   rw [Nat.pow_succ]at h h'
   have hf:0<f:=by
    rcases Nat.eq_zero_or_pos f with h0|h0
    ·subst h0;simp at h;omega
    ·exact h0
   have hg:0<g:=by
    rcases Nat.eq_zero_or_pos g with h0|h0
    ·subst h0;simp at h';omega
    ·exact h0
   rw [zep f g (n/128) (by omega) (by omega) hf hg]
def numS(n:Nat):List UInt8:=if n<128 then [u8 n]else z3q 10 (n/128)++ [u8 (n%128)]
end
section
attribute [local irreducible] ACallsTo ACallsP
theorem or128{n:Nat}(h:n<128):n ||| 128=n+128:=by
 have:=Nat.two_pow_add_eq_or_of_lt (i:=7) (b:=n) h 1
 simp at this
 rw [Nat.or_comm,<-this,Nat.add_comm]
theorem zkg(b:UInt8)(s:List UInt8):zo (b::s)=[.int .u8 b.toNat]::zo s:=by simp [zo,B8]
def preF(m:Nat):List UInt8:=if m=0 then []else z3q 10 m
theorem zpo{m:Nat}(h:0<m)(h2:m<18446744073709551616):preF m=preF (m/128)++ [u8 (m%128+128)]:=by
 unfold preF
 rw [if_neg (by omega),show (10:Nat)=9+1 from rfl,zeq]
 by_cases h1:m<128
 ·rw [if_pos h1,if_pos (by omega),show m%128+128=m+128 by omega];rfl
 ·rw [if_neg h1,if_neg (by omega),zep 9 10 (m/128) (by omega) (by omega) (by decide) (by decide)]
theorem zof(n:Nat):numS n=preF (n/128)++ [u8 (n%128)]:=by
 unfold numS preF
 by_cases h1:n<128
 ·rw [if_pos h1,if_pos (by omega),show n%128=n by omega];rfl
 ·rw [if_neg h1,if_neg (by omega)]
theorem zl5(O:Store)(n:Nat)(h:n<18446744073709551616):ACallsTo TC 93 [.int .u64 n] O (.str (numS n)) O:=by
 refine ACallsTo.of_body qpok (by simp) fun hw _=> ?_
 have hb:[[AV.int .u8 ((n:Int)%128)]]=zo [u8 (n%128)]:=by
  have:=zj5 (n:=n%128) (by omega)
  simp [zo,B8,this]
 have hd:(n:Int)/128=((n/128:Nat):Int):=by simp
 have hn:=zof n
 generalize u8 (n%128)=c0 at*
 repeat' (first|apply zs_|apply zb_|apply zc_|apply zt_ rfl|apply zf_ rfl|(apply zd_ rfl<;>intro ht<;>try omega)|((first|apply zr_|apply zk_|apply ze_|apply zq_|(apply zG<;>intro ht));all_goals try simp (disch:=first|omega|(simp only [lens,z7,z6,lQr,zu];first|done|omega)) only [go_sem,hb,hd]))
 refine zW.loop (fun k Z O'=>∃(m:Nat) (b:List UInt8) (v:AV),m<128^k/\ m<18446744073709551616/\ preF m++b=numS n/\ 0<b.length/\ b.length+k<=12/\ Ext O O'/\ (v=.vsl 1 (zo b) true \/ ∃r,O.length<=r/\ v=.sl r 0 b.length none 1/\ O'[r]? =some (some (zo b)))/\ Z 0=.int .u64 m/\ Z 3=v) 10 ?_ ?_
 ·exact⟨n/128,[c0],_,by omega,by omega,hn.symm,by simp,by simp,Ext.refl _,.inl rfl,by simp (disch:=first|omega|(simp only [lens,z7,z6,lQr,zu];first|done|omega)) only [go_sem],by simp (disch:=first|omega|(simp only [lens,z7,z6,lQr,zu];first|done|omega)) only [go_sem,hb]⟩
 ·rintro k Z O' ⟨m,b,v,hmk,hm,hmb,hb0,hbk,he,hv,q0,q3⟩
  by_cases h0:m=0
  ·subst h0
   rw [<-hmb]
   have e0:preF 0++b=b:=rfl
   rw [e0]
   rcases hv with rfl| ⟨r,hr,rfl,hg⟩
   ·repeat' (first|apply zs_|apply zb_|apply zc_|apply zt_ rfl|apply zf_ rfl|(apply zd_ rfl<;>intro ht<;>try omega)|((first|apply zr_|apply zk_|apply ze_|apply zq_|(apply zG<;>intro ht));all_goals try simp (disch:=first|omega|(simp only [lens,z7,z6,lQr,zu];first|done|omega)) only [go_sem,q0,q3]))
    exact Ext.pure hw he (z19 _ rfl)
   ·repeat' (first|apply zs_|apply zb_|apply zc_|apply zt_ rfl|apply zf_ rfl|(apply zd_ rfl<;>intro ht<;>try omega)|((first|apply zr_|apply zk_|apply ze_|apply zq_|(apply zG<;>intro ht));all_goals try simp (disch:=first|omega|(simp only [lens,z7,z6,lQr,zu];first|done|omega)) only [go_sem,q0,q3,hg]))
    exact Ext.pure hw he (z19 _ rfl)
  ·have hst:=zpo (m:=m) (by omega) hm
   have hc8:=zj5 (n:=m%128+128) (by omega)
   have hor:((((m:Int)%128).toNat ||| 128:Nat):Int)=(((u8 (m%128+128)).toNat:Nat):Int):=by
    have:((m:Int)%128).toNat=m%128:=by omega
    rw [this,or128 (by omega),hc8]
   have hd2:(m:Int)/128=((m/128:Nat):Int):=by simp
   rw [hst,List.append_assoc]at hmb
   have hkk:∃k',k=k'+1:=by
    cases k with
    |zero=>simp at hmk;omega
    |succ k=>exact⟨k,rfl⟩
   obtain⟨k,rfl⟩:=hkk
   rw [Nat.pow_succ]at hmk
   generalize u8 (m%128+128)=c at*
   have hcat:[AV.int .u8 (c.toNat:Int)]::zo b=zo (c::b):=(zkg c b).symm
   have hlen:(zo b).length=b.length:=zu b
   rcases hv with rfl| ⟨r,hr,rfl,hg⟩
   ·repeat' (first|apply zs_|apply zb_|apply zc_|apply zt_ rfl|apply zf_ rfl|(apply zd_ rfl<;>intro ht<;>try omega)|((first|apply zr_|apply zk_|apply ze_|apply zq_|(apply zG<;>intro ht));all_goals try simp (disch:=first|omega|(simp only [lens,z7,z6,lQr,zu];first|done|omega)) only [go_sem,q0,q3,hor,hd2,hcat]))
    exact⟨k,by omega,m/128,c::b,_,by omega,by omega,hmb,by simp,by simp;omega,he.app,.inr ⟨O'.length,he.le,by simp [Nat.add_comm],by simp⟩,rfl,rfl⟩
   ·repeat' (first|apply zs_|apply zb_|apply zc_|apply zt_ rfl|apply zf_ rfl|(apply zd_ rfl<;>intro ht<;>try omega)|((first|apply zr_|apply zk_|apply ze_|apply zq_|(apply zG<;>intro ht));all_goals try simp (disch:=first|omega|(simp only [lens,z7,z6,lQr,zu];first|done|omega)) only [go_sem,q0,q3,hor,hd2,hcat,hg]))
    exact⟨k,by omega,m/128,c::b,_,by omega,by omega,hmb,by simp,by simp;omega,he.app,.inr ⟨O'.length,he.le,by simp [Nat.add_comm],by simp⟩,rfl,rfl⟩
end
section
attribute [local irreducible] ACallsTo ACallsP
end
section
attribute [local irreducible] ACallsTo ACallsP
def z41(s:List UInt8)(n:Nat):Option (List UInt8 × List UInt8):=if n<=s.length then some (s.take n,s.drop n)else none
def stV:Option (List UInt8 × List UInt8)->AV
 |none=> .tup [.str [],.str [],.bool false]
 |some (a,r)=> .tup [.str a,.str r,.bool true]
def z6h(s:List UInt8):List UInt8:=numS s.length++s
theorem zgx(n:Nat):(numS n).length<=11:=by
 unfold numS
 split
 ·simp
 ·have:∀f m,(z3q f m).length<=f:=by
   intro f
   induction f with
   |zero=>intro m;simp [z3q]
   |succ f ih=>
    intro m
    rw [zeq]
    split
    ·simp
    ·have:=ih (m/128);simp;omega
  have:=this 10 (n/128)
  simp;omega
theorem zl6(O:Store)(s:List UInt8)(hs:s.length<1000000000):ACallsTo TC 85 [.str s] O (.str (z6h s)) O:=by
 refine ACallsTo.of_body qqok (by simp) fun hw _=> ?_
 have hN:=fun O=>zl5 O s.length (by omega)
 have h1:=zgx s.length
 unfold z6h
 generalize numS s.length=N at*
 repeat' (first|apply zs_|apply zb_|apply zc_|apply zt_ rfl|apply zf_ rfl|(apply zd_ rfl<;>intro ht<;>try omega)|((first|apply zr_|apply zk_|apply ze_|apply zq_|(apply callW.mk_pu;(first|exact(fun _=>hN _)))|(apply callW.za;(first|exact(hN _)))|(apply zG<;>intro ht));all_goals try simp (disch:=first|omega|(simp only [lens,z7,z6,lQr,zu,z1a];first|done|omega)) only [go_sem]))
 exact DownV.same hw (z19 _ rfl)
theorem zsm(O:Store)(s:List UInt8)(n:Nat)(hs:s.length<1000000000)(hn:n<18446744073709551616):ACallsTo TC 96 [.str s,.int .u64 n] O (stV (z41 s n)) O:=by
 refine ACallsTo.of_body qrok (by simp) fun hw _=> ?_
 by_cases h:n<=s.length
 ·unfold z41
  rw [if_pos h]
  unfold stV
  repeat' (first|apply zs_|apply zb_|apply zc_|apply zt_ rfl|apply zf_ rfl|(apply zd_ rfl<;>intro ht<;>try omega)|((first|apply zr_|apply zk_|apply ze_|apply zq_|(apply zG<;>intro ht));all_goals try simp (disch:=first|omega|(simp only [lens,z7,z6,lQr,zu,z1a];first|done|omega)) only [go_sem]))
  exact DownV.same hw (z19 _ rfl)
 ·unfold z41
  rw [if_neg h]
  unfold stV
  repeat' (first|apply zs_|apply zb_|apply zc_|apply zt_ rfl|apply zf_ rfl|(apply zd_ rfl<;>intro ht<;>try omega)|((first|apply zr_|apply zk_|apply ze_|apply zq_|(apply zG<;>intro ht));all_goals try simp (disch:=first|omega|(simp only [lens,z7,z6,lQr,zu,z1a];first|done|omega)) only [go_sem]))
  exact DownV.same hw (z19 _ rfl)
end
section
attribute [local irreducible] ACallsTo ACallsP
def toH(l:List UInt8):Hash:=if h:l.length=32 then⟨l,h⟩else zeroH
theorem hc_toH{l:List UInt8}(h:l.length=32):hc (toH l)=z14 l:=by simp [toH,h,hc]
theorem zsr(h:Hash):toH h.1=h:=by simp [toH,h.2]
def unS(s:List UInt8):Option (Hash × List UInt8):=(z41 s 32).map fun x=>(toH x.1,x.2)
def unV:Option (Hash × List UInt8)->AV
 |none=> .tup [.agg (hc zeroH),.str [],.bool false]
 |some (h,r)=> .tup [.agg (hc h),.str r,.bool true]
theorem zt1{s:List UInt8}(h:¬32<=s.length):unS s=none:=by simp [unS,z41,h]
theorem zj6{s:List UInt8}(h:32<=s.length):unS s=some (toH (s.take 32),s.drop 32):=by simp [unS,z41,h]
theorem zj7(h:Hash)(r:List UInt8):unV (some (h,r))=.tup [.agg (hc h),.str r,.bool true]:=rfl
theorem zt2:unV none=.tup [.agg z32,.str [],.bool false]:=rfl
theorem rl_un{k:Nat}{cs:List AV}{r:List UInt8}{b:Bool}(h:RLs k cs):RL k (.tup [.agg cs,.str r,.bool b]):=by
 simp only [RL,RLs];exact⟨h,trivial,trivial,trivial⟩
theorem zjd:z32.length=32:=rfl
theorem zl7(O:Store)(s:List UInt8)(hs:s.length<1000000000):ACallsTo TC 87 [.str s] O (unV (unS s)) O:=by
 refine ACallsTo.of_body qook (by simp) fun hw _=> ?_
 have hT:=fun O=>zsm O s 32 hs (by omega)
 by_cases h:32<=s.length
 ·rw [zj6 h]
  rw [zj7,hc_toH (by simp;omega)]
  have ht:z41 s 32=some (s.take 32,s.drop 32):=by simp [z41,h]
  rw [ht]at hT
  unfold stV at hT
  have hl:(s.take 32).length=32:=by simp;omega
  generalize s.take 32=a at*
  have hf:=zf0 a
  have hft:(zo a).take 32=zo a:=List.take_of_length_le (by rw [zu];omega)
  have hfc:(z14 a).length=32:=by rw [z1a];exact hl
  have hfd:(z14 a).drop 32=[]:=List.drop_of_length_le (by omega)
  have hfk:(z14 a).take 32=z14 a:=List.take_of_length_le (by omega)
  repeat' (first|apply zs_|apply zb_|apply zc_|apply zt_ rfl|apply zf_ rfl|(apply zd_ rfl<;>intro ht<;>try omega)|((first|apply zr_|apply zk_|apply ze_|apply zq_|(apply callW.mk_pu;(first|exact(fun _=>hT _)))|(apply callW.za;(first|exact(hT _)))|(apply zG<;>intro ht));all_goals try simp (disch:=first|omega|(simp only [lens,z7,z6,lQr,zu,z1a];first|done|omega)) only [go_sem,hf,hft,hl,hfc,hfd,hfk,List.append_nil,zjd]))
  exact DownV.pure hw (rl_un (z36 _))
 ·rw [zt1 h,zt2]
  have ht:z41 s 32=none:=by simp [z41,h]
  rw [ht]at hT
  unfold stV at hT
  have hbe:(zo []).flatten=([]:List AV):=rfl
  repeat' (first|apply zs_|apply zb_|apply zc_|apply zt_ rfl|apply zf_ rfl|(apply zd_ rfl<;>intro ht<;>try omega)|((first|apply zr_|apply zk_|apply ze_|apply zq_|(apply callW.mk_pu;(first|exact(fun _=>hT _)))|(apply callW.za;(first|exact(hT _)))|(apply zG<;>intro ht));all_goals try simp (disch:=first|omega|(simp only [lens,z7,z6,lQr,zu,z1a];first|done|omega)) only [go_sem,zjd,hbe,List.nil_append,List.drop_zero]))
  exact DownV.pure hw (rl_un (cs:=z32) (z36 (List.replicate 32 0)))
end
section
attribute [local irreducible] ACallsTo ACallsP
end
section
attribute [local irreducible] ACallsTo ACallsP
def catS(l:List Hash):List UInt8:=(l.map (·.1)).flatten
theorem zbr:∀(l:List Hash),(catS l).length=32*l.length
 | []=>rfl
 |h::l=>by
  have:=zbr l
  simp only [catS,List.map_cons,List.flatten_cons,List.length_append,List.length_cons,h.2]at this ⊢
  omega
theorem zl1{l:List Hash}{i:Nat}(h:i<l.length):catS (l.take (i+1))=catS (l.take i)++(hd l i).1:=by
 rw [z7i h];simp [catS]
end
section
set_option maxRecDepth 10000
def qsr0:yW:=[
 yI 4 (.mv (.v .nilsl)),
 yK 5 .i64 0]
def qsr1:yW:=[
 yM 8 1,
 yJ 9 .lss 8 .i64 0,
 yM 10 9,
 yV 11 10 false 1,
 yV 12 10 false 0,
 yG 13 10 false (.lenSl (.t 12)),
 yG 14 10 false (.bin .geq .none (.t 11) (.t 13)),
 yP 15 10 14]
def qsr2:yW:=[
 yI 4 (.mv (.v .nilsl)),
 yK 5 .i64 2]
def qsc3:yX:=yq qsr2 .ret
def qsc4:yX:=.cond (.t 15) qsc3 .skip
def qsc5:yX:=yq qsr1 qsc4
def qsr6:yW:=[
 yI 6 (.mv (.v .nilsl))]
def qsr7:yW:=[
 yM 16 0,
 yI 17 (.lenSl (.t 16)),
 yJ 18 .gtr 17 .i64 1]
def qsc8:yX:=.cond (.t 18) .skip (.exit 0)
def qsc9:yX:=yq qsr7 qsc8
def qsr10:yW:=[
 yM 19 0,
 yI 20 (.lenSl (.t 19)),
 yC 21 27 20,
 yM 7 21]
def qsr11:yW:=[
 yM 22 1,
 yM 23 7,
 yB 24 .lss 22 23]
def qsr12:yW:=[
 yM 25 6,
 yM 26 0,
 yM 27 7,
 yI 28 (.slice (.sl 32) (.t 26) (some (.t 27)) none none),
 yC 29 11 28,
 yI 30 (.lit 32 [(.t 29)]),
 yI 31 (.app 32 (.t 25) (.t 30)),
 yM 6 31]
def qsr13:yW:=[
 yM 32 0,
 yM 33 7,
 yI 34 (.slice (.sl 32) (.t 32) none (some (.t 33)) none),
 yM 0 34]
def qsc14:yX:=yq qsr12 (.reg qsr13)
def qsr15:yW:=[
 yM 35 6,
 yM 36 0,
 yM 37 7,
 yI 38 (.slice (.sl 32) (.t 36) none (some (.t 37)) none),
 yC 39 11 38,
 yI 40 (.lit 32 [(.t 39)]),
 yI 41 (.app 32 (.t 35) (.t 40)),
 yM 6 41]
def qsr16:yW:=[
 yM 42 0,
 yM 43 7,
 yI 44 (.slice (.sl 32) (.t 42) (some (.t 43)) none none),
 yM 45 1,
 yM 46 7,
 yB 47 .sub 45 46,
 yM 0 44,
 yM 1 47]
def qsc17:yX:=yq qsr15 (.reg qsr16)
def qsc18:yX:=.cond (.t 24) qsc14 qsc17
def qsc19:yX:=yq qsr11 qsc18
def qsc20:yX:=yq qsr10 qsc19
def qsc21:yX:=.block 1 qsc20
def qsc22:yX:=.seq qsc9 qsc21
def qsc23:yX:=.loop qsc22
def qsr24:yW:=[
 yM 48 6,
 yC 49 73 48]
def qsr25:yW:=[
 yM 50 6,
 yM 4 50,
 yK 5 .i64 0]
def qsc26:yX:=yq qsr25 .ret
def qsc27:yX:=yq qsr24 qsc26
def qsc28:yX:=.seq (.block 0 qsc23) qsc27
def qsc29:yX:=yq qsr6 qsc28
def qsc30:yX:=.seq qsc5 qsc29
def qsc31:yX:=yq qsr0 qsc30
attribute [go_sem] qsr0 qsr1 qsr2 qsr6 qsr7 qsr10 qsr11 qsr12 qsr13 qsr15 qsr16 qsr24 qsr25
theorem qsok:cFn TC 54=some (51,[.t 4,.t 5],qsc31):=by kernel_rfl
def qtr0:yW:=[
 yI 5 (.box (.t 0)),
 yI 9 (.box (.t 4)),
 yK 10 .i64 0]
def qtr1:yW:=[
 yM 15 2,
 yJ 16 .lss 15 .i64 1,
 yM 17 16,
 yV 18 17 false 2,
 yG 19 17 false (.bin .gtr .none (.t 18) (.v (.int .i64 4096))),
 yP 20 17 19,
 yM 21 20,
 yV 22 21 false 1,
 yG 23 21 false (.bin .lss .none (.t 22) (.v (.int .i64 0))),
 yP 24 21 23,
 yM 25 24,
 yV 26 25 false 1,
 yV 27 25 false 2,
 yG 28 25 false (.bin .geq .none (.t 26) (.t 27)),
 yP 29 25 28]
def qtr2:yW:=[
 yK 10 .i64 2]
def qtc3:yX:=yq qtr2 .ret
def qtc4:yX:=.cond (.t 29) qtc3 .skip
def qtc5:yX:=yq qtr1 qtc4
def qtr6:yW:=[
 yM 30 2,
 yJ 31 .sub 30 .i64 1,
 yM 11 31]
def qtr7:yW:=[
 yK 12 .i64 0]
def qtr8:yW:=[
 yM 32 3,
 yI 33 (.lenSl (.t 32)),
 yK 34 .i64 0]
def qtr9:yW:=[
 yB 35 .lss 34 33]
def qtr10:yW:=[
 yI 36 (.iaSl 32 (.t 32) (.t 34)),
 yL 37 true 32 36,
 yI 14 (.alloc zZ0),
 yS 32 14 37]
def qtr11:yW:=[
 yM 38 11,
 yJ 39 .eql 38 .i64 0]
def qtc12:yX:=.cond (.t 39) (.exit 0) .skip
def qtc13:yX:=yq qtr11 qtc12
def qtr14:yW:=[
 yM 40 1,
 yJ 41 .rem 40 .i64 2,
 yJ 42 .eql 41 .i64 1,
 yM 43 42,
 yV 44 43 false 1,
 yV 45 43 false 11,
 yG 46 43 false (.bin .eql .none (.t 44) (.t 45)),
 yP 47 43 46]
def qtr15:yW:=[
 yL 48 true 32 14,
 yL 49 true 32 5,
 yD 50 28 48 49,
 yS 32 5 50]
def qtr16:yW:=[
 yM 51 1,
 yJ 52 .rem 51 .i64 2,
 yJ 53 .eql 52 .i64 0,
 yM 54 53,
 yV 55 54 true 1,
 yG 56 54 true (.bin .gtr .none (.t 55) (.v (.int .i64 0))),
 yQ 57 54 56]
def qtc17:yX:=.cond (.t 57) .skip (.exit 2)
def qtc18:yX:=yq qtr16 qtc17
def qtr19:yW:=[
 yM 58 1,
 yJ 59 .quo 58 .i64 2,
 yM 60 11,
 yJ 61 .quo 60 .i64 2,
 yM 1 59,
 yM 11 61]
def qtc20:yX:=.block 3 (.reg qtr19)
def qtc21:yX:=.seq qtc18 qtc20
def qtc22:yX:=.loop qtc21
def qtc23:yX:=.block 2 qtc22
def qtc24:yX:=yq qtr15 qtc23
def qtr25:yW:=[
 yL 62 true 32 5,
 yL 63 true 32 14,
 yD 64 28 62 63,
 yS 32 5 64]
def qtc26:yX:=.cond (.t 47) qtc24 (.reg qtr25)
def qtc27:yX:=yq qtr14 qtc26
def qtr28:yW:=[
 yM 65 1,
 yJ 66 .quo 65 .i64 2,
 yM 67 11,
 yJ 68 .quo 67 .i64 2,
 yM 1 66,
 yM 11 68]
def qtr29:yW:=[
 yM 69 12,
 yJ 70 .add 69 .i64 1,
 yM 12 70]
def qtc30:yX:=yq qtr28 (.reg qtr29)
def qtc31:yX:=.seq qtc27 qtc30
def qtc32:yX:=.seq qtc13 qtc31
def qtc33:yX:=yq qtr10 qtc32
def qtr34:yW:=[
 yJ 71 .add 34 .i64 1,
 yM 34 71]
def qtc35:yX:=.seq (.block 1 qtc33) (.reg qtr34)
def qtc36:yX:=.seq (.cond (.t 35) .skip (.exit 0)) qtc35
def qtc37:yX:=yq qtr9 qtc36
def qtc38:yX:=.loop qtc37
def qtc39:yX:=.block 0 qtc38
def qtc40:yX:=yq qtr8 qtc39
def qtr41:yW:=[
 yM 72 11,
 yJ 73 .neq 72 .i64 0,
 yM 74 73,
 yV 75 74 false 12,
 yV 76 74 false 3,
 yG 77 74 false (.lenSl (.t 76)),
 yG 78 74 false (.bin .neq .none (.t 75) (.t 77)),
 yP 79 74 78,
 yM 80 79,
 yU 81 80 false true 32 5,
 yU 82 80 false true 32 9,
 yG 83 80 false (.bin .neq (.agg (List.replicate 32 (.i .u8)++ [])) (.t 81) (.t 82)),
 yP 84 80 83]
def qtr42:yW:=[
 yK 10 .i64 80]
def qtc43:yX:=yq qtr42 .ret
def qtc44:yX:=.cond (.t 84) qtc43 .skip
def qtc45:yX:=yq qtr41 qtc44
def qtr46:yW:=[
 yK 10 .i64 0]
def qtc47:yX:=yq qtr46 .ret
def qtc48:yX:=.seq qtc45 qtc47
def qtc49:yX:=.seq qtc40 qtc48
def qtc50:yX:=.seq .skip qtc49
def qtc51:yX:=yq qtr7 qtc50
def qtc52:yX:=yq qtr6 qtc51
def qtc53:yX:=.seq qtc5 qtc52
def qtc54:yX:=.scope qtc53
def qtc55:yX:=yq qtr0 qtc54
attribute [go_sem] qtr0 qtr1 qtr2 qtr6 qtr7 qtr8 qtr9 qtr10 qtr11 qtr14 qtr15 qtr16 qtr19 qtr25 qtr28 qtr29 qtr34 qtr41 qtr42 qtr46
theorem qtok:cFn TC 76=some (85,[.t 10],qtc55):=by kernel_rfl
def qur0:yW:=[
 yM 4 0,
 yI 5 (.lenSl (.t 4)),
 yJ 6 .sub 5 .i64 1,
 yK 2 .i64 0,
 yM 3 6]
def qur1:yW:=[
 yM 7 2,
 yM 8 3,
 yB 9 .lss 7 8]
def quc2:yX:=.cond (.t 9) .skip (.exit 0)
def quc3:yX:=yq qur1 quc2
def qur4:yW:=[
 yM 14 0,
 yM 15 2,
 yM 16 0,
 yM 17 3,
 yM 18 0,
 yM 19 3,
 yI 20 (.iaSl 32 (.t 18) (.t 19)),
 ⟨some 21,none,.rd,.load true 32 (.t 20)⟩,
 yM 22 0,
 yM 23 2,
 yI 24 (.iaSl 32 (.t 22) (.t 23)),
 ⟨some 25,none,.rd,.load true 32 (.t 24)⟩,
 yI 26 (.iaSl 32 (.t 14) (.t 15)),
 yS 32 26 21,
 yI 27 (.iaSl 32 (.t 16) (.t 17)),
 yS 32 27 25]
def qur5:yW:=[
 yM 10 2,
 yJ 11 .add 10 .i64 1,
 yM 12 3,
 yJ 13 .sub 12 .i64 1,
 yM 2 11,
 yM 3 13]
def quc6:yX:=.seq (.block 1 (.reg qur4)) (.reg qur5)
def quc7:yX:=.seq quc3 quc6
def quc8:yX:=.loop quc7
def quc9:yX:=.block 0 quc8
def quc10:yX:=yq qur0 quc9
attribute [go_sem] qur0 qur1 qur4 qur5
theorem quok:cFn TC 73=some (28,[],quc10):=by kernel_rfl
end
section
set_option maxRecDepth 10000
def qvr0:yW:=[
 yI 2 (.alloc zZ0)]
def qvr1:yW:=[
 yM 6 0,
 yI 7 (.lenSl (.t 6)),
 yJ 8 .neq 7 .i64 512]
def qvr2:yW:=[
 yI 9 (.build zZ0 []),
 yS 32 2 9]
def qvc3:yX:=yq qvr2 .ret
def qvc4:yX:=.cond (.t 8) qvc3 .skip
def qvc5:yX:=yq qvr1 qvc4
def qvr6:yW:=[
 yI 3 (.allB)]
def qvr7:yW:=[
 yI 10 (.call (.v (.fn 64 [])) [(.t 3),(.v (.int .u8 4))])]
def qvr8:yW:=[
 yM 11 0,
 yI 12 (.lenSl (.t 11)),
 yK 13 .i64 0]
def qvr9:yW:=[
 yB 14 .lss 13 12]
def qvr10:yW:=[
 yI 15 (.iaSl 32 (.t 11) (.t 13)),
 yL 16 true 32 15,
 yI 5 (.alloc zZ0),
 yS 32 5 16]
def qvr11:yW:=[
 yL 17 true 32 5,
 yC 18 48 17,
 yD 19 65 3 18]
def qvc12:yX:=yq qvr10 (.reg qvr11)
def qvr13:yW:=[
 yJ 20 .add 13 .i64 1,
 yM 13 20]
def qvc14:yX:=.seq (.block 1 qvc12) (.reg qvr13)
def qvc15:yX:=.seq (.cond (.t 14) .skip (.exit 0)) qvc14
def qvc16:yX:=yq qvr9 qvc15
def qvc17:yX:=.loop qvc16
def qvc18:yX:=.block 0 qvc17
def qvc19:yX:=yq qvr8 qvc18
def qvr20:yW:=[
 yC 21 66 3,
 yC 22 21 21,
 yS 32 2 22]
def qvc21:yX:=yq qvr20 .ret
def qvc22:yX:=.seq qvc19 qvc21
def qvc23:yX:=yq qvr7 qvc22
def qvc24:yX:=yq qvr6 qvc23
def qvc25:yX:=.seq qvc5 qvc24
def qvc26:yX:=yq qvr0 qvc25
attribute [go_sem] qvr0 qvr1 qvr2 qvr6 qvr7 qvr8 qvr9 qvr10 qvr11 qvr13 qvr20
theorem qvok:cFn TC 49=some (23,[.c 2 true 32],qvc26):=by kernel_rfl
def qwr0:yW:=[
 yI 4 (.mv (.v .nilsl))]
def qwr1:yW:=[
 yM 7 1,
 yJ 8 .lss 7 .i64 0,
 yM 9 8,
 yV 10 9 false 1,
 yG 11 9 false (.bin .geq .none (.t 10) (.v (.int .i64 2147483648))),
 yP 12 9 11]
def qwr2:yW:=[
 yI 4 (.mv (.v .nilsl))]
def qwc3:yX:=yq qwr2 .ret
def qwc4:yX:=.cond (.t 12) qwc3 .skip
def qwc5:yX:=yq qwr1 qwc4
def qwr6:yW:=[
 yI 13 (.make 32 zZ0 (.v (.int .i64 512)) (.v (.int .i64 512))),
 yM 5 13]
def qwr7:yW:=[
 yM 14 5,
 yI 15 (.lenSl (.t 14)),
 yK 16 .i64 0]
def qwr8:yW:=[
 yB 17 .lss 16 15]
def qwr9:yW:=[
 yM 18 16,
 yM 6 18]
def qwr10:yW:=[
 yM 19 5,
 yM 20 6,
 yM 21 0,
 yM 22 1,
 yM 23 6,
 yJ 24 .quo 23 .i64 2,
 yM 25 6,
 yJ 26 .rem 25 .i64 2,
 yI 27 (.call (.v (.fn 68 [])) [(.t 21),(.t 22),(.t 24),(.t 26)]),
 yC 28 48 27,
 yC 29 67 28,
 yI 30 (.iaSl 32 (.t 19) (.t 20)),
 yS 32 30 29]
def qwc11:yX:=yq qwr9 (.reg qwr10)
def qwr12:yW:=[
 yJ 31 .add 16 .i64 1,
 yM 16 31]
def qwc13:yX:=.seq (.block 1 qwc11) (.reg qwr12)
def qwc14:yX:=.seq (.cond (.t 17) .skip (.exit 0)) qwc13
def qwc15:yX:=yq qwr8 qwc14
def qwc16:yX:=.loop qwc15
def qwc17:yX:=.block 0 qwc16
def qwc18:yX:=yq qwr7 qwc17
def qwr19:yW:=[
 yM 32 5,
 yM 4 32]
def qwc20:yX:=yq qwr19 .ret
def qwc21:yX:=.seq qwc18 qwc20
def qwc22:yX:=yq qwr6 qwc21
def qwc23:yX:=.seq qwc5 qwc22
def qwc24:yX:=yq qwr0 qwc23
attribute [go_sem] qwr0 qwr1 qwr2 qwr6 qwr7 qwr8 qwr9 qwr10 qwr12 qwr19
theorem qwok:cFn TC 50=some (33,[.t 4],qwc24):=by kernel_rfl
def qxr0:yW:=[
 yI 5 (.box (.t 2)),
 yI 6 (.mv (.v (.str [])))]
def qxr1:yW:=[
 yM 13 0,
 yM 14 1,
 yD 15 50 13 14,
 yM 7 15]
def qxr2:yW:=[
 yM 16 7,
 yI 17 (.bin .eql .slc (.t 16) (.v .nilsl))]
def qxr3:yW:=[
 yI 6 (.mv (.v (.str [])))]
def qxc4:yX:=yq qxr3 .ret
def qxc5:yX:=.cond (.t 17) qxc4 .skip
def qxc6:yX:=yq qxr2 qxc5
def qxr7:yW:=[
 yL 18 true 32 5,
 yC 19 48 18,
 yM 8 19]
def qxr8:yW:=[
 yI 9 (.allB),
 yI 10 (.allB)]
def qxr9:yW:=[
 yK 20 .i64 0]
def qxr10:yW:=[
 yJ 21 .lss 20 .i64 256]
def qxr11:yW:=[
 yM 22 20,
 yM 11 22]
def qxr12:yW:=[
 yM 23 8,
 yM 24 11,
 yD 25 74 23 24,
 yM 12 25]
def qxr13:yW:=[
 yM 26 0,
 yM 27 1,
 yM 28 11,
 yM 29 12,
 yI 30 (.call (.v (.fn 68 [])) [(.t 26),(.t 27),(.t 28),(.t 29)]),
 yC 31 48 30,
 yD 32 65 9 31]
def qxr14:yW:=[
 yM 33 7,
 yM 34 11,
 yI 35 (.bin .mul .none (.v (.int .i64 2)) (.t 34)),
 yJ 36 .add 35 .i64 1,
 yM 37 12,
 yB 38 .sub 36 37,
 yI 39 (.iaSl 32 (.t 33) (.t 38)),
 yL 40 true 32 39,
 yC 41 48 40,
 yD 42 65 10 41]
def qxc15:yX:=yq qxr13 (.reg qxr14)
def qxc16:yX:=yq qxr12 qxc15
def qxc17:yX:=yq qxr11 qxc16
def qxr18:yW:=[
 yJ 43 .add 20 .i64 1,
 yM 20 43]
def qxc19:yX:=.seq (.block 1 qxc17) (.reg qxr18)
def qxc20:yX:=.seq (.cond (.t 21) .skip (.exit 0)) qxc19
def qxc21:yX:=yq qxr10 qxc20
def qxc22:yX:=.loop qxc21
def qxc23:yX:=.block 0 qxc22
def qxc24:yX:=yq qxr9 qxc23
def qxr25:yW:=[
 yC 44 66 9,
 yC 45 66 10,
 yB 46 .add 44 45,
 yM 6 46]
def qxc26:yX:=yq qxr25 .ret
def qxc27:yX:=.seq qxc24 qxc26
def qxc28:yX:=yq qxr8 qxc27
def qxc29:yX:=yq qxr7 qxc28
def qxc30:yX:=.seq qxc6 qxc29
def qxc31:yX:=yq qxr1 qxc30
def qxc32:yX:=yq qxr0 qxc31
attribute [go_sem] qxr0 qxr1 qxr2 qxr3 qxr7 qxr8 qxr9 qxr10 qxr11 qxr12 qxr13 qxr14 qxr18 qxr25
theorem qxok:cFn TC 55=some (47,[.t 6],qxc32):=by kernel_rfl
def qyr0:yW:=[
 yI 3 (.box (.t 1)),
 yI 4 (.alloc zZ0),
 yK 5 .i64 0]
def qyr1:yW:=[
 yM 12 0,
 yI 13 (.lenStr (.t 12)),
 yJ 14 .neq 13 .i64 16384]
def qyr2:yW:=[
 yI 15 (.build zZ0 []),
 yS 32 4 15,
 yK 5 .i64 10]
def qyc3:yX:=yq qyr2 .ret
def qyc4:yX:=.cond (.t 14) qyc3 .skip
def qyc5:yX:=yq qyr1 qyc4
def qyr6:yW:=[
 yL 16 true 32 3,
 yC 17 48 16,
 yM 6 17]
def qyr7:yW:=[
 yI 18 (.make 32 zZ0 (.v (.int .i64 512)) (.v (.int .i64 512))),
 yM 7 18]
def qyr8:yW:=[
 yK 19 .i64 0]
def qyr9:yW:=[
 yJ 20 .lss 19 .i64 256]
def qyr10:yW:=[
 yM 21 19,
 yM 8 21]
def qyr11:yW:=[
 yM 22 6,
 yM 23 8,
 yD 24 74 22 23,
 yM 9 24]
def qyr12:yW:=[
 yM 25 0,
 yM 26 8,
 yJ 27 .mul 26 .i64 32,
 yM 28 8,
 yJ 29 .add 28 .i64 1,
 yJ 30 .mul 29 .i64 32,
 yI 31 (.slice .str (.t 25) (some (.t 27)) (some (.t 30)) none),
 yM 32 0,
 yM 33 8,
 yI 34 (.bin .add .none (.v (.int .i64 256)) (.t 33)),
 yJ 35 .mul 34 .i64 32,
 yI 36 (.slice .str (.t 32) (some (.t 35)) none none),
 yM 10 31,
 yM 11 36]
def qyr13:yW:=[
 yM 37 7,
 yM 38 8,
 yI 39 (.bin .mul .none (.v (.int .i64 2)) (.t 38)),
 yM 40 9,
 yB 41 .add 39 40,
 yM 42 10,
 yC 43 67 42,
 yI 44 (.iaSl 32 (.t 37) (.t 41)),
 yS 32 44 43]
def qyr14:yW:=[
 yM 46 7,
 yM 47 8,
 yI 48 (.bin .mul .none (.v (.int .i64 2)) (.t 47)),
 yJ 49 .add 48 .i64 1,
 yM 50 9,
 yB 51 .sub 49 50,
 yM 52 11,
 yC 53 87 52,
 yM 45 53,
 yE 54 0 45,
 yE 55 1 45,
 yE 56 2 45,
 yI 57 (.iaSl 32 (.t 46) (.t 51)),
 yS 32 57 54]
def qyc15:yX:=yq qyr13 (.reg qyr14)
def qyc16:yX:=yq qyr12 qyc15
def qyc17:yX:=yq qyr11 qyc16
def qyc18:yX:=yq qyr10 qyc17
def qyr19:yW:=[
 yJ 58 .add 19 .i64 1,
 yM 19 58]
def qyc20:yX:=.seq (.block 1 qyc18) (.reg qyr19)
def qyc21:yX:=.seq (.cond (.t 20) .skip (.exit 0)) qyc20
def qyc22:yX:=yq qyr9 qyc21
def qyc23:yX:=.loop qyc22
def qyc24:yX:=.block 0 qyc23
def qyc25:yX:=yq qyr8 qyc24
def qyr26:yW:=[
 yM 59 7,
 yC 60 49 59,
 yS 32 4 60,
 yK 5 .i64 0]
def qyc27:yX:=yq qyr26 .ret
def qyc28:yX:=.seq qyc25 qyc27
def qyc29:yX:=yq qyr7 qyc28
def qyc30:yX:=yq qyr6 qyc29
def qyc31:yX:=.seq qyc5 qyc30
def qyc32:yX:=yq qyr0 qyc31
attribute [go_sem] qyr0 qyr1 qyr2 qyr6 qyr7 qyr8 qyr9 qyr10 qyr11 qyr12 qyr13 qyr14 qyr19 qyr26
theorem qyok:cFn TC 75=some (61,[.c 4 true 32,.t 5],qyc32):=by kernel_rfl
def qzr0:yW:=[
 yK 4 .i64 0,
 yI 5 (.mv (.v .any))]
def qzr1:yW:=[
 yM 6 0,
 yC 7 84 6]
def qzr2:yW:=[
 yM 8 0,
 yM 9 0,
 yI 10 (.nilc (.t 9)),
 yF 11 1 10,
 yL 12 false 1 11,
 yM 13 1,
 yI 14 (.appB (.t 12) (.t 13)),
 yI 15 (.nilc (.t 8)),
 yF 16 1 15,
 yS 1 16 14]
def qzr3:yW:=[
 yM 17 1,
 yI 18 (.lenStr (.t 17)),
 yM 4 18,
 yI 5 (.mv (.v .any))]
def qzc4:yX:=yq qzr3 .ret
def qzc5:yX:=yq qzr2 qzc4
def qzc6:yX:=yq qzr1 qzc5
def qzc7:yX:=yq qzr0 qzc6
attribute [go_sem] qzr0 qzr1 qzr2 qzr3
theorem qzok:cFn TC 65=some (19,[.t 4,.t 5],qzc7):=by kernel_rfl
def q10r0:yW:=[
 yI 4 (.mv (.v .any))]
def q10r1:yW:=[
 yM 5 0,
 yC 6 84 5]
def q10r2:yW:=[
 yM 7 0,
 yM 8 0,
 yI 9 (.nilc (.t 8)),
 yF 10 1 9,
 yL 11 false 1 10,
 yM 12 1,
 yI 13 (.lit 1 [(.t 12)]),
 yI 14 (.appB (.t 11) (.t 13)),
 yI 15 (.nilc (.t 7)),
 yF 16 1 15,
 yS 1 16 14]
def q10r3:yW:=[
 yI 4 (.mv (.v .any))]
def q10c4:yX:=yq q10r3 .ret
def q10c5:yX:=yq q10r2 q10c4
def q10c6:yX:=yq q10r1 q10c5
def q10c7:yX:=yq q10r0 q10c6
attribute [go_sem] q10r0 q10r1 q10r2 q10r3
theorem q10ok:cFn TC 64=some (17,[.t 4],q10c7):=by kernel_rfl
def q11r0:yW:=[
 yI 2 (.alloc zZ0)]
def q11r1:yW:=[
 yM 3 0,
 yI 4 (.bin .add .none (.v (.str [3])) (.t 3)),
 yC 5 21 4,
 yS 32 2 5]
def q11c2:yX:=yq q11r1 .ret
def q11c3:yX:=yq q11r0 q11c2
attribute [go_sem] q11r0 q11r1
theorem q11ok:cFn TC 67=some (6,[.c 2 true 32],q11c3):=by kernel_rfl
def q12r0:yW:=[
 yI 8 (.alloc zZ0)]
def q12r1:yW:=[
 yM 9 1,
 yJ 10 .lss 9 .i64 0,
 yM 11 10,
 yV 12 11 false 1,
 yG 13 11 false (.bin .geq .none (.t 12) (.v (.int .i64 2147483648))),
 yP 14 11 13,
 yM 15 14,
 yV 16 15 false 2,
 yG 17 15 false (.bin .lss .none (.t 16) (.v (.int .i64 0))),
 yP 18 15 17,
 yM 19 18,
 yV 20 19 false 2,
 yG 21 19 false (.bin .geq .none (.t 20) (.v (.int .i64 256))),
 yP 22 19 21,
 yM 23 22,
 yV 24 23 false 3,
 yG 25 23 false (.bin .lss .none (.t 24) (.v (.int .i64 0))),
 yP 26 23 25,
 yM 27 26,
 yV 28 27 false 3,
 yG 29 27 false (.bin .gtr .none (.t 28) (.v (.int .i64 1))),
 yP 30 27 29]
def q12r2:yW:=[
 yI 31 (.build zZ0 []),
 yS 32 8 31]
def q12c3:yX:=yq q12r2 .ret
def q12c4:yX:=.cond (.t 30) q12c3 .skip
def q12c5:yX:=yq q12r1 q12c4
def q12r6:yW:=[
 yM 32 0,
 yC 33 85 32,
 yI 34 (.bin .add .none (.v (.str [2])) (.t 33)),
 yM 35 1,
 yI 36 (.conv (.int .u64) (.t 35)),
 yI 37 (.call (.v (.fn 43 [])) [(.t 36),(.v (.int .i64 4))]),
 yB 38 .add 34 37,
 yM 39 2,
 yI 40 (.bin .mul .none (.v (.int .i64 2)) (.t 39)),
 yM 41 3,
 yB 42 .add 40 41,
 yI 43 (.conv (.int .u64) (.t 42)),
 yI 44 (.call (.v (.fn 43 [])) [(.t 43),(.v (.int .i64 2))]),
 yB 45 .add 38 44,
 yC 46 21 45,
 yS 32 8 46]
def q12c7:yX:=yq q12r6 .ret
def q12c8:yX:=.seq q12c5 q12c7
def q12c9:yX:=yq q12r0 q12c8
attribute [go_sem] q12r0 q12r1 q12r2 q12r6
theorem q12ok:cFn TC 68=some (47,[.c 8 true 32],q12c9):=by kernel_rfl
end
section
set_option maxRecDepth 10000
def q13r0:yW:=[
 yI 2 (.mv (.v .nilp))]
def q13r1:yW:=[
 yM 5 0,
 yI 6 (.build [(.bool false),(.str []),(.int .u8 0),(.int .u8 0),(.int .u8 0),(.int .u8 0),(.int .u8 0),(.int .u8 0),(.int .u8 0),(.int .u8 0),(.int .u8 0),(.int .u8 0),(.int .u8 0),(.int .u8 0),(.int .u8 0),(.int .u8 0),(.int .u8 0),(.int .u8 0),(.int .u8 0),(.int .u8 0),(.int .u8 0),(.int .u8 0),(.int .u8 0),(.int .u8 0),(.int .u8 0),(.int .u8 0),(.int .u8 0),(.int .u8 0),(.int .u8 0),(.int .u8 0),(.int .u8 0),(.int .u8 0),(.int .u8 0),(.int .u8 0),(.int .u8 0),(.int .u8 0),(.int .u8 0),(.int .u8 0),(.int .u8 0),(.int .u8 0),(.int .u8 0),(.int .u8 0),(.int .u8 0),(.int .u8 0),(.int .u8 0),(.int .u8 0),(.int .u8 0),(.int .u8 0),(.int .u8 0),(.int .u8 0),(.int .u8 0),(.int .u8 0),(.int .u8 0),(.int .u8 0),(.int .u8 0),(.int .u8 0),(.int .u8 0),(.int .u8 0),(.int .u8 0),(.int .u8 0),(.int .u8 0),(.int .u8 0),(.int .u8 0),(.int .u8 0),(.int .u8 0),(.int .u8 0),(.int .u8 0),(.int .u8 0),(.int .u8 0),(.int .u8 0),(.int .u8 0),(.int .u8 0),(.int .u8 0),(.int .u8 0),(.int .u8 0),(.int .u8 0),(.int .u8 0),(.int .u8 0),(.int .u8 0),(.int .u8 0),(.int .u8 0),(.int .u8 0),(.int .u8 0),(.int .u8 0),(.int .u8 0),(.int .u8 0),(.int .u8 0),(.int .u8 0),(.int .u8 0),(.int .u8 0),(.int .u8 0),(.int .u8 0),(.int .u8 0),(.int .u8 0),(.int .u8 0),(.int .u8 0),(.int .u8 0),(.int .u8 0),(.int .u8 0),(.int .u8 0),(.int .u8 0),(.int .u8 0),(.int .u8 0),(.int .u8 0),(.int .u8 0),(.int .u8 0),(.int .u8 0),(.int .u8 0),(.int .u8 0),(.int .u8 0),(.int .u8 0),(.int .u8 0),(.int .u8 0),(.int .u8 0),(.int .u8 0),(.int .u8 0),(.int .u8 0),(.int .u8 0),(.int .u8 0),(.int .u8 0),(.int .u8 0),(.int .u8 0),(.int .u8 0),(.int .u8 0),(.int .u8 0),(.int .u8 0),(.int .u8 0),(.int .u8 0),(.int .u8 0),(.int .u8 0),(.int .u8 0),(.int .u8 0),(.int .u8 0),(.int .u8 0),(.int .u8 0),(.int .u8 0),(.int .u8 0),(.int .u8 0),(.int .u8 0),(.int .u8 0),(.int .u8 0),(.int .u8 0),(.int .u8 0),(.int .u8 0),(.int .u8 0),(.int .u8 0),(.int .u8 0),(.int .u8 0),(.int .u8 0),(.int .u8 0),(.int .u8 0),(.int .u8 0),(.int .u8 0),(.int .u8 0),(.int .u8 0),(.int .u8 0),(.int .u8 0),(.int .u8 0),(.int .u8 0),(.int .u8 0),(.int .u8 0),(.int .u8 0),(.int .u8 0),(.int .u8 0),(.int .u8 0),(.int .u8 0),(.int .u8 0),(.int .u8 0),(.int .u8 0),(.int .u8 0),(.int .u8 0),(.int .u8 0),(.int .u8 0),(.int .u8 0),(.int .u8 0),(.int .u8 0),(.int .u8 0),(.int .u8 0),(.int .u8 0),(.int .u8 0),(.int .u8 0),(.int .u8 0),(.int .u8 0),(.int .u8 0),(.int .u8 0),(.int .u8 0),(.int .u8 0),(.int .u8 0),(.int .u8 0),(.int .u8 0),(.int .u8 0),(.int .u8 0),(.int .u8 0),(.int .u8 0),(.int .u8 0),(.int .u8 0),(.int .u8 0),(.int .u8 0),(.int .u8 0),(.int .u8 0),(.int .u8 0),(.int .u8 0),(.int .u8 0),(.int .u8 0),(.int .u8 0),(.int .u8 0),(.int .u8 0),(.int .u8 0),(.int .u8 0),(.int .u8 0),(.int .u8 0),(.int .u8 0),(.int .u8 0),(.int .u8 0),(.int .u8 0),(.int .u8 0),(.int .u8 0),(.int .u8 0),(.int .u8 0),(.int .u8 0),(.int .u8 0),(.int .u8 0),(.int .u8 0),(.int .u8 0),(.int .u8 0),(.int .u8 0),(.int .u8 0),(.int .u8 0),(.int .u8 0),(.int .u8 0),(.int .u8 0),(.int .u8 0),(.int .u8 0),(.int .u8 0),(.int .u8 0),(.int .u8 0),(.int .u8 0),(.int .u8 0),(.int .u8 0),(.int .u8 0),(.int .u8 0),(.int .u8 0),(.int .u8 0),(.int .u8 0),(.int .u8 0),(.int .u8 0),(.int .u8 0),(.int .u8 0),(.int .u8 0),(.int .u8 0),(.int .u8 0),(.int .u8 0),(.int .u8 0),(.int .u8 0),(.int .u8 0),(.int .u8 0),(.int .u8 0),(.int .u8 0)] [(0,1,(.v (.bool true))),(1,1,(.t 5))]),
 yI 7 (.box (.t 6)),
 yM 3 7]
def q13r2:yW:=[
 yK 8 .i64 0]
def q13r3:yW:=[
 yJ 9 .lss 8 .i64 8]
def q13r4:yW:=[
 yM 10 8,
 yM 4 10]
def q13r5:yW:=[
 yM 11 3,
 yM 12 4,
 yM 13 0,
 yM 14 4,
 yD 15 50 13 14,
 yC 16 49 15,
 yI 17 (.nilc (.t 11)),
 yF 18 2 17,
 yI 19 (.iaArr 8 32 (.t 18) (.t 12)),
 yS 32 19 16]
def q13c6:yX:=yq q13r4 (.reg q13r5)
def q13r7:yW:=[
 yJ 20 .add 8 .i64 1,
 yM 8 20]
def q13c8:yX:=.seq (.block 1 q13c6) (.reg q13r7)
def q13c9:yX:=.seq (.cond (.t 9) .skip (.exit 0)) q13c8
def q13c10:yX:=yq q13r3 q13c9
def q13c11:yX:=.loop q13c10
def q13c12:yX:=.block 0 q13c11
def q13c13:yX:=yq q13r2 q13c12
def q13r14:yW:=[
 yM 21 3,
 yM 2 21]
def q13c15:yX:=yq q13r14 .ret
def q13c16:yX:=.seq q13c13 q13c15
def q13c17:yX:=yq q13r1 q13c16
def q13c18:yX:=yq q13r0 q13c17
attribute [go_sem] q13r0 q13r1 q13r2 q13r3 q13r4 q13r5 q13r7 q13r14
theorem q13ok:cFn TC 29=some (22,[.t 2],q13c18):=by kernel_rfl
def q14r0:yW:=[
 yI 2 (.alloc zZ0)]
def q14r1:yW:=[
 yM 3 0,
 yI 4 (.bin .eql .ptr (.t 3) (.v .nilp)),
 yM 5 4,
 yV 6 5 false 0,
 yG 7 5 false (.nilc (.t 6)),
 yT 8 5 false 0 7,
 yU 9 5 false false 1 8,
 yG 10 5 false (.un .not (.t 9)),
 yP 11 5 10]
def q14r2:yW:=[
 yI 12 (.build zZ0 []),
 yS 32 2 12]
def q14c3:yX:=yq q14r2 .ret
def q14c4:yX:=.cond (.t 11) q14c3 .skip
def q14c5:yX:=yq q14r1 q14c4
def q14r6:yW:=[
 yM 13 0,
 yI 14 (.nilc (.t 13)),
 yF 15 2 14,
 yI 16 (.slice (.arr 8 32) (.t 15) none none none),
 yC 17 11 16,
 yS 32 2 17]
def q14c7:yX:=yq q14r6 .ret
def q14c8:yX:=.seq q14c5 q14c7
def q14c9:yX:=yq q14r0 q14c8
attribute [go_sem] q14r0 q14r1 q14r2 q14r6
theorem q14ok:cFn TC 36=some (18,[.c 2 true 32],q14c9):=by kernel_rfl
def q15r0:yW:=[
 yI 5 (.box (.t 2)),
 yI 6 (.alloc [(.int .i64 0),(.str []),.nilsl]),
 yK 7 .i64 0]
def q15r1:yW:=[
 yM 11 0,
 yI 12 (.bin .eql .ptr (.t 11) (.v .nilp)),
 yM 13 12,
 yV 14 13 false 0,
 yG 15 13 false (.nilc (.t 14)),
 yT 16 13 false 0 15,
 yU 17 13 false false 1 16,
 yG 18 13 false (.un .not (.t 17)),
 yP 19 13 18,
 yM 10 19]
def q15r2:yW:=[
 yI 20 (.build [(.int .i64 0),(.str []),.nilsl] []),
 yS 3 6 20,
 yK 7 .i64 1]
def q15c3:yX:=yq q15r2 .ret
def q15r4:yW:=[
 yM 22 1,
 yJ 23 .lss 22 .i64 0,
 yM 24 23,
 yV 25 24 false 1,
 yG 26 24 false (.bin .geq .none (.t 25) (.v (.int .i64 8))),
 yP 27 24 26,
 yM 21 27]
def q15r5:yW:=[
 yI 28 (.build [(.int .i64 0),(.str []),.nilsl] []),
 yS 3 6 28,
 yK 7 .i64 2]
def q15c6:yX:=yq q15r5 .ret
def q15c7:yX:=.cond (.t 21) q15c6 .skip
def q15c8:yX:=yq q15r4 q15c7
def q15c9:yX:=.cond (.t 10) q15c3 q15c8
def q15c10:yX:=yq q15r1 q15c9
def q15r11:yW:=[
 yM 30 0,
 yI 31 (.nilc (.t 30)),
 yF 32 2 31,
 yI 33 (.slice (.arr 8 32) (.t 32) none none none),
 yM 34 1,
 yD 35 54 33 34,
 yM 29 35,
 yE 36 0 29,
 yE 37 1 29,
 yM 8 36,
 yM 9 37]
def q15r12:yW:=[
 yM 38 1,
 yM 39 0,
 yI 40 (.nilc (.t 39)),
 yF 41 1 40,
 ⟨some 42,none,.rd,.load false 1 (.t 41)⟩,
 yM 43 1,
 ⟨some 44,none,.rd,.load true 32 (.t 5)⟩,
 yI 45 (.call (.v (.fn 55 [])) [(.t 42),(.t 43),(.t 44)]),
 yM 46 8,
 yI 47 (.build [(.int .i64 0),(.str []),.nilsl] [(0,1,(.t 38)),(1,1,(.t 45)),(2,1,(.t 46))]),
 yS 3 6 47,
 yK 7 .i64 0]
def q15c13:yX:=yq q15r12 .ret
def q15c14:yX:=yq q15r11 q15c13
def q15c15:yX:=.seq (.block 0 q15c10) q15c14
def q15c16:yX:=yq q15r0 q15c15
attribute [go_sem] q15r0 q15r1 q15r2 q15r4 q15r5 q15r11 q15r12
theorem q15ok:cFn TC 33=some (48,[.c 6 true 3,.t 7],q15c16):=by kernel_rfl
def q16r0:yW:=[
 yI 3 (.box (.t 0)),
 yI 4 (.box (.t 1)),
 yI 5 (.box (.t 2)),
 yK 6 .i64 0]
def q16r1:yW:=[
 yF 9 0 5,
 yL 10 false 1 9,
 yJ 11 .lss 10 .i64 0,
 yM 12 11,
 yT 13 12 false 0 5,
 yU 14 12 false false 1 13,
 yG 15 12 false (.bin .geq .none (.t 14) (.v (.int .i64 8))),
 yP 16 12 15]
def q16r2:yW:=[
 yK 6 .i64 2]
def q16c3:yX:=yq q16r2 .ret
def q16c4:yX:=.cond (.t 16) q16c3 .skip
def q16c5:yX:=yq q16r1 q16c4
def q16r6:yW:=[
 yF 18 1 5,
 yL 19 false 1 18,
 yL 20 true 32 4,
 yD 21 75 19 20,
 yM 17 21,
 yE 22 0 17,
 yE 23 1 17,
 yI 7 (.alloc zZ0),
 yS 32 7 22,
 yM 8 23]
def q16r7:yW:=[
 yM 24 8,
 yJ 25 .neq 24 .i64 0,
 yM 26 25,
 yU 27 26 false true 32 7,
 yT 28 26 false 0 5,
 yU 29 26 false false 1 28,
 yT 30 26 false 2 5,
 yU 31 26 false false 1 30,
 yU 32 26 false true 32 3,
 yG 33 26 false (.call (.v (.fn 76 [])) [(.t 27),(.t 29),(.v (.int .i64 8)),(.t 31),(.t 32)]),
 yG 34 26 false (.bin .neq .none (.t 33) (.v (.int .i64 0))),
 yP 35 26 34]
def q16r8:yW:=[
 yK 6 .i64 81]
def q16c9:yX:=yq q16r8 .ret
def q16c10:yX:=.cond (.t 35) q16c9 .skip
def q16c11:yX:=yq q16r7 q16c10
def q16r12:yW:=[
 yK 6 .i64 0]
def q16c13:yX:=yq q16r12 .ret
def q16c14:yX:=.seq q16c11 q16c13
def q16c15:yX:=yq q16r6 q16c14
def q16c16:yX:=.seq q16c5 q16c15
def q16c17:yX:=yq q16r0 q16c16
attribute [go_sem] q16r0 q16r1 q16r2 q16r6 q16r7 q16r8 q16r12
theorem q16ok:cFn TC 57=some (36,[.t 6],q16c17):=by kernel_rfl
end
section
attribute [local irreducible] ACallsTo ACallsP
theorem zem(O:Store)(r:Nat)(t:List UInt8)(hr:O[r]? =some (some [[.bld r,.bnil]]))(h0:t ≠ [])(hl:t.length<=1073741824):
  ACallsTo TC 65 [.ptr r 0 0,.str t] O (.tup [.int .i64 t.length,.any]) (O.set r (some [[.bld r,.bsl O.length t.length]])++ [some (zo t)]):=by
 have hz:t.length ≠ 0:=by simpa using h0
 have hs:=slen hr
 have hc:=zbz O r _ hr
 refine ACallsTo.of_body_keep qzok (by simp) ?_
 repeat' (first|apply zs_|apply zb_|apply zc_|apply zt_ rfl|apply zf_ rfl|(apply zd_ rfl<;>intro ht<;>try omega)|((first|apply zr_|apply zk_|apply ze_|apply zq_|(apply callW.mk_pu;(first|exact(fun _=>hc)))|(apply callW.za;(first|exact(hc)))|(apply zG<;>intro ht));all_goals try simp (disch:=first|omega|(simp only [lens,zu,z1a,lQd];first|done|omega)) only [go_sem,hr,hz,hs,z4e]))
theorem zen(O:Store)(r rb:Nat)(s t:List UInt8)(hr:O[r]? =some (some [[.bld r,.bsl rb s.length]]))(hb:O[rb]? =some (some (zo s)))(hne:rb ≠ r)(h0:t ≠ [])(hl:s.length+t.length<=1073741824):
  ACallsTo TC 65 [.ptr r 0 0,.str t] O (.tup [.int .i64 t.length,.any]) ((O.set rb none).set r (some [[.bld r,.bsl O.length (s.length+t.length)]])++ [some (zo (s++t))]):=by
 have hz:t.length ≠ 0:=by simpa using h0
 have hs:=slen hr
 have hc:=zbz O r _ hr
 refine ACallsTo.of_body_keep qzok (by simp) ?_
 repeat' (first|apply zs_|apply zb_|apply zc_|apply zt_ rfl|apply zf_ rfl|(apply zd_ rfl<;>intro ht<;>try omega)|((first|apply zr_|apply zk_|apply ze_|apply zq_|(apply callW.mk_pu;(first|exact(fun _=>hc)))|(apply callW.za;(first|exact(hc)))|(apply zG<;>intro ht));all_goals try simp (disch:=first|omega|(simp only [lens,zu,z1a,lQd];first|done|omega)) only [go_sem,hr,hb,hz,hs,hne,z4e]))
theorem zk4(O:Store)(r:Nat)(b:UInt8)(hr:O[r]? =some (some [[.bld r,.bnil]])):
  ACallsTo TC 64 [.ptr r 0 0,.int .u8 b.toNat] O .any (O.set r (some [[.bld r,.bsl O.length 1]])++ [some (zo [b])]):=by
 have hs:=slen hr
 have hc:=zbz O r _ hr
 have hb:zo [b]=[[.int .u8 b.toNat]]:=rfl
 rw [hb]
 refine ACallsTo.of_body_keep q10ok (by simp) ?_
 repeat' (first|apply zs_|apply zb_|apply zc_|apply zt_ rfl|apply zf_ rfl|(apply zd_ rfl<;>intro ht<;>try omega)|((first|apply zr_|apply zk_|apply ze_|apply zq_|(apply callW.mk_pu;(first|exact(fun _=>hc)))|(apply callW.za;(first|exact(hc)))|(apply zG<;>intro ht));all_goals try simp (disch:=first|omega|(simp only [lens,zu,z1a,lQd];first|done|omega)) only [go_sem,hr,hs,z4e]))
def BldN(τ O':Store)(r:Nat)(s:List UInt8):Prop:=
 τ.length<=r/\ (∃news,O'=τ++news)/\ ((s=[]/\ O'[r]? =some (some [[.bld r,.bnil]])) ∨
  (s ≠ []/\ ∃rb,τ.length<=rb/\ rb ≠ r/\ O'[r]? =some (some [[.bld r,.bsl rb s.length]])/\ O'[rb]? =some (some (zo s))))
theorem BldN.new{τ news:Store}{r:Nat}(hr:τ.length<=r)(h:(τ++news)[r]? =some (some [[.bld r,.bnil]])):BldN τ (τ++news) r []:=⟨hr,⟨news,rfl⟩,.inl ⟨rfl,h⟩⟩
theorem BldN.ext{τ O':Store}{r:Nat}{s:List UInt8}(h:BldN τ O' r s):∃news,O'=τ++news:=h.2.1
theorem BldN.more{τ O':Store}{r:Nat}{s:List UInt8}(h:BldN τ O' r s)(y:Store):BldN τ (O'++y) r s:=by
 obtain⟨h1,⟨news,rfl⟩,h2⟩:=h
 refine⟨h1,⟨news++y,by rw [List.append_assoc]⟩,?_⟩
 rcases h2 with⟨e,h2⟩| ⟨e,rb,h3,h4,h5,h6⟩
 ·exact .inl ⟨e,by rw [List.getElem?_append_left (slen h2)];exact h2⟩
 ·exact .inr ⟨e,rb,h3,h4,by rw [List.getElem?_append_left (slen h5)];exact h5,by rw [List.getElem?_append_left (slen h6)];exact h6⟩
theorem z8t{τ news:Store}{r:Nat}(x:Option AObj)(h:τ.length<=r):(τ++news).set r x=τ++news.set (r-τ.length) x:=by rw [List.set_append_right _ _ h]
theorem BldN.write{τ O':Store}{r:Nat}{s t:List UInt8}(h:BldN τ O' r s)(h0:t ≠ [])(hl:s.length+t.length<=1073741824):
  ∃O2,ACallsTo TC 65 [.ptr r 0 0,.str t] O' (.tup [.int .i64 t.length,.any]) O2/\ BldN τ O2 r (s++t):=by
 obtain⟨h1,⟨news,rfl⟩,⟨rfl,h2⟩| ⟨e,rb,h3,h4,h5,h6⟩⟩:=h
 ·refine⟨_,zem _ r t h2 h0 (by simpa using hl),h1,⟨_,by rw [z8t _ h1,List.append_assoc]⟩,.inr ⟨by simpa using h0,(τ++news).length,by simp,?_,?_,?_⟩⟩
  ·have:=slen h2;omega
  ·rw [List.getElem?_append_left (by rw [List.length_set];exact slen h2),List.getElem?_set_self (slen h2)];rfl
  ·rw [List.getElem?_append_right (by rw [List.length_set];exact Nat.le_refl _),List.length_set,Nat.sub_self];rfl
 ·refine⟨_,zen _ r rb s t h5 h6 h4 h0 hl,h1,⟨_,by rw [z8t _ h3,z8t _ h1,List.append_assoc]⟩,.inr ⟨by simp [e],(τ++news).length,by simp,?_,?_,?_⟩⟩
  ·have:=slen h5;omega
  ·rw [List.getElem?_append_left (by rw [List.length_set,List.length_set];exact slen h5),List.getElem?_set_self (by rw [List.length_set];exact slen h5)];simp
  ·rw [List.getElem?_append_right (by rw [List.length_set,List.length_set];exact Nat.le_refl _),List.length_set,List.length_set,Nat.sub_self];rfl
theorem BldN.byte{τ O':Store}{r:Nat}(b:UInt8)(h:BldN τ O' r []):∃O2,ACallsTo TC 64 [.ptr r 0 0,.int .u8 b.toNat] O' .any O2/\ BldN τ O2 r [b]:=by
 obtain⟨h1,⟨news,rfl⟩,⟨_,h2⟩| ⟨e,_⟩⟩:=h
 ·refine⟨_,zk4 _ r b h2,h1,⟨_,by rw [z8t _ h1,List.append_assoc]⟩,.inr ⟨by simp,(τ++news).length,by simp,?_,?_,?_⟩⟩
  ·have:=slen h2;omega
  ·rw [List.getElem?_append_left (by rw [List.length_set];exact slen h2),List.getElem?_set_self (slen h2)];rfl
  ·rw [List.getElem?_append_right (by rw [List.length_set];exact Nat.le_refl _),List.length_set,Nat.sub_self];rfl
 ·exact absurd rfl e
theorem BldN.string{τ O':Store}{r:Nat}{s:List UInt8}(h:BldN τ O' r s)(h0:s ≠ [])(hl:s.length<=1073741824):
  ∃news,ACallsTo TC 66 [.ptr r 0 0] O' (.str s) (τ++news):=by
 obtain⟨h1,⟨news,rfl⟩,⟨rfl,h2⟩| ⟨e,rb,h3,h4,h5,h6⟩⟩:=h
 ·exact absurd rfl h0
 ·have:=zbi _ r rb s h0 hl h5 h6
  rw [z8t _ h3]at this
  exact⟨_,this⟩
end
section
attribute [local irreducible] ACallsTo ACallsP
theorem z68(O:Store)(h:Hash):ACallsTo TC 48 [.agg (hc h)] O (.str h.1) O:=z87 O h.1 h.2
end
end Am
end Go.Proofs.YtkiimfgjimoffaaDoor
