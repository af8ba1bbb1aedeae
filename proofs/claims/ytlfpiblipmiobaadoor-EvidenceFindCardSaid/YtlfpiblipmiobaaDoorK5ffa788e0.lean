import Derived.Test.YtlfpiblipmiobaaDoorK4286a83b4
import Derived.Test.YtlfpiblipmiobaaDoorK24b754403
import Derived.Test.YtlfpiblipmiobaaDoorRows
import Derived.Test.YtlfpiblipmiobaaDoorCards
import Derived.Test.YtlfpiblipmiobaaDoorTie
import Derived.ProofKit
import Derived.LaidMore
import Derived.OpenShut
import Derived.Stop.Joined
import Derived.SevenTiedAt
import Derived.MakeChecks
set_option linter.unusedSimpArgs false
set_option linter.unusedVariables false
open Nat (reduceEqDiff reduceAdd reduceMul reduceSub reduceLeDiff)
open Int (reduceToNat reducePow)
open Nat renaming reduceEqDiff -> nQ1, reduceBEq -> nQ2, reduceAdd -> nQ3, reduceMul -> nQ4, reduceSub -> nQ5, reduceLeDiff -> nQ6
open Int renaming reduceToNat -> nQ7, reducePow -> nQ8
open List renaming length_reverse -> lQr, length_map -> lQm, length_take -> lQt, length_drop -> lQd, length_set -> lQs
set_option maxHeartbeats 16000000
attribute [local go_sem_proc] Nat.reduceEqDiff Nat.reduceBEq Nat.reduceAdd Nat.reduceMul Nat.reduceSub Nat.reduceLeDiff Int.reduceToNat Int.reducePow
namespace Go.Proofs.YtlfpiblipmiobaaDoor
namespace Am
section
structure Ev where
 k:Int
 a:Hdr
 b:Hdr
 r:Hash
 p:List Hash
def evZ0:Ev:=⟨0,zHd,zHd,zeroH,[]⟩
def sgX(h:Hdr)(x:AV):List AV:=sgC h.n h.r h.i h.s x
theorem zg(h:Hdr)(x:AV):(sgX h x).length=36:=z8 _ _ _ _ _
@[go_sem] theorem sgX_0 (h:Hdr) (x:AV):(sgX h x)[0]? =some (.int .i64 h.n):=rfl
@[go_sem] theorem sgX_35 (h:Hdr) (x:AV):(sgX h x)[35]? =some x:=sgC_35 _ _ _ _ _
@[go_sem] theorem sgX_all (h:Hdr) (x:AV):(sgX h x).take 36=sgX h x:=zsi _ _ _ _ _
@[go_sem] theorem zje (h:Hdr) (x:AV):((sgX h x).drop 1).take 32=hc h.r:=zsj _ _ _ _ _
@[go_sem] theorem zjb (h:Hdr) (x:AV):(sgX h x).take 33=.int .i64 h.n::hc h.r:=ze4 _ _ _ _ _
theorem z8a(h:Hdr)(x:AV):(sgX h x).drop 36=[]:=List.drop_eq_nil_of_le (by rw [zg];omega)
def evX(e:Ev)(x y z:AV):List AV:=.int .i64 e.k::(sgX e.a x++(sgX e.b y++(hc e.r++ [z])))
def evO:List AV:=evX evZ0 .nilsl .nilsl .nilsl
theorem zh(e:Ev)(x y z:AV):(evX e x y z).length=106:=by simp [evX,zg,z7]
theorem zi:evO.length=106:=zh _ _ _ _
section
variable (e:Ev) (x y z:AV)
theorem zan:(evX e x y z).drop 1=sgX e.a x++(sgX e.b y++(hc e.r++ [z])):=rfl
theorem evX_d2:(evX e x y z).drop 2=(sgX e.a x).drop 1++(sgX e.b y++(hc e.r++ [z])):=rfl
theorem z77:(evX e x y z).drop 37=sgX e.b y++(hc e.r++ [z]):=by
 rw [show 37=1+36 from rfl,<-List.drop_drop,zan,List.drop_left' (zg e.a x)]
theorem zn1:(evX e x y z).drop 38=(sgX e.b y).drop 1++(hc e.r++ [z]):=by
 rw [show 38=37+1 from rfl,<-List.drop_drop,z77];rfl
theorem zcj:(evX e x y z).drop 73=hc e.r++ [z]:=by
 rw [show 73=37+36 from rfl,<-List.drop_drop,z77,List.drop_left' (zg e.b y)]
theorem zgi:(evX e x y z).drop 105=[z]:=by
 rw [show 105=73+32 from rfl,<-List.drop_drop,zcj,z79]
theorem zn0:(evX e x y z).drop 36=x::(sgX e.b y++(hc e.r++ [z])):=by
 rw [show 36=1+35 from rfl,<-List.drop_drop,zan];unfold sgX sgC
 rw [List.cons_append,List.drop_succ_cons,List.append_assoc,show 34=32+2 from rfl,<-List.drop_drop,z79];rfl
theorem zn2:(evX e x y z).drop 72=y::(hc e.r++ [z]):=by
 rw [show 72=37+35 from rfl,<-List.drop_drop,z77];unfold sgX sgC
 rw [List.cons_append,List.drop_succ_cons,List.append_assoc,show 34=32+2 from rfl,<-List.drop_drop,z79];rfl
@[go_sem] theorem evX_0:(evX e x y z)[0]? =some (.int .i64 e.k):=rfl
@[go_sem] theorem evX_1:(evX e x y z)[1]? =some (.int .i64 e.a.n):=rfl
@[go_sem] theorem evX_36:(evX e x y z)[36]? =some x:=z67 (zn0 e x y z)
@[go_sem] theorem evX_37:(evX e x y z)[37]? =some (.int .i64 e.b.n):=z67 (z77 e x y z)
@[go_sem] theorem evX_72:(evX e x y z)[72]? =some y:=z67 (zn2 e x y z)
@[go_sem] theorem evX_105:(evX e x y z)[105]? =some z:=z67 (zgi e x y z)
@[go_sem] theorem evX_all:(evX e x y z).take 106=evX e x y z:=List.take_of_length_le (by rw [zh];omega)
theorem z2y:(evX e x y z).drop 106=[]:=List.drop_eq_nil_of_le (by rw [zh];omega)
@[go_sem] theorem evX_old:((evX e x y z).drop 1).take 36=sgX e.a x:=by rw [zan,List.take_left' (zg e.a x)]
@[go_sem] theorem evX_new:((evX e x y z).drop 37).take 36=sgX e.b y:=by rw [z77,List.take_left' (zg e.b y)]
@[go_sem] theorem evX_oldh:((evX e x y z).drop 1).take 33=.int .i64 e.a.n::hc e.a.r:=by
 rw [zan,List.take_append_of_le_length (by rw [zg];omega),zjb]
@[go_sem] theorem evX_newh:((evX e x y z).drop 37).take 33=.int .i64 e.b.n::hc e.b.r:=by
 rw [z77,List.take_append_of_le_length (by rw [zg];omega),zjb]
@[go_sem] theorem evX_oldr:((evX e x y z).drop 2).take 32=hc e.a.r:=by
 rw [evX_d2,List.take_append_of_le_length (by rw [List.length_drop,zg];omega),zje]
@[go_sem] theorem evX_newr:((evX e x y z).drop 38).take 32=hc e.b.r:=by
 rw [zn1,List.take_append_of_le_length (by rw [List.length_drop,zg];omega),zje]
@[go_sem] theorem evX_root:((evX e x y z).drop 73).take 32=hc e.r:=by rw [zcj,z7a]
@[go_sem] theorem evX_pk (k:Int): .int .i64 k::(evX e x y z).drop 1=evX ⟨k,e.a,e.b,e.r,e.p⟩ x y z:=rfl
theorem zmy:evX e x y z=(.int .i64 e.k::sgX e.a x)++(sgX e.b y++(hc e.r++ [z])):=rfl
theorem zmz:evX e x y z=(.int .i64 e.k::sgX e.a x++sgX e.b y)++(hc e.r++ [z]):=by simp [evX]
theorem zgh:evX e x y z=(.int .i64 e.k::sgX e.a x++sgX e.b y++hc e.r)++ [z]:=by simp [evX]
@[go_sem] theorem evX_sold (h:Hdr) (v:AV):(evX e x y z).take 1++(sgX h v++(evX e x y z).drop 37)=evX ⟨e.k,h,e.b,e.r,e.p⟩ v y z:=by
 rw [z77];rfl
@[go_sem] theorem evX_snew (h:Hdr) (v:AV):(evX e x y z).take 37++(sgX h v++(evX e x y z).drop 73)=evX ⟨e.k,e.a,h,e.r,e.p⟩ x v z:=by
 rw [zcj,zmy,List.take_left' (by simp [zg])];rfl
@[go_sem] theorem evX_sroot (r:Hash):(evX e x y z).take 73++(hc r++(evX e x y z).drop 105)=evX ⟨e.k,e.a,e.b,r,e.p⟩ x y z:=by
 rw [zgi,zmz,List.take_left' (by simp [zg])];simp [evX]
theorem zn3(v:AV):(evX e x y z).set 105 v=evX e x y v:=by
 rw [zgh,List.set_append_right _ _ (by simp [zg,z7]),zgh];simp [zg,z7]
theorem zjf(h:Hdr)(x v:AV):(sgX h x).set 35 v=sgX h v:=by
 unfold sgX sgC
 rw [List.set_cons_succ,List.set_append_right _ _ (by rw [z7];omega),z7];rfl
theorem zn4(v:AV):(evX e x y z).set 36 v=evX e v y z:=by
 unfold evX
 rw [List.set_cons_succ,List.set_append_left _ _ (by rw [zg];omega),zjf]
theorem zn5(v:AV):(evX e x y z).set 72 v=evX e x v z:=by
 unfold evX
 rw [List.set_cons_succ,List.set_append_right _ _ (by rw [zg];omega),zg,List.set_append_left _ _ (by rw [zg];omega),zjf]
theorem ze1{l:List AV}{k:Nat}{v:AV}(h:k<l.length):l.take k++v::l.drop (k+1)=l.set k v:=by
 rw [List.set_eq_take_append_cons_drop,if_pos h]
@[go_sem] theorem evX_p36 (v:AV):(evX e x y z).take 36++v::(evX e x y z).drop 37=evX e v y z:=by rw [ze1 (by rw [zh];omega),zn4]
@[go_sem] theorem evX_p72 (v:AV):(evX e x y z).take 72++v::(evX e x y z).drop 73=evX e x v z:=by rw [ze1 (by rw [zh];omega),zn5]
@[go_sem] theorem zgj (v:AV):(evX e x y z).take 105++v::(evX e x y z).drop 106=evX e x y v:=by rw [ze1 (by rw [zh];omega),zn3]
theorem zis{n:Nat}(hx:RL n x)(hy:RL n y)(hz:RL n z):RLs n (evX e x y z):=by
 have app:∀(A B:List AV),RLs n A->RLs n B->RLs n (A++B):=by
  intro A B
  induction A with
  |nil=>intro _ h;exact h
  |cons a A ih=>intro h1 h2;simp only [List.cons_append,RLs]at h1 ⊢;exact⟨h1.1,ih h1.2 h2⟩
 unfold evX
 simp only [RLs]
 exact⟨by simp [RL],app _ _ (z6k hx) (app _ _ (z6k hy) (app _ _ (zb7 _) ⟨hz,by simp [RLs]⟩))⟩
end
def evL(e:Ev):List AV:=evX e (zx 32 (hr e.a.p)) (zx 32 (hr e.b.p)) (zx 32 (hr e.p))
end
section
def valH(h:Hdr):Bool:=z28 h.n h.i h.s h.p
def zat(e:Ev):Bool:=if e.k=1 then decide (e.a.n=e.b.n/\ e.a.r ≠ e.b.r/\ e.r=zeroH/\ e.p=[])else decide (e.k=2/\ e.a.n<e.b.n/\ e.r ≠ e.a.r)
def mayB(e:Ev):Bool:=valH e.a && valH e.b && decide (e.p.length<=64) && zat e
end
section
set_option maxRecDepth 10000
def q1sr0:yW:=[
 yI 0 (.mv (.v (.bool false)))]
def q1sr1:yW:=[
 yI 8 (.call (.v (.fn 22 [])) [(.v .nilsl),(.v .nilsl)]),
 yM 7 8,
 yE 9 0 7,
 yE 10 1 7,
 yI 1 (.alloc evO),
 yS 106 1 9,
 yM 2 10]
def q1sr2:yW:=[
 yI 11 (.lit 1 [(.v (.str [97])),(.v (.str [98]))]),
 yC 12 12 11,
 yI 3 (.alloc [.nilp,.nilsl]),
 yS 2 3 12]
def q1sr3:yW:=[
 yF 13 0 3,
 yL 14 false 1 13,
 yI 15 (.lit 1 [(.v (.str [97])),(.v (.str [99]))]),
 yI 16 (.build [.nilp,.nilsl] [(0,1,(.t 14)),(1,1,(.t 15))]),
 yI 4 (.alloc [.nilp,.nilsl]),
 yS 2 4 16]
def q1sr4:yW:=[
 ⟨some 18,none,.rd,.load true 2 (.t 3)⟩,
 ⟨some 19,none,.pu,.call (.v (.fn 15 [])) [(.t 18),(.v (.int .i64 2)),(.v (.int .i64 0))]⟩,
 ⟨some 20,none,.rd,.load true 2 (.t 4)⟩,
 ⟨some 21,none,.pu,.call (.v (.fn 15 [])) [(.t 20),(.v (.int .i64 2)),(.v (.int .i64 0))]⟩,
 yI 22 (.lit 36 [(.t 19),(.t 21)]),
 ⟨some 23,none,.pu,.call (.v (.fn 22 [])) [(.t 22),(.v .nilsl)]⟩,
 yM 17 23,
 yE 24 0 17,
 yE 25 1 17,
 ⟨some 5,none,.ef,.alloc evO⟩,
 yS 106 5 24,
 yM 6 25]
def q1sr5:yW:=[
 yM 26 2,
 yI 27 (.un .not (.t 26)),
 yM 28 27,
 yV 29 28 true 6,
 yQ 30 28 29,
 yM 31 30,
 yT 32 31 true 0 5,
 yU 33 31 true false 1 32,
 yG 34 31 true (.bin .eql .none (.t 33) (.v (.int .i64 1))),
 yQ 35 31 34,
 yM 36 35,
 yT 37 36 true 0 3,
 ⟨some 38,some (36,true),.rd,.load false 1 (.t 37)⟩,
 ⟨some 39,some (36,true),.ef,.call (.v (.fn 18 [])) [(.t 38)]⟩,
 ⟨some 40,some (36,true),.rd,.load true 106 (.t 5)⟩,
 yG 41 36 true (.call (.v (.fn 17 [])) [(.t 39),(.t 40)]),
 yG 42 36 true (.bin .eql .none (.t 41) (.v (.int .i64 0))),
 yQ 43 36 42,
 yM 44 43,
 yG 45 44 true (.build zZ0 [(0,1,(.v (.int .u8 1)))]),
 yU 46 44 true true 106 5,
 yG 47 44 true (.call (.v (.fn 17 [])) [(.t 45),(.t 46)]),
 yG 48 44 true (.bin .eql .none (.t 47) (.v (.int .i64 81))),
 yQ 49 44 48,
 yM 50 49,
 yT 51 50 true 0 3,
 yU 52 50 true false 1 51,
 yG 53 50 true (.call (.v (.fn 18 [])) [(.t 52)]),
 yG 54 50 true (.build evO []),
 yG 55 50 true (.call (.v (.fn 17 [])) [(.t 53),(.t 54)]),
 yG 56 50 true (.bin .eql .none (.t 55) (.v (.int .i64 2))),
 yQ 57 50 56,
 yM 0 57]
def q1sc6:yX:=yq q1sr5 .ret
def zdj:ACode:=.seq (.reg q1sr4) q1sc6
def q1sc8:yX:=yq q1sr3 zdj
def q1sc9:yX:=yq q1sr2 q1sc8
def q1sc10:yX:=yq q1sr1 q1sc9
def q1sc11:yX:=yq q1sr0 q1sc10
attribute [go_sem] q1sr0 q1sr1 q1sr2 q1sr3 q1sr4 q1sr5
theorem q1sok:cFn TC 11=some (58,[.t 0],q1sc11):=by kernel_rfl
def q1tr0:yW:=[
 yI 2 (.box (.t 0)),
 yI 3 (.box (.t 1)),
 yK 4 .i64 0]
def q1tr1:yW:=[
 yF 7 1 3,
 yF 8 0 7,
 ⟨some 9,none,.rd,.load true 33 (.t 8)⟩,
 yF 10 37 3,
 yF 11 0 10,
 ⟨some 12,none,.rd,.load true 33 (.t 11)⟩,
 ⟨some 5,none,.ef,.alloc ((.int .i64 0)::zZ0)⟩,
 ⟨some 6,none,.ef,.alloc ((.int .i64 0)::zZ0)⟩,
 ⟨none,none,.ef,.store 33 (.t 5) (.t 9)⟩,
 yS 33 6 12]
def q1tr2:yW:=[
 yF 7 1 3,
 yF 8 0 7,
 ⟨some 9,none,.rd,.load true 33 (.t 8)⟩,
 yF 10 37 3,
 yF 11 0 10,
 ⟨some 12,none,.rd,.load true 33 (.t 11)⟩,
 ⟨some 6,none,.ef,.alloc ((.int .i64 0)::zZ0)⟩,
 ⟨some 5,none,.ef,.alloc ((.int .i64 0)::zZ0)⟩,
 ⟨none,none,.ef,.store 33 (.t 5) (.t 9)⟩,
 yS 33 6 12]
def q1tr3:yW:=[
 yL 14 true 106 3,
 yC 15 49 14,
 yI 16 (.un .not (.t 15)),
 yM 13 16]
def q1tr4:yW:=[
 yK 4 .i64 2]
def q1tc5:yX:=yq q1tr4 .ret
def q1tr6:yW:=[
 yL 18 true 32 2,
 yF 19 1 3,
 yL 20 true 36 19,
 yD 21 50 18 20,
 yJ 22 .neq 21 .i64 0,
 yM 17 22]
def q1tr7:yW:=[
 yL 23 true 32 2,
 yF 24 37 3,
 yL 25 true 36 24,
 yD 26 50 23 25,
 yJ 27 .neq 26 .i64 0,
 yM 17 27]
def q1tc8:yX:=.cond (.t 17) .skip (.reg q1tr7)
def q1tc9:yX:=yq q1tr6 q1tc8
def q1tr10:yW:=[
 yK 4 .i64 81]
def q1tc11:yX:=yq q1tr10 .ret
def q1tr12:yW:=[
 yF 29 0 3,
 yL 30 false 1 29,
 yJ 31 .eql 30 .i64 2,
 yM 32 31,
 yT 33 32 true 0 5,
 yU 34 32 true false 1 33,
 yT 35 32 true 0 6,
 yU 36 32 true false 1 35,
 yT 37 32 true 73 3,
 yU 38 32 true true 32 37,
 yT 39 32 true 1 6,
 yU 40 32 true true 32 39,
 yT 41 32 true 105 3,
 yU 42 32 true false 1 41,
 yG 43 32 true (.call (.v (.fn 51 [])) [(.t 34),(.t 36),(.t 38),(.t 40),(.t 42)]),
 yG 44 32 true (.bin .neq .none (.t 43) (.v (.int .i64 0))),
 yQ 45 32 44,
 yM 28 45]
def q1tr13:yW:=[
 yK 4 .i64 80]
def q1tc14:yX:=yq q1tr13 .ret
def q1tc15:yX:=.cond (.t 28) q1tc14 .skip
def q1tc16:yX:=yq q1tr12 q1tc15
def q1tc17:yX:=.cond (.t 17) q1tc11 q1tc16
def q1tc18:yX:=.seq q1tc9 q1tc17
def q1tc19:yX:=.cond (.t 13) q1tc5 q1tc18
def q1tc20:yX:=yq q1tr3 q1tc19
def q1tr21:yW:=[
 yK 4 .i64 0]
def q1tc22:yX:=yq q1tr21 .ret
def q1tc23:yX:=.seq (.block 0 q1tc20) q1tc22
def q1tc24:yX:=.seq (.reg2 q1tr1 q1tr2) q1tc23
def q1tc25:yX:=yq q1tr0 q1tc24
attribute [go_sem] q1tr0 q1tr1 q1tr2 q1tr3 q1tr4 q1tr6 q1tr7 q1tr10 q1tr12 q1tr13 q1tr21
theorem q1tok:cFn TC 17=some (46,[.t 4],q1tc25):=by kernel_rfl
def q1ur0:yW:=[
 yI 4 (.alloc evO),
 yI 5 (.mv (.v (.bool false)))]
def q1ur1:yW:=[
 yM 16 0,
 yC 17 56 16,
 yM 15 17,
 yE 18 0 15,
 yE 19 1 15,
 yI 6 (.alloc evO),
 yS 106 6 18,
 yM 7 19]
def q1ur2:yW:=[
 yM 20 7]
def q1ur3:yW:=[
 yL 21 true 106 6,
 yC 22 57 21,
 yS 106 4 22,
 yI 5 (.mv (.v (.bool true)))]
def q1uc4:yX:=yq q1ur3 .ret
def q1uc5:yX:=.cond (.t 20) q1uc4 .skip
def q1uc6:yX:=yq q1ur2 q1uc5
def q1uc7:yX:=yq q1ur1 q1uc6
def q1ur8:yW:=[
 yM 24 0,
 yM 25 1,
 yD 26 58 24 25,
 yM 23 26,
 yE 27 0 23,
 yE 28 1 23,
 yI 8 (.alloc sgZ),
 yS 36 8 27,
 yM 9 28]
def q1ur9:yW:=[
 yM 29 9,
 yI 30 (.un .not (.t 29))]
def q1ur10:yW:=[
 yI 31 (.build evO []),
 yS 106 4 31,
 yI 5 (.mv (.v (.bool false)))]
def q1uc11:yX:=yq q1ur10 .ret
def q1uc12:yX:=.cond (.t 30) q1uc11 .skip
def q1uc13:yX:=yq q1ur9 q1uc12
def q1ur14:yW:=[
 yM 32 0,
 yI 33 (.lenSl (.t 32)),
 yK 34 .i64 0]
def q1ur15:yW:=[
 yB 35 .lss 34 33]
def q1ur16:yW:=[
 yI 36 (.iaSl 36 (.t 32) (.t 34)),
 yL 37 true 36 36,
 yI 11 (.alloc sgZ),
 yS 36 11 37]
def q1ur17:yW:=[
 yL 38 true 36 11,
 yC 39 59 38,
 yI 40 (.un .not (.t 39)),
 yM 41 40,
 yT 42 41 false 0 11,
 yT 43 41 false 0 42,
 yU 44 41 false false 1 43,
 yT 45 41 false 0 8,
 yT 46 41 false 0 45,
 yU 47 41 false false 1 46,
 yG 48 41 false (.bin .geq .none (.t 44) (.t 47)),
 yP 49 41 48]
def q1uc18:yX:=.cond (.t 49) (.exit 1) .skip
def q1uc19:yX:=yq q1ur17 q1uc18
def q1ur20:yW:=[
 yM 50 1,
 yF 51 0 11,
 yF 52 0 51,
 yL 53 false 1 52,
 yI 54 (.slice (.sl 32) (.t 50) none (some (.t 53)) none),
 yC 55 52 54,
 yI 12 (.alloc zZ0),
 yS 32 12 55]
def q1ur21:yW:=[
 yL 56 true 32 12,
 yF 57 0 11,
 yF 58 1 57,
 yL 59 true 32 58,
 yI 60 (.bin .neq (.agg (List.replicate 32 (.i .u8)++ [])) (.t 56) (.t 59))]
def q1ur22:yW:=[
 yM 62 1,
 yF 63 0 8,
 yF 64 0 63,
 ⟨some 65,none,.rd,.load false 1 (.t 64)⟩,
 yI 66 (.slice (.sl 32) (.t 62) none (some (.t 65)) none),
 yF 67 0 11,
 yF 68 0 67,
 ⟨some 69,none,.rd,.load false 1 (.t 68)⟩,
 yD 70 60 66 69,
 yM 61 70,
 yE 71 0 61,
 yE 72 1 61,
 yM 13 71,
 yM 14 72]
def q1ur23:yW:=[
 yL 73 true 36 11,
 yL 74 true 36 8,
 yL 75 true 32 12,
 yM 76 13,
 yI 77 (.build evO [(0,1,(.v (.int .i64 2))),(1,36,(.t 73)),(37,36,(.t 74)),(73,32,(.t 75)),(105,1,(.t 76))]),
 yC 78 57 77,
 yS 106 4 78,
 yI 5 (.mv (.v (.bool true)))]
def q1uc24:yX:=yq q1ur23 .ret
def q1uc25:yX:=yq q1ur22 q1uc24
def q1uc26:yX:=.cond (.t 60) q1uc25 .skip
def q1uc27:yX:=yq q1ur21 q1uc26
def q1uc28:yX:=yq q1ur20 q1uc27
def q1uc29:yX:=.seq q1uc19 q1uc28
def q1uc30:yX:=yq q1ur16 q1uc29
def q1ur31:yW:=[
 yJ 79 .add 34 .i64 1,
 yM 34 79]
def q1uc32:yX:=.seq (.block 1 q1uc30) (.reg q1ur31)
def q1uc33:yX:=.seq (.cond (.t 35) .skip (.exit 0)) q1uc32
def q1uc34:yX:=yq q1ur15 q1uc33
def q1uc35:yX:=.loop q1uc34
def q1uc36:yX:=.block 0 q1uc35
def q1uc37:yX:=yq q1ur14 q1uc36
def q1ur38:yW:=[
 yI 80 (.build evO []),
 yS 106 4 80,
 yI 5 (.mv (.v (.bool false)))]
def q1uc39:yX:=yq q1ur38 .ret
def q1uc40:yX:=.seq q1uc37 q1uc39
def q1uc41:yX:=.seq q1uc13 q1uc40
def q1uc42:yX:=yq q1ur8 q1uc41
def q1uc43:yX:=.seq q1uc7 q1uc42
def q1uc44:yX:=yq q1ur0 q1uc43
attribute [go_sem] q1ur0 q1ur1 q1ur2 q1ur3 q1ur8 q1ur9 q1ur10 q1ur14 q1ur15 q1ur16 q1ur17 q1ur20 q1ur21 q1ur22 q1ur23 q1ur31 q1ur38
theorem q1uok:cFn TC 22=some (81,[.c 4 true 106,.t 5],q1uc44):=by kernel_rfl
def q1vr0:yW:=[
 yI 1 (.box (.t 0)),
 yI 2 (.mv (.v (.bool false)))]
def q1vr1:yW:=[
 yF 4 1 1,
 yL 5 true 36 4,
 yC 6 59 5,
 yI 7 (.un .not (.t 6)),
 yM 8 7,
 yT 9 8 false 37 1,
 yU 10 8 false true 36 9,
 yG 11 8 false (.call (.v (.fn 59 [])) [(.t 10)]),
 yG 12 8 false (.un .not (.t 11)),
 yP 13 8 12,
 yM 14 13,
 yT 15 14 false 105 1,
 yU 16 14 false false 1 15,
 yG 17 14 false (.lenSl (.t 16)),
 yG 18 14 false (.bin .gtr .none (.t 17) (.v (.int .i64 64))),
 yP 19 14 18]
def q1vr2:yW:=[
 yI 2 (.mv (.v (.bool false)))]
def q1vc3:yX:=yq q1vr2 .ret
def q1vc4:yX:=.cond (.t 19) q1vc3 .skip
def q1vc5:yX:=yq q1vr1 q1vc4
def q1vr6:yW:=[
 yF 20 1 1,
 yF 21 0 20,
 yL 22 true 33 21,
 yF 23 37 1,
 yF 24 0 23,
 yL 25 true 33 24,
 yD 26 90 22 25,
 yM 3 26]
def q1vr7:yW:=[
 yF 27 0 1,
 yL 28 false 1 27]
def q1vr8:yW:=[
 yJ 30 .eql 28 .i64 1,
 yM 29 30]
def q1vr9:yW:=[
 yM 31 3,
 yJ 32 .eql 31 .i64 3,
 yM 33 32,
 yT 34 33 true 73 1,
 yU 35 33 true true 32 34,
 yG 36 33 true (.build zZ0 []),
 yG 37 33 true (.bin .eql (.agg (List.replicate 32 (.i .u8)++ [])) (.t 35) (.t 36)),
 yQ 38 33 37,
 yM 39 38,
 yT 40 39 true 105 1,
 yU 41 39 true false 1 40,
 yG 42 39 true (.lenSl (.t 41)),
 yG 43 39 true (.bin .eql .none (.t 42) (.v (.int .i64 0))),
 yQ 44 39 43,
 yM 2 44]
def q1vc10:yX:=yq q1vr9 .ret
def q1vr11:yW:=[
 yJ 46 .eql 28 .i64 2,
 yM 45 46]
def q1vr12:yW:=[
 yM 47 3,
 yJ 48 .eql 47 .i64 0,
 yM 49 48,
 yT 50 49 true 73 1,
 yU 51 49 true true 32 50,
 yT 52 49 true 1 1,
 yT 53 49 true 0 52,
 yT 54 49 true 1 53,
 yU 55 49 true true 32 54,
 yG 56 49 true (.bin .neq (.agg (List.replicate 32 (.i .u8)++ [])) (.t 51) (.t 55)),
 yQ 57 49 56,
 yM 2 57]
def q1vc13:yX:=yq q1vr12 .ret
def q1vc14:yX:=.cond (.t 45) q1vc13 .skip
def q1vc15:yX:=yq q1vr11 q1vc14
def q1vc16:yX:=.cond (.t 29) q1vc10 q1vc15
def q1vc17:yX:=yq q1vr8 q1vc16
def q1vc18:yX:=.block 0 q1vc17
def q1vc19:yX:=yq q1vr7 q1vc18
def q1vr20:yW:=[
 yI 2 (.mv (.v (.bool false)))]
def q1vc21:yX:=yq q1vr20 .ret
def q1vc22:yX:=.seq q1vc19 q1vc21
def q1vc23:yX:=yq q1vr6 q1vc22
def q1vc24:yX:=.seq q1vc5 q1vc23
def q1vc25:yX:=yq q1vr0 q1vc24
attribute [go_sem] q1vr0 q1vr1 q1vr2 q1vr6 q1vr7 q1vr8 q1vr9 q1vr11 q1vr12 q1vr20
theorem q1vok:cFn TC 49=some (58,[.t 2],q1vc25):=by kernel_rfl
def q1wr0:yW:=[
 yI 2 (.alloc evO),
 yI 3 (.mv (.v (.bool false)))]
def q1wr1:yW:=[
 yM 8 0,
 yI 9 (.lenSl (.t 8)),
 yK 10 .i64 0]
def q1wr2:yW:=[
 yB 11 .lss 10 9]
def q1wr3:yW:=[
 yM 12 10,
 yI 13 (.iaSl 36 (.t 8) (.t 10)),
 yL 14 true 36 13,
 yI 5 (.alloc sgZ),
 yM 4 12,
 yS 36 5 14]
def q1wr4:yW:=[
 yM 15 0,
 yM 16 4,
 yJ 17 .add 16 .i64 1,
 yI 18 (.slice (.sl 36) (.t 15) (some (.t 17)) none none),
 yI 19 (.lenSl (.t 18)),
 yK 20 .i64 0]
def q1wr5:yW:=[
 yB 21 .lss 20 19]
def q1wr6:yW:=[
 yI 22 (.iaSl 36 (.t 18) (.t 20)),
 yL 23 true 36 22,
 yI 7 (.alloc sgZ),
 yS 36 7 23]
def q1wr7:yW:=[
 yL 24 true 36 5,
 yC 25 59 24,
 yM 26 25,
 yU 27 26 true true 36 7,
 yG 28 26 true (.call (.v (.fn 59 [])) [(.t 27)]),
 yQ 29 26 28,
 yM 30 29,
 yT 31 30 true 0 5,
 yU 32 30 true true 33 31,
 yT 33 30 true 0 7,
 yU 34 30 true true 33 33,
 yG 35 30 true (.call (.v (.fn 90 [])) [(.t 32),(.t 34)]),
 yG 36 30 true (.bin .eql .none (.t 35) (.v (.int .i64 3))),
 yQ 37 30 36]
def q1wr8:yW:=[
 yL 38 true 36 5,
 yL 39 true 36 7,
 yI 40 (.build evO [(0,1,(.v (.int .i64 1))),(1,36,(.t 38)),(37,36,(.t 39))]),
 yS 106 2 40,
 yI 3 (.mv (.v (.bool true)))]
def q1wc9:yX:=yq q1wr8 .ret
def q1wc10:yX:=.cond (.t 37) q1wc9 .skip
def q1wc11:yX:=yq q1wr7 q1wc10
def q1wc12:yX:=yq q1wr6 q1wc11
def q1wr13:yW:=[
 yJ 41 .add 20 .i64 1,
 yM 20 41]
def q1wc14:yX:=.seq (.block 3 q1wc12) (.reg q1wr13)
def q1wc15:yX:=.seq (.cond (.t 21) .skip (.exit 2)) q1wc14
def q1wc16:yX:=yq q1wr5 q1wc15
def q1wc17:yX:=.loop q1wc16
def q1wc18:yX:=.block 2 q1wc17
def q1wc19:yX:=yq q1wr4 q1wc18
def q1wc20:yX:=yq q1wr3 q1wc19
def q1wr21:yW:=[
 yJ 42 .add 10 .i64 1,
 yM 10 42]
def q1wc22:yX:=.seq (.block 1 q1wc20) (.reg q1wr21)
def q1wc23:yX:=.seq (.cond (.t 11) .skip (.exit 0)) q1wc22
def q1wc24:yX:=yq q1wr2 q1wc23
def q1wc25:yX:=.loop q1wc24
def q1wc26:yX:=.block 0 q1wc25
def q1wc27:yX:=yq q1wr1 q1wc26
def q1wr28:yW:=[
 yI 43 (.build evO []),
 yS 106 2 43,
 yI 3 (.mv (.v (.bool false)))]
def q1wc29:yX:=yq q1wr28 .ret
def q1wc30:yX:=.seq q1wc27 q1wc29
def q1wc31:yX:=yq q1wr0 q1wc30
attribute [go_sem] q1wr0 q1wr1 q1wr2 q1wr3 q1wr4 q1wr5 q1wr6 q1wr7 q1wr8 q1wr13 q1wr21 q1wr28
theorem q1wok:cFn TC 56=some (44,[.c 2 true 106,.t 3],q1wc31):=by kernel_rfl
def q1xr0:yW:=[
 yI 1 (.box (.t 0)),
 yI 2 (.alloc evO)]
def q1xr1:yW:=[
 yF 3 1 1,
 yF 4 33 3,
 yF 5 2 4,
 yL 6 false 1 5,
 yC 7 101 6,
 yF 8 1 1,
 yF 9 33 8,
 yF 10 2 9,
 yS 1 10 7]
def q1xr2:yW:=[
 yF 11 37 1,
 yF 12 33 11,
 yF 13 2 12,
 yL 14 false 1 13,
 yC 15 101 14,
 yF 16 37 1,
 yF 17 33 16,
 yF 18 2 17,
 yS 1 18 15]
def q1xr3:yW:=[
 yL 19 true 106 1,
 yS 106 2 19]
def q1xc4:yX:=yq q1xr3 .ret
def q1xc5:yX:=yq q1xr2 q1xc4
def q1xc6:yX:=yq q1xr1 q1xc5
def q1xc7:yX:=yq q1xr0 q1xc6
attribute [go_sem] q1xr0 q1xr1 q1xr2 q1xr3
theorem q1xok:cFn TC 57=some (20,[.c 2 true 106],q1xc7):=by kernel_rfl
def q1yr0:yW:=[
 yI 4 (.alloc sgZ),
 yI 5 (.mv (.v (.bool false)))]
def q1yr1:yW:=[
 yI 6 (.alloc sgZ)]
def q1yr2:yW:=[
 yI 7 (.mv (.v (.bool false)))]
def q1yr3:yW:=[
 yM 11 0,
 yI 12 (.lenSl (.t 11)),
 yK 13 .i64 0]
def q1yr4:yW:=[
 yB 14 .lss 13 12]
def q1yr5:yW:=[
 yI 15 (.iaSl 36 (.t 11) (.t 13)),
 yL 16 true 36 15,
 yI 9 (.alloc sgZ),
 yS 36 9 16]
def q1yr6:yW:=[
 yF 17 0 9,
 yF 18 0 17,
 yL 19 false 1 18,
 yM 10 19]
def q1yr7:yW:=[
 yL 20 true 36 9,
 yC 21 59 20,
 yM 22 21,
 yV 23 22 true 10,
 yV 24 22 true 1,
 yG 25 22 true (.lenSl (.t 24)),
 yG 26 22 true (.bin .leq .none (.t 23) (.t 25)),
 yQ 27 22 26,
 yM 28 27,
 yV 29 28 true 7,
 yG 30 28 true (.un .not (.t 29)),
 yV 31 28 true 30,
 yV 32 31 false 10,
 yT 33 31 false 0 6,
 yT 34 31 false 0 33,
 yU 35 31 false false 1 34,
 yG 36 31 false (.bin .gtr .none (.t 32) (.t 35)),
 yG 37 28 true (.pick (.t 31) (.v (.bool true)) (.t 36)),
 yQ 38 28 37,
 yM 39 38,
 yV 40 39 true 1,
 yV 41 39 true 10,
 yG 42 39 true (.slice (.sl 32) (.t 40) none (some (.t 41)) none),
 ⟨some 43,some (39,true),.ef,.call (.v (.fn 52 [])) [(.t 42)]⟩,
 yT 44 39 true 0 9,
 yT 45 39 true 1 44,
 ⟨some 46,some (39,true),.rd,.load true 32 (.t 45)⟩,
 yG 47 39 true (.bin .eql (.agg (List.replicate 32 (.i .u8)++ [])) (.t 43) (.t 46)),
 yQ 48 39 47]
def q1yr8:yW:=[
 yL 49 true 36 9,
 yS 36 6 49,
 yI 7 (.mv (.v (.bool true)))]
def q1yc9:yX:=.cond (.t 48) (.reg q1yr8) .skip
def q1yc10:yX:=yq q1yr7 q1yc9
def q1yc11:yX:=yq q1yr6 q1yc10
def q1yc12:yX:=yq q1yr5 q1yc11
def q1yr13:yW:=[
 yJ 50 .add 13 .i64 1,
 yM 13 50]
def q1yc14:yX:=.seq (.block 1 q1yc12) (.reg q1yr13)
def q1yc15:yX:=.seq (.cond (.t 14) .skip (.exit 0)) q1yc14
def q1yc16:yX:=yq q1yr4 q1yc15
def q1yc17:yX:=.loop q1yc16
def q1yc18:yX:=.block 0 q1yc17
def q1yc19:yX:=yq q1yr3 q1yc18
def q1yr20:yW:=[
 yL 51 true 36 6,
 yM 52 7,
 yS 36 4 51,
 yM 5 52]
def q1yc21:yX:=yq q1yr20 .ret
def q1yc22:yX:=.seq q1yc19 q1yc21
def q1yc23:yX:=yq q1yr2 q1yc22
def q1yc24:yX:=yq q1yr1 q1yc23
def q1yc25:yX:=yq q1yr0 q1yc24
attribute [go_sem] q1yr0 q1yr1 q1yr2 q1yr3 q1yr4 q1yr5 q1yr6 q1yr7 q1yr8 q1yr13 q1yr20
theorem q1yok:cFn TC 58=some (53,[.c 4 true 36,.t 5],q1yc25):=by kernel_rfl
end
section
theorem ord3(n m:Int)(a b:Hash):ordI n m a b=3 ↔ (n=m/\ a ≠ b):=by
 unfold ordI
 by_cases h:n=m
 ·subst h
  by_cases h2:a=b
  ·simp [h2]
  ·simp [h2]
 ·rw [if_pos h]
  constructor
  ·intro e;split at e<;>omega
  ·exact fun e=>absurd e.1 h
theorem ord0(n m:Int)(a b:Hash):ordI n m a b=0 ↔ n<m:=by
 unfold ordI
 by_cases h:n=m
 ·subst h
  by_cases h2:a=b
  ·simp [h2]
  ·simp [h2]
 ·rw [if_pos h]
  constructor
  ·intro e;split at e<;>omega
  ·intro e;rw [if_pos e]
theorem zpq{l:List Hash}(h:(l.length:Int)=0):l=[]:=List.eq_nil_of_length_eq_zero (by omega)
attribute [local irreducible] ACallsTo ACallsP
theorem zsl(O:Store)(e:Ev)(x y z:AV)(hx:RdSl O 32 (hr e.a.p) x)(hy:RdSl O 32 (hr e.b.p) y)(hz:RdSl O 32 (hr e.p) z):
  ACallsTo TC 49 [.agg (evX e x y z)] O (.bool (mayB e)) O:=by
 have hVa:=fun t=>z6w (O++t) e.a.n e.a.i e.a.r e.a.s e.a.p x hx.app
 have hVb:=fun t=>z6w (O++t) e.b.n e.b.i e.b.r e.b.s e.b.p y hy.app
 have hO:=fun O=>zeu O e.a.n e.b.n e.a.r e.b.r
 have o3:=ord3 e.a.n e.b.n e.a.r e.b.r
 have o0:=ord0 e.a.n e.b.n e.a.r e.b.r
 have z1:=hz.len
 rw [z6]at z1
 unfold z1d at z1
 have hm:mayB e=(z28 e.a.n e.a.i e.a.s e.a.p && z28 e.b.n e.b.i e.b.s e.b.p && decide (e.p.length<=64) && zat e):=rfl
 rw [hm]
 generalize z28 e.a.n e.a.i e.a.s e.a.p=va at*
 generalize z28 e.b.n e.b.i e.b.s e.b.p=vb at*
 generalize ordI e.a.n e.b.n e.a.r e.b.r=o at*
 refine ACallsTo.of_body q1vok (by simp) fun hw _=> ?_
 cases va with
 |false=>
  repeat' (first|apply zs_|apply zb_|apply zc_|apply zt_ rfl|apply zf_ rfl|(apply zd_ rfl<;>intro ht<;>try omega)|((first|apply zr_|apply zk_|apply ze_|apply zq_|(apply callW.mk_pu;(first|exact(fun _=>hVa _)))|(apply callW.za;(first|exact(hVa _)))|(apply zG<;>intro ht));all_goals try simp (disch:=first|omega|(simp only [lens,z7,z6,lQr,lQm,lQt,lQd,z8,zg,zh,zi];first|done|omega)) only [go_sem,z1]))
  exact DownV.pure hw z1e
 |true=>
 cases vb with
 |false=>
  repeat' (first|apply zs_|apply zb_|apply zc_|apply zt_ rfl|apply zf_ rfl|(apply zd_ rfl<;>intro ht<;>try omega)|((first|apply zr_|apply zk_|apply ze_|apply zq_|(apply callW.mk_pu;(first|exact(fun _=>hVa _)|exact(fun _=>hVb _)))|(apply callW.za;(first|exact(hVa _)|exact(hVb _)))|(apply zG<;>intro ht));all_goals try simp (disch:=first|omega|(simp only [lens,z7,z6,lQr,lQm,lQt,lQd,z8,zg,zh,zi];first|done|omega)) only [go_sem,z1]))
  exact DownV.pure hw z1e
 |true=>
 by_cases h64:e.p.length<=64
 ·have h64':¬(e.p.length:Int)>64:=by omega
  rw [decide_eq_true h64]
  unfold zat
  by_cases k1:e.k=1
  ·rw [if_pos k1]
   by_cases c1:o=3
   ·by_cases c2:e.r=zeroH
    ·by_cases c3:(e.p.length:Int)=0
     ·rw [decide_eq_true ⟨(o3.1 c1).1,(o3.1 c1).2,c2,zpq c3⟩]
      repeat' (first|apply zs_|apply zb_|apply zc_|apply zt_ rfl|apply zf_ rfl|(apply zd_ rfl<;>intro ht<;>try omega)|((first|apply zr_|apply zk_|apply ze_|apply zq_|(apply callW.mk_pu;(first|exact(fun _=>hVa _)|exact(fun _=>hVb _)|exact(fun _=>hO _)))|(apply callW.za;(first|exact(hVa _)|exact(hVb _)|exact(hO _)))|(apply zG<;>intro ht));all_goals try simp (disch:=first|omega|(simp only [lens,z7,z6,lQr,lQm,lQt,lQd,z8,zg,zh,zi];first|done|omega)) only [go_sem,z1,h64',k1,c1,c2,c3,<-z7w]))
      exact DownV.pure hw z1e
     ·rw [decide_eq_false (fun h=>c3 (by rw [h.2.2.2];rfl))]
      repeat' (first|apply zs_|apply zb_|apply zc_|apply zt_ rfl|apply zf_ rfl|(apply zd_ rfl<;>intro ht<;>try omega)|((first|apply zr_|apply zk_|apply ze_|apply zq_|(apply callW.mk_pu;(first|exact(fun _=>hVa _)|exact(fun _=>hVb _)|exact(fun _=>hO _)))|(apply callW.za;(first|exact(hVa _)|exact(hVb _)|exact(hO _)))|(apply zG<;>intro ht));all_goals try simp (disch:=first|omega|(simp only [lens,z7,z6,lQr,lQm,lQt,lQd,z8,zg,zh,zi];first|done|omega)) only [go_sem,z1,h64',k1,c1,c2,c3,<-z7w]))
      exact DownV.pure hw z1e
    ·rw [decide_eq_false (fun h=>c2 h.2.2.1)]
     repeat' (first|apply zs_|apply zb_|apply zc_|apply zt_ rfl|apply zf_ rfl|(apply zd_ rfl<;>intro ht<;>try omega)|((first|apply zr_|apply zk_|apply ze_|apply zq_|(apply callW.mk_pu;(first|exact(fun _=>hVa _)|exact(fun _=>hVb _)|exact(fun _=>hO _)))|(apply callW.za;(first|exact(hVa _)|exact(hVb _)|exact(hO _)))|(apply zG<;>intro ht));all_goals try simp (disch:=first|omega|(simp only [lens,z7,z6,lQr,lQm,lQt,lQd,z8,zg,zh,zi];first|done|omega)) only [go_sem,z1,h64',k1,c1,c2,<-z7w]))
     exact DownV.pure hw z1e
   ·rw [decide_eq_false (fun h=>c1 (o3.2 ⟨h.1,h.2.1⟩))]
    repeat' (first|apply zs_|apply zb_|apply zc_|apply zt_ rfl|apply zf_ rfl|(apply zd_ rfl<;>intro ht<;>try omega)|((first|apply zr_|apply zk_|apply ze_|apply zq_|(apply callW.mk_pu;(first|exact(fun _=>hVa _)|exact(fun _=>hVb _)|exact(fun _=>hO _)))|(apply callW.za;(first|exact(hVa _)|exact(hVb _)|exact(hO _)))|(apply zG<;>intro ht));all_goals try simp (disch:=first|omega|(simp only [lens,z7,z6,lQr,lQm,lQt,lQd,z8,zg,zh,zi];first|done|omega)) only [go_sem,z1,h64',k1,c1]))
    exact DownV.pure hw z1e
  ·rw [if_neg k1]
   by_cases k2:e.k=2
   ·by_cases c1:o=0
    ·by_cases c2:e.r=e.a.r
     ·rw [decide_eq_false (fun h=>h.2.2 c2)]
      repeat' (first|apply zs_|apply zb_|apply zc_|apply zt_ rfl|apply zf_ rfl|(apply zd_ rfl<;>intro ht<;>try omega)|((first|apply zr_|apply zk_|apply ze_|apply zq_|(apply callW.mk_pu;(first|exact(fun _=>hVa _)|exact(fun _=>hVb _)|exact(fun _=>hO _)))|(apply callW.za;(first|exact(hVa _)|exact(hVb _)|exact(hO _)))|(apply zG<;>intro ht));all_goals try simp (disch:=first|omega|(simp only [lens,z7,z6,lQr,lQm,lQt,lQd,z8,zg,zh,zi];first|done|omega)) only [go_sem,z1,h64',k1,k2,c1,c2]))
      exact DownV.pure hw z1e
     ·rw [decide_eq_true ⟨k2,o0.1 c1,c2⟩]
      repeat' (first|apply zs_|apply zb_|apply zc_|apply zt_ rfl|apply zf_ rfl|(apply zd_ rfl<;>intro ht<;>try omega)|((first|apply zr_|apply zk_|apply ze_|apply zq_|(apply callW.mk_pu;(first|exact(fun _=>hVa _)|exact(fun _=>hVb _)|exact(fun _=>hO _)))|(apply callW.za;(first|exact(hVa _)|exact(hVb _)|exact(hO _)))|(apply zG<;>intro ht));all_goals try simp (disch:=first|omega|(simp only [lens,z7,z6,lQr,lQm,lQt,lQd,z8,zg,zh,zi];first|done|omega)) only [go_sem,z1,h64',k1,k2,c1,c2]))
      exact DownV.pure hw z1e
    ·rw [decide_eq_false (fun h=>c1 (o0.2 h.2.1))]
     repeat' (first|apply zs_|apply zb_|apply zc_|apply zt_ rfl|apply zf_ rfl|(apply zd_ rfl<;>intro ht<;>try omega)|((first|apply zr_|apply zk_|apply ze_|apply zq_|(apply callW.mk_pu;(first|exact(fun _=>hVa _)|exact(fun _=>hVb _)|exact(fun _=>hO _)))|(apply callW.za;(first|exact(hVa _)|exact(hVb _)|exact(hO _)))|(apply zG<;>intro ht));all_goals try simp (disch:=first|omega|(simp only [lens,z7,z6,lQr,lQm,lQt,lQd,z8,zg,zh,zi];first|done|omega)) only [go_sem,z1,h64',k1,k2,c1]))
     exact DownV.pure hw z1e
   ·rw [decide_eq_false (fun h=>k2 h.1)]
    repeat' (first|apply zs_|apply zb_|apply zc_|apply zt_ rfl|apply zf_ rfl|(apply zd_ rfl<;>intro ht<;>try omega)|((first|apply zr_|apply zk_|apply ze_|apply zq_|(apply callW.mk_pu;(first|exact(fun _=>hVa _)|exact(fun _=>hVb _)|exact(fun _=>hO _)))|(apply callW.za;(first|exact(hVa _)|exact(hVb _)|exact(hO _)))|(apply zG<;>intro ht));all_goals try simp (disch:=first|omega|(simp only [lens,z7,z6,lQr,lQm,lQt,lQd,z8,zg,zh,zi];first|done|omega)) only [go_sem,z1,h64',k1,k2]))
    exact DownV.pure hw z1e
 ·have h64':(e.p.length:Int)>64:=by omega
  rw [decide_eq_false h64]
  repeat' (first|apply zs_|apply zb_|apply zc_|apply zt_ rfl|apply zf_ rfl|(apply zd_ rfl<;>intro ht<;>try omega)|((first|apply zr_|apply zk_|apply ze_|apply zq_|(apply callW.mk_pu;(first|exact(fun _=>hVa _)|exact(fun _=>hVb _)))|(apply callW.za;(first|exact(hVa _)|exact(hVb _)))|(apply zG<;>intro ht));all_goals try simp (disch:=first|omega|(simp only [lens,z7,z6,lQr,lQm,lQt,lQd,z8,zg,zh,zi];first|done|omega)) only [go_sem,z1,h64']))
  exact DownV.pure hw z1e
end
section
def z4r(key:Hash)(e:Ev):Int:=
 if mayB e=false then 2 else if z48 key e.a.n e.a.i e.a.r e.a.s e.a.p ≠ 0 \/z48 key e.b.n e.b.i e.b.r e.b.s e.b.p ≠ 0 then 81 else if e.k=2/\ chkH e.a.n e.b.n e.r e.b.r e.p ≠ 0 then 80 else 0
def zam(e f:Ev):Bool:=decide (e.k=f.k) && z7b e.a.n f.a.n e.a.i f.a.i e.a.r f.a.r e.a.s f.a.s e.a.p f.a.p && z7b e.b.n f.b.n e.b.i f.b.i e.b.r f.b.r e.b.s f.b.s e.b.p f.b.p && decide (e.r=f.r) && decide (e.p=f.p)
def EvOk(e:Ev):Prop:=e.a.p.length<1000000/\ e.b.p.length<1000000/\ e.p.length<1000000
attribute [local irreducible] ACallsTo ACallsP
theorem zer(O:Store)(key:Hash)(e:Ev)(x y z:AV)(hx:RdSl O 32 (hr e.a.p) x)(hy:RdSl O 32 (hr e.b.p) y)(hz:RdSl O 32 (hr e.p) z)(hl:EvOk e):
  ACallsTo TC 17 [.agg (hc key),.agg (evX e x y z)] O (.int .i64 (z4r key e)) O:=by
 have hS:=fun t=>zsl (O++t) e x y z hx.app hy.app hz.app
 have hA:=fun t=>zet (O++t) key e.a.n e.a.i e.a.r e.a.s e.a.p x hx.app
 have hB:=fun t=>zet (O++t) key e.b.n e.b.i e.b.r e.b.s e.b.p y hy.app
 have hP:=fun t=>zqz (O++t) e.a.n e.b.n e.r e.b.r z e.p hz.app hl.2.2
 unfold z4r
 generalize z48 key e.a.n e.a.i e.a.r e.a.s e.a.p=ca at*
 generalize z48 key e.b.n e.b.i e.b.r e.b.s e.b.p=cb at*
 generalize chkH e.a.n e.b.n e.r e.b.r e.p=cp at*
 generalize mayB e=mb at*
 refine ACallsTo.of_body q1tok (by simp) fun hw _=> ?_
 repeat' (first|apply zs_|apply zb_|apply zc_|apply zt_ rfl|apply zf_ rfl|(apply zd_ rfl<;>intro ht<;>try omega)|((first|apply zr_|apply zk_|apply ze_|apply zq_|(apply zG<;>intro ht));all_goals try simp (disch:=first|omega|(simp only [lens,z7,z6,lQr,lQm,lQt,lQd,z8,zg,zh,zi];first|done|omega)) only [go_sem]))
 refine zW.reg2 ?_ ?_
 all_goals
  simp (disch:=first|omega|(simp only [lens,z7,z6,lQr,lQm,lQt,lQd,z8,zg,zh,zi];first|done|omega)) only [go_sem]
  cases mb with
  |false=>
   repeat' (first|apply zs_|apply zb_|apply zc_|apply zt_ rfl|apply zf_ rfl|(apply zd_ rfl<;>intro ht<;>try omega)|((first|apply zr_|apply zk_|apply ze_|apply zq_|(apply callW.mk_pu;(first|exact(fun _=>hS _)))|(apply callW.za;(first|exact(hS _)))|(apply zG<;>intro ht));all_goals try simp (disch:=first|omega|(simp only [lens,z7,z6,lQr,lQm,lQt,lQd,z8,zg,zh,zi];first|done|omega)) only [go_sem]))
   exact DownV.pure hw z3m
  |true=>
   rw [if_neg (by simp)]
   by_cases h1:ca=0
   ·by_cases h2:cb=0
    ·rw [if_neg (by omega)]
     by_cases k2:e.k=2
     ·by_cases h3:cp=0
      ·rw [if_neg (by omega)]
       repeat' (first|apply zs_|apply zb_|apply zc_|apply zt_ rfl|apply zf_ rfl|(apply zd_ rfl<;>intro ht<;>try omega)|((first|apply zr_|apply zk_|apply ze_|apply zq_|(apply callW.mk_pu;(first|exact(fun _=>hS _)|exact(fun _=>hA _)|exact(fun _=>hB _)|exact(fun _=>hP _)))|(apply callW.za;(first|exact(hS _)|exact(hA _)|exact(hB _)|exact(hP _)))|(apply zG<;>intro ht));all_goals try simp (disch:=first|omega|(simp only [lens,z7,z6,lQr,lQm,lQt,lQd,z8,zg,zh,zi];first|done|omega)) only [go_sem,h1,h2,k2,h3]))
       exact DownV.pure hw z3m
      ·rw [if_pos ⟨k2,h3⟩]
       repeat' (first|apply zs_|apply zb_|apply zc_|apply zt_ rfl|apply zf_ rfl|(apply zd_ rfl<;>intro ht<;>try omega)|((first|apply zr_|apply zk_|apply ze_|apply zq_|(apply callW.mk_pu;(first|exact(fun _=>hS _)|exact(fun _=>hA _)|exact(fun _=>hB _)|exact(fun _=>hP _)))|(apply callW.za;(first|exact(hS _)|exact(hA _)|exact(hB _)|exact(hP _)))|(apply zG<;>intro ht));all_goals try simp (disch:=first|omega|(simp only [lens,z7,z6,lQr,lQm,lQt,lQd,z8,zg,zh,zi];first|done|omega)) only [go_sem,h1,h2,k2,h3]))
       exact DownV.pure hw z3m
     ·rw [if_neg (by omega)]
      repeat' (first|apply zs_|apply zb_|apply zc_|apply zt_ rfl|apply zf_ rfl|(apply zd_ rfl<;>intro ht<;>try omega)|((first|apply zr_|apply zk_|apply ze_|apply zq_|(apply callW.mk_pu;(first|exact(fun _=>hS _)|exact(fun _=>hA _)|exact(fun _=>hB _)|exact(fun _=>hP _)))|(apply callW.za;(first|exact(hS _)|exact(hA _)|exact(hB _)|exact(hP _)))|(apply zG<;>intro ht));all_goals try simp (disch:=first|omega|(simp only [lens,z7,z6,lQr,lQm,lQt,lQd,z8,zg,zh,zi];first|done|omega)) only [go_sem,h1,h2,k2]))
      exact DownV.pure hw z3m
    ·rw [if_pos (.inr h2)]
     repeat' (first|apply zs_|apply zb_|apply zc_|apply zt_ rfl|apply zf_ rfl|(apply zd_ rfl<;>intro ht<;>try omega)|((first|apply zr_|apply zk_|apply ze_|apply zq_|(apply callW.mk_pu;(first|exact(fun _=>hS _)|exact(fun _=>hA _)|exact(fun _=>hB _)))|(apply callW.za;(first|exact(hS _)|exact(hA _)|exact(hB _)))|(apply zG<;>intro ht));all_goals try simp (disch:=first|omega|(simp only [lens,z7,z6,lQr,lQm,lQt,lQd,z8,zg,zh,zi];first|done|omega)) only [go_sem,h1,h2]))
     exact DownV.pure hw z3m
   ·rw [if_pos (.inl h1)]
    repeat' (first|apply zs_|apply zb_|apply zc_|apply zt_ rfl|apply zf_ rfl|(apply zd_ rfl<;>intro ht<;>try omega)|((first|apply zr_|apply zk_|apply ze_|apply zq_|(apply callW.mk_pu;(first|exact(fun _=>hS _)|exact(fun _=>hA _)))|(apply callW.za;(first|exact(hS _)|exact(hA _)))|(apply zG<;>intro ht));all_goals try simp (disch:=first|omega|(simp only [lens,z7,z6,lQr,lQm,lQt,lQd,z8,zg,zh,zi];first|done|omega)) only [go_sem,h1]))
    exact DownV.pure hw z3m
end
section
attribute [local irreducible] ACallsTo ACallsP
end
section
attribute [local irreducible] ACallsTo ACallsP
theorem zrh(O:Store)(e f:Ev)(x y z x2 y2 z2:AV)(hx:SlV 32 (hr e.a.p) x)(hy:SlV 32 (hr e.b.p) y)(hz:SlV 32 (hr e.p) z)(hl:EvOk e)
  (hx2:SlV 32 (hr f.a.p) x2) (hy2:SlV 32 (hr f.b.p) y2) (hz2:SlV 32 (hr f.p) z2) (hl2:EvOk f):
  ACallsTo TC 24 [.agg (evX e x y z),.agg (evX f x2 y2 z2)] O (.bool (zam e f)) O:=by
 have hA:=fun O=>zik O e.a.n f.a.n e.a.i f.a.i e.a.r f.a.r e.a.s f.a.s e.a.p f.a.p x x2 hx hx2 hl.1 hl2.1
 have hB:=fun O=>zik O e.b.n f.b.n e.b.i f.b.i e.b.r f.b.r e.b.s f.b.s e.b.p f.b.p y y2 hy hy2 hl.2.1 hl2.2.1
 obtain⟨_,_,lp⟩:=hl
 obtain⟨_,_,lp2⟩:=hl2
 have a1:=hz.len
 have a2:=hz2.len
 rw [z6]at a1 a2
 unfold z1d at a1 a2
 unfold zam
 generalize z7b e.a.n f.a.n e.a.i f.a.i e.a.r f.a.r e.a.s f.a.s e.a.p f.a.p=ba at*
 generalize z7b e.b.n f.b.n e.b.i f.b.i e.b.r f.b.r e.b.s f.b.s e.b.p f.b.p=bb at*
 have el:=zh e x y z
 have fl:=zh f x2 y2 z2
 refine ACallsTo.of_body q1rok (by simp) fun hw _=> ?_
 by_cases h1:e.k=f.k
 ·rw [decide_eq_true h1]
  cases ba with
  |false=>
   repeat' (first|apply zs_|apply zb_|apply zc_|apply zt_ rfl|apply zf_ rfl|(apply zd_ rfl<;>intro ht<;>try omega)|((first|apply zr_|apply zk_|apply ze_|apply zq_|(apply callW.mk_pu;(first|exact(fun _=>hA _)))|(apply callW.za;(first|exact(hA _)))|(apply zG<;>intro ht));all_goals try simp (disch:=first|omega|(simp only [lens,z7,z6,lQr,lQm,lQt,lQd,z8,zg,zh,zi];first|done|omega)) only [go_sem,h1]))
   exact DownV.pure hw z1e
  |true=>
  cases bb with
  |false=>
   repeat' (first|apply zs_|apply zb_|apply zc_|apply zt_ rfl|apply zf_ rfl|(apply zd_ rfl<;>intro ht<;>try omega)|((first|apply zr_|apply zk_|apply ze_|apply zq_|(apply callW.mk_pu;(first|exact(fun _=>hA _)|exact(fun _=>hB _)))|(apply callW.za;(first|exact(hA _)|exact(hB _)))|(apply zG<;>intro ht));all_goals try simp (disch:=first|omega|(simp only [lens,z7,z6,lQr,lQm,lQt,lQd,z8,zg,zh,zi];first|done|omega)) only [go_sem,h1]))
   exact DownV.pure hw z1e
  |true=>
  by_cases h2:e.r=f.r
  ·rw [decide_eq_true h2]
   by_cases hll:e.p.length=f.p.length
   ·have hll':(e.p.length:Int)=f.p.length:=by omega
    repeat' (first|apply zs_|apply zb_|apply zc_|apply zt_ rfl|apply zf_ rfl|(apply zd_ rfl<;>intro ht<;>try omega)|((first|apply zr_|apply zk_|apply ze_|apply zq_|(apply callW.mk_pu;(first|exact(fun _=>hA _)|exact(fun _=>hB _)))|(apply callW.za;(first|exact(hA _)|exact(hB _)))|(apply zG<;>intro ht));all_goals try simp (disch:=first|omega|(simp only [lens,z7,z6,lQr,lQm,lQt,lQd,z8,zg,zh,zi];first|done|omega)) only [go_sem,h1,h2,a1,a2,hll']))
    refine zW.loop (fun m J O'=>∃k:Nat,m+k=e.p.length/\ O'=O++ [some [evX e x y z],some [evX f x2 y2 z2]]/\ e.p.take k=f.p.take k/\ J 2=.ptr O.length 0 0/\ J 3=.ptr (O.length+1) 0 0/\ J 5=.int .i64 k) e.p.length ?_ ?_
    ·exact⟨0,by omega,rfl,rfl,by simp (disch:=first|omega|(simp only [lens,z7,z6,lQr,lQm,lQt,lQd,z8,zg,zh,zi];first|done|omega)) only [go_sem],by simp (disch:=first|omega|(simp only [lens,z7,z6,lQr,lQm,lQt,lQd,z8,zg,zh,zi];first|done|omega)) only [go_sem],by simp (disch:=first|omega|(simp only [lens,z7,z6,lQr,lQm,lQt,lQd,z8,zg,zh,zi];first|done|omega)) only [go_sem];rfl⟩
    ·rintro m J O' ⟨k,hm,rfl,htk,q2,q3,q5⟩
     by_cases hk:k<e.p.length
     ·obtain⟨ex,rfl⟩:=hz.vsl (by rw [z6];omega)
      obtain⟨ex2,rfl⟩:=hz2.vsl (by rw [z6];omega)
      have hk':(k:Int)<f.p.length:=by omega
      by_cases hh:hd e.p k=hd f.p k
      ·have t1:=z7j (l:=e.p) (i:=k) hk
       have t2:=z7j (l:=f.p) (i:=k) (by omega)
       repeat' (first|apply zs_|apply zb_|apply zc_|apply zt_ rfl|apply zf_ rfl|(apply zd_ rfl<;>intro ht<;>try omega)|((first|apply zr_|apply zk_|apply ze_|apply zq_|(apply zG<;>intro ht));all_goals try simp (disch:=first|omega|(simp only [lens,z7,z6,lQr,lQm,lQt,lQd,z8,zg,zh,zi];first|done|omega)) only [go_sem,q2,q3,q5,a1,a2,hk',hh]))
       exact⟨m-1,by omega,k+1,by omega,by rw [t1,t2,htk,hh],by simp⟩
      ·rw [decide_eq_false (fun e=>hh (by rw [e]))]
       repeat' (first|apply zs_|apply zb_|apply zc_|apply zt_ rfl|apply zf_ rfl|(apply zd_ rfl<;>intro ht<;>try omega)|((first|apply zr_|apply zk_|apply ze_|apply zq_|(apply zG<;>intro ht));all_goals try simp (disch:=first|omega|(simp only [lens,z7,z6,lQr,lQm,lQt,lQd,z8,zg,zh,zi];first|done|omega)) only [go_sem,q2,q3,q5,a1,a2,hk',hh]))
       exact DownV.pure hw z1e
     ·have hk':¬(k:Int)<f.p.length:=by omega
      have:e.p=f.p:=by
       rw [List.take_of_length_le (by omega),List.take_of_length_le (by omega)]at htk
       exact htk
      rw [decide_eq_true this]
      repeat' (first|apply zs_|apply zb_|apply zc_|apply zt_ rfl|apply zf_ rfl|(apply zd_ rfl<;>intro ht<;>try omega)|((first|apply zr_|apply zk_|apply ze_|apply zq_|(apply zG<;>intro ht));all_goals try simp (disch:=first|omega|(simp only [lens,z7,z6,lQr,lQm,lQt,lQd,z8,zg,zh,zi];first|done|omega)) only [go_sem,q2,q3,q5,a1,a2,hll',hk']))
      exact DownV.pure hw z1e
   ·rw [decide_eq_false (fun e=>hll (by rw [e]))]
    have hll':¬(e.p.length:Int)=f.p.length:=by omega
    repeat' (first|apply zs_|apply zb_|apply zc_|apply zt_ rfl|apply zf_ rfl|(apply zd_ rfl<;>intro ht<;>try omega)|((first|apply zr_|apply zk_|apply ze_|apply zq_|(apply callW.mk_pu;(first|exact(fun _=>hA _)|exact(fun _=>hB _)))|(apply callW.za;(first|exact(hA _)|exact(hB _)))|(apply zG<;>intro ht));all_goals try simp (disch:=first|omega|(simp only [lens,z7,z6,lQr,lQm,lQt,lQd,z8,zg,zh,zi];first|done|omega)) only [go_sem,h1,h2,a1,a2,hll']))
    exact DownV.pure hw z1e
  ·rw [decide_eq_false h2]
   repeat' (first|apply zs_|apply zb_|apply zc_|apply zt_ rfl|apply zf_ rfl|(apply zd_ rfl<;>intro ht<;>try omega)|((first|apply zr_|apply zk_|apply ze_|apply zq_|(apply callW.mk_pu;(first|exact(fun _=>hA _)|exact(fun _=>hB _)))|(apply callW.za;(first|exact(hA _)|exact(hB _)))|(apply zG<;>intro ht));all_goals try simp (disch:=first|omega|(simp only [lens,z7,z6,lQr,lQm,lQt,lQd,z8,zg,zh,zi];first|done|omega)) only [go_sem,h1,h2]))
   exact DownV.pure hw z1e
 ·rw [decide_eq_false h1]
  repeat' (first|apply zs_|apply zb_|apply zc_|apply zt_ rfl|apply zf_ rfl|(apply zd_ rfl<;>intro ht<;>try omega)|((first|apply zr_|apply zk_|apply ze_|apply zq_|(apply zG<;>intro ht));all_goals try simp (disch:=first|omega|(simp only [lens,z7,z6,lQr,lQm,lQt,lQd,z8,zg,zh,zi];first|done|omega)) only [go_sem,h1]))
  exact DownV.pure hw z1e
end
section
abbrev HV:=Hdr × AV
def hrw(P:List HV):List (List AV):=P.map fun p=>sgX p.1 p.2
theorem zl(P:List HV):(hrw P).length=P.length:=by simp [hrw]
theorem z3p{P:List HV}{i:Nat}(h:i<P.length):(hrw P)[i]? =some (sgX P[i].1 P[i].2):=by
 simp [hrw,List.getElem?_eq_getElem h]
theorem zoh(P:List HV)(i:Nat):(hrw P).drop i=hrw (P.drop i):=by simp [hrw,List.map_drop]
theorem zoi(P:List HV):(hrw P).take P.length=hrw P:=List.take_of_length_le (by rw [zl];exact Nat.le_refl _)
def HOk(P:List HV):Prop:=∀p ∈ P,SlV 32 (hr p.1.p) p.2
theorem HOk.drop{P:List HV}(h:HOk P)(i:Nat):HOk (P.drop i):=fun p hp=>h p (List.mem_of_mem_drop hp)
theorem HOk.at{P:List HV}(h:HOk P){i:Nat}(hi:i<P.length):SlV 32 (hr P[i].1.p) P[i].2:=h _ (List.getElem_mem hi)
def z25(a b:HV):Bool:=valH a.1 && valH b.1 && decide (ordI a.1.n b.1.n a.1.r b.1.r=3)
def z1p:List HV->Option (HV × HV)
 | []=>none
 |p::P=>match P.find? (z25 p)with
  |some q=>some (p,q)
  |none=>z1p P
theorem zgq{P:List HV}{i:Nat}(hi:i<P.length):z1p (P.drop i)=match (P.drop (i+1)).find? (z25 P[i])with|some q=>some (P[i],q)|none=>z1p (P.drop (i+1)):=by
 rw [List.drop_eq_getElem_cons hi];rfl
theorem zgr{P:List HV}:z1p (P.drop P.length)=none:=by rw [List.drop_length];rfl
theorem zao{P:List HV}{f:HV->Bool}{j:Nat}(hj:j<P.length):(P.drop j).find? f=if f P[j]=true then some P[j]else(P.drop (j+1)).find? f:=by
 rw [List.drop_eq_getElem_cons hj,List.find?_cons]
 cases f P[j]<;>rfl
def zcq:Option (HV × HV)->AV
 |none=> .tup [.agg evO,.bool false]
 |some (p,q)=> .tup [.agg (evX ⟨1,p.1,q.1,zeroH,[]⟩ p.2 q.2 .nilsl),.bool true]
theorem rlE'{n:Nat}(e:Ev){x y z w:AV}(hx:RL n x)(hy:RL n y)(hz:RL n z)(hw:RL n w):RL n (.tup [.agg (evX e x y z),w]):=by
 simp only [RL,RLs]
 exact⟨zis e x y z hx hy hz,hw,trivial⟩
attribute [local irreducible] ACallsTo ACallsP
theorem zhx(O:Store)(e:Ev)(x y z:AV)(hx:SlV 32 (hr e.a.p) x)(hy:SlV 32 (hr e.b.p) y)(hz:RL O.length z)(ha:e.a.p ≠ [])(hb:e.b.p ≠ [])(hla:e.a.p.length<1000000)(hlb:e.b.p.length<1000000):
  ACallsTo TC 57 [.agg (evX e x y z)] O (.agg (evX e (zx 32 (hr e.a.p)) (zx 32 (hr e.b.p)) z)) O:=by
 have h1:=fun O=>zeq O e.a.p x (.of hx) hla
 have h2:=fun O=>zeq O e.b.p y (.of hy) hlb
 have ne:∀(l:List Hash) (v:AV),l ≠ []->SlV 32 (hr l) v->v ≠ .nilsl:=by
  rintro l v h0 (⟨_,h⟩| ⟨ex,rfl⟩)
  ·exact absurd (hr_nil_iff.1 h) h0
  ·exact nofun
 have e0:∀l:List Hash,l ≠ []->zx 32 (hr l)=.vsl 32 (hr l) false:=fun l h0=>by unfold zx;rw [if_neg fun e=>h0 (hr_nil_iff.1 e)]
 rw [zd0 (ne _ _ ha hx)]at h1
 rw [zd0 (ne _ _ hb hy)]at h2
 rw [e0 _ ha,e0 _ hb]
 have hel:=zh e (.vsl 32 (hr e.a.p) false) (.vsl 32 (hr e.b.p) false) z
 have hO6:evO.drop 106=[]:=z2y _ _ _ _
 refine ACallsTo.of_body q1xok (by simp) fun hw _=> ?_
 repeat' (first|apply zs_|apply zb_|apply zc_|apply zt_ rfl|apply zf_ rfl|(apply zd_ rfl<;>intro ht<;>try omega)|((first|apply zr_|apply zk_|apply ze_|apply zq_|(apply callW.mk_pu;(first|exact(fun _=>h1 _)|exact(fun _=>h2 _)))|(apply callW.za;(first|exact(h1 _)|exact(h2 _)))|(apply zG<;>intro ht));all_goals try simp (disch:=first|omega|(simp only [lens,z7,z6,lQr,lQm,lQt,lQd,z8,zg,zh,zi,zl];first|done|omega)) only [go_sem,hel,hO6,List.append_nil]))
 have rv:∀(l:List Hash) (b:Bool),RL O.length (.vsl 32 (hr l) b):=fun l b=>by simp only [RL];exact z2t l
 have hev:RL O.length (.agg (evX e (.vsl 32 (hr e.a.p) false) (.vsl 32 (hr e.b.p) false) z)):=by
  simp only [RL]
  exact zis e _ _ _ (rv _ _) (rv _ _) hz
 exact DownV.pure hw hev
theorem znv(O:Store)(P:List HV)(v:AV)(hv:SlV 36 (hrw P) v)(hP:HOk P)(hl:P.length<1000000):ACallsTo TC 56 [v] O (zcq (z1p P)) O:=by
 have r1:=hv.len
 rw [zl]at r1
 unfold z1d at r1
 refine ACallsTo.of_body q1wok (by simp) fun hw _=> ?_
 repeat' (first|apply zs_|apply zb_|apply zc_|apply zt_ rfl|apply zf_ rfl|(apply zd_ rfl<;>intro ht<;>try omega)|((first|apply zr_|apply zk_|apply ze_|apply zq_|(apply zG<;>intro ht));all_goals try simp (disch:=first|omega|(simp only [lens,z7,z6,lQr,lQm,lQt,lQd,z8,zg,zh,zi,zl];first|done|omega)) only [go_sem,r1]))
 refine zW.loop (fun m J O'=>∃(i:Nat) (y:Store),m+i=P.length/\ O'=O++(some [evO]::y)/\ z1p P=z1p (P.drop i)/\ J 0=v/\ J 2=.ptr O.length 0 0/\ J 8=v/\ J 9=.int .i64 P.length/\ J 10=.int .i64 i) P.length ?_ ?_
 ·exact⟨0,[],by omega,rfl,rfl,by simp (disch:=first|omega|(simp only [lens,z7,z6,lQr,lQm,lQt,lQd,z8,zg,zh,zi,zl];first|done|omega)) only [go_sem],by simp (disch:=first|omega|(simp only [lens,z7,z6,lQr,lQm,lQt,lQd,z8,zg,zh,zi,zl];first|done|omega)) only [go_sem],by simp (disch:=first|omega|(simp only [lens,z7,z6,lQr,lQm,lQt,lQd,z8,zg,zh,zi,zl];first|done|omega)) only [go_sem],by simp (disch:=first|omega|(simp only [lens,z7,z6,lQr,lQm,lQt,lQd,z8,zg,zh,zi,zl];first|done|omega)) only [go_sem],by simp (disch:=first|omega|(simp only [lens,z7,z6,lQr,lQm,lQt,lQd,z8,zg,zh,zi,zl];first|done|omega)) only [go_sem];rfl⟩
 ·rintro m J O' ⟨i,y,hm,rfl,hF,q0,q2,q8,q9,q10⟩
  by_cases hi:i<P.length
  ·have hi':(i:Int)<P.length:=by omega
   obtain⟨ex,rfl⟩:=hv.vsl (by rw [zl];omega)
   have hgi:=z3p hi
   have hp:=hP.at hi
   have hst:=zgq hi
   have hdr:=zoh P (i+1)
   have htk:=zoi P
   have hpl:=zl P
   have hPD:=hP.drop (i+1)
   have hDl:(P.drop (i+1)).length=P.length-(i+1):=List.length_drop
   have hDe:z1p (P.drop (i+1))=z1p (P.drop (i+1)):=rfl
   generalize hDD:P.drop (i+1)=D at hdr hPD hDl hst
   rw [hst]at hF
   generalize P[i]=p at*
   have hi1:((i:Int)+1).toNat=i+1:=by omega
   have hsl:=zg p.1 p.2
   have hzl:sgZ.length=36:=zg zHd .nilsl
   have hzd:sgZ.drop 36=[]:=z8a zHd .nilsl
   have hdl:=zl D
   have hVa:=fun O=>z6w O p.1.n p.1.i p.1.r p.1.s p.1.p p.2 (.of hp)
   repeat' (first|apply zs_|apply zb_|apply zc_|apply zt_ rfl|apply zf_ rfl|(apply zd_ rfl<;>intro ht<;>try omega)|((first|apply zr_|apply zk_|apply ze_|apply zq_|(apply zG<;>intro ht));all_goals try simp (disch:=first|omega|(simp only [lens,z7,z6,lQr,lQm,lQt,lQd,z8,zg,zh,zi,zl];first|done|omega)) only [go_sem,q0,q2,q8,q9,q10,hi',hgi,htk,hdr,hpl,hi1,hsl,hzl,hzd,hdl]))
   have hO:evO=evX ⟨0,zHd,zHd,zeroH,[]⟩ .nilsl .nilsl .nilsl:=rfl
   have hel:=fun e x y z=>zh e x y z
   have hO6:=fun e x y z=>z2y e x y z
   refine zW.loop (fun m J O'=>∃(j:Nat) (y':Store),m+j=D.length/\ O'=O++(some [evO]::(y++(some [sgX p.1 p.2]::y')))/\ D.find? (z25 p)=(D.drop j).find? (z25 p)/\ J 0=.vsl 36 (hrw P) ex/\ J 2=.ptr O.length 0 0/\ J 5=.ptr (O.length+(y.length+1)) 0 0/\ J 8=.vsl 36 (hrw P) ex/\ J 9=.int .i64 P.length/\ J 10=.int .i64 i/\ J 18=.vsl 36 (hrw D) ex/\ J 19=.int .i64 D.length/\ J 20=.int .i64 j) D.length ?_ ?_
   ·exact⟨0,[],by omega,rfl,rfl,by simp (disch:=first|omega|(simp only [lens,z7,z6,lQr,lQm,lQt,lQd,z8,zg,zh,zi,zl];first|done|omega)) only [go_sem,q0],by simp (disch:=first|omega|(simp only [lens,z7,z6,lQr,lQm,lQt,lQd,z8,zg,zh,zi,zl];first|done|omega)) only [go_sem,q2],by simp (disch:=first|omega|(simp only [lens,z7,z6,lQr,lQm,lQt,lQd,z8,zg,zh,zi,zl];first|done|omega)) only [go_sem],by simp (disch:=first|omega|(simp only [lens,z7,z6,lQr,lQm,lQt,lQd,z8,zg,zh,zi,zl];first|done|omega)) only [go_sem,q8],by simp (disch:=first|omega|(simp only [lens,z7,z6,lQr,lQm,lQt,lQd,z8,zg,zh,zi,zl];first|done|omega)) only [go_sem,q9],by simp (disch:=first|omega|(simp only [lens,z7,z6,lQr,lQm,lQt,lQd,z8,zg,zh,zi,zl];first|done|omega)) only [go_sem,q10],by simp (disch:=first|omega|(simp only [lens,z7,z6,lQr,lQm,lQt,lQd,z8,zg,zh,zi,zl];first|done|omega)) only [go_sem],by simp (disch:=first|omega|(simp only [lens,z7,z6,lQr,lQm,lQt,lQd,z8,zg,zh,zi,zl];first|done|omega)) only [go_sem],by simp (disch:=first|omega|(simp only [lens,z7,z6,lQr,lQm,lQt,lQd,z8,zg,zh,zi,zl];first|done|omega)) only [go_sem];rfl⟩
   ·rintro m2 J2 O2 ⟨j,y2,hm2,rfl,hF2,s0,s2,s5,s8,s9,s10,s18,s19,s20⟩
    by_cases hj:j<D.length
    ·have hj':(j:Int)<D.length:=by omega
     have hgj:=z3p hj
     have hq:=hPD.at hj
     have hfd:=zao (f:=z25 p) hj
     rw [hfd]at hF2
     generalize D[j]=q at*
     have hsq:=zg q.1 q.2
     have hVb:=fun O=>z6w O q.1.n q.1.i q.1.r q.1.s q.1.p q.2 (.of hq)
     have hOr:=fun O=>zeu O p.1.n q.1.n p.1.r q.1.r
     by_cases hb:z25 p q=true
     ·rw [if_pos hb]at hF2
      rw [hF2]at hF
      simp only at hF
      rw [hF]
      unfold z25 valH at hb
      simp only [Bool.and_eq_true,decide_eq_true_eq]at hb
      obtain⟨⟨b1,b2⟩,b3⟩:=hb
      rw [b1]at hVa
      rw [b2]at hVb
      rw [b3]at hOr
      repeat' (first|apply zs_|apply zb_|apply zc_|apply zt_ rfl|apply zf_ rfl|(apply zd_ rfl<;>intro ht<;>try omega)|((first|apply zr_|apply zk_|apply ze_|apply zq_|(apply callW.mk_pu;(first|exact(fun _=>hVa _)|exact(fun _=>hVb _)|exact(fun _=>hOr _)))|(apply callW.za;(first|exact(hVa _)|exact(hVb _)|exact(hOr _)))|(apply zG<;>intro ht));all_goals try simp (disch:=first|omega|(simp only [lens,z7,z6,lQr,lQm,lQt,lQd,z8,zg,zh,zi,zl];first|done|omega)) only [go_sem,s0,s2,s5,s8,s9,s10,s18,s19,s20,hj',hgj,hsl,hsq,hzl,hzd,hdl,hpl,hO,hel,hO6,List.append_nil]))
      exact DownV.pure hw (rlE' _ (z5w hp) (z5w hq) (by simp [RL]) (by simp [RL]))
     ·rw [if_neg hb]at hF2
      have hbf:(valH p.1 && valH q.1 && decide (ordI p.1.n q.1.n p.1.r q.1.r=3))=false:=by
       unfold z25 at hb
       simpa using hb
      unfold valH at hbf
      generalize z28 p.1.n p.1.i p.1.s p.1.p=va at*
      generalize z28 q.1.n q.1.i q.1.s q.1.p=vb at*
      generalize ordI p.1.n q.1.n p.1.r q.1.r=o at*
      cases va with
      |false=>
       repeat' (first|apply zs_|apply zb_|apply zc_|apply zt_ rfl|apply zf_ rfl|(apply zd_ rfl<;>intro ht<;>try omega)|((first|apply zr_|apply zk_|apply ze_|apply zq_|(apply callW.mk_pu;(first|exact(fun _=>hVa _)))|(apply callW.za;(first|exact(hVa _)))|(apply zG<;>intro ht));all_goals try simp (disch:=first|omega|(simp only [lens,z7,z6,lQr,lQm,lQt,lQd,z8,zg,zh,zi,zl];first|done|omega)) only [go_sem,s0,s2,s5,s8,s9,s10,s18,s19,s20,hj',hgj,hsl,hsq,hzl,hzd,hdl,hpl,List.append_nil]))
       exact⟨m2-1,by omega,j+1,_,by omega,rfl,hF2,by simp⟩
      |true=>
      cases vb with
      |false=>
       repeat' (first|apply zs_|apply zb_|apply zc_|apply zt_ rfl|apply zf_ rfl|(apply zd_ rfl<;>intro ht<;>try omega)|((first|apply zr_|apply zk_|apply ze_|apply zq_|(apply callW.mk_pu;(first|exact(fun _=>hVa _)|exact(fun _=>hVb _)))|(apply callW.za;(first|exact(hVa _)|exact(hVb _)))|(apply zG<;>intro ht));all_goals try simp (disch:=first|omega|(simp only [lens,z7,z6,lQr,lQm,lQt,lQd,z8,zg,zh,zi,zl];first|done|omega)) only [go_sem,s0,s2,s5,s8,s9,s10,s18,s19,s20,hj',hgj,hsl,hsq,hzl,hzd,hdl,hpl,List.append_nil]))
       exact⟨m2-1,by omega,j+1,_,by omega,rfl,hF2,by simp⟩
      |true=>
       have h3:¬o=3:=by simpa using hbf
       repeat' (first|apply zs_|apply zb_|apply zc_|apply zt_ rfl|apply zf_ rfl|(apply zd_ rfl<;>intro ht<;>try omega)|((first|apply zr_|apply zk_|apply ze_|apply zq_|(apply callW.mk_pu;(first|exact(fun _=>hVa _)|exact(fun _=>hVb _)|exact(fun _=>hOr _)))|(apply callW.za;(first|exact(hVa _)|exact(hVb _)|exact(hOr _)))|(apply zG<;>intro ht));all_goals try simp (disch:=first|omega|(simp only [lens,z7,z6,lQr,lQm,lQt,lQd,z8,zg,zh,zi,zl];first|done|omega)) only [go_sem,s0,s2,s5,s8,s9,s10,s18,s19,s20,hj',hgj,hsl,hsq,hzl,hzd,hdl,hpl,h3,List.append_nil]))
       exact⟨m2-1,by omega,j+1,_,by omega,rfl,hF2,by simp⟩
    ·obtain rfl:j=D.length:=by omega
     rw [List.drop_length]at hF2
     rw [hF2]at hF
     have hF':z1p P=z1p D:=hF
     repeat' (first|apply zs_|apply zb_|apply zc_|apply zt_ rfl|apply zf_ rfl|(apply zd_ rfl<;>intro ht<;>try omega)|((first|apply zr_|apply zk_|apply ze_|apply zq_|(apply zG<;>intro ht));all_goals try simp (disch:=first|omega|(simp only [lens,z7,z6,lQr,lQm,lQt,lQd,z8,zg,zh,zi,zl];first|done|omega)) only [go_sem,s0,s2,s5,s8,s9,s10,s18,s19,s20,hdl,hpl]))
     exact⟨m-1,by omega,i+1,_,by omega,rfl,by rw [hDD];exact hF',by simp⟩
  ·obtain rfl:i=P.length:=by omega
   rw [zgr]at hF
   rw [hF]
   have hO6:evO.drop 106=[]:=z2y _ _ _ _
   repeat' (first|apply zs_|apply zb_|apply zc_|apply zt_ rfl|apply zf_ rfl|(apply zd_ rfl<;>intro ht<;>try omega)|((first|apply zr_|apply zk_|apply ze_|apply zq_|(apply zG<;>intro ht));all_goals try simp (disch:=first|omega|(simp only [lens,z7,z6,lQr,lQm,lQt,lQd,z8,zg,zh,zi,zl];first|done|omega)) only [go_sem,q0,q2,q8,q9,q10,zi,hO6,List.append_nil]))
   exact DownV.pure hw (rlE' evZ0 (by simp [RL]) (by simp [RL]) (by simp [RL]) (by simp [RL]))
end
section
def z4i(L:List Hash)(o:Option HV)(p:HV):Bool:=valH p.1 && decide (p.1.n<=L.length) && (match o with|none=>true|some w=>decide (w.1.n<p.1.n)) && decide (z19 (L.take p.1.n.toNat)=p.1.r)
def z29(L:List Hash)(o:Option HV)(p:HV):Option HV:=if z4i L o p=true then some p else o
def z4j(L:List Hash)(P:List HV):Option HV:=P.foldl (z29 L) none
theorem zfe{L:List Hash}{P:List HV}{i:Nat}(hi:i<P.length):(P.take (i+1)).foldl (z29 L) none=z29 L ((P.take i).foldl (z29 L) none) P[i]:=by
 rw [List.take_succ_eq_append_getElem hi,List.foldl_append];rfl
def oC:Option HV->List AV
 |none=>sgZ
 |some p=>sgX p.1 p.2
theorem zaz(o:Option HV):(oC o).length=36:=by cases o<;>exact z8 _ _ _ _ _
def za9(o:Option HV):AV:=.tup [.agg (oC o),.bool o.isSome]
theorem z7l{h:Hdr}(hv:valH h=true):0<=h.n/\ h.n<=4096/\ h.p.length=3:=by
 obtain⟨N,I,e1,e2,b1,b2,b3,b4⟩:=zu2 hv
 omega
def splB(L:List Hash)(w p:HV):Bool:=valH p.1 && decide (p.1.n<w.1.n) && decide (z19 (L.take p.1.n.toNat) ≠ p.1.r)
def z2n(L:List Hash)(P:List HV):Option (Ev × AV × AV):=
 match z1p P with
 |some (p,q)=>some (⟨1,p.1,q.1,zeroH,[]⟩,p.2,q.2)
 |none=>match z4j L P with
  |none=>none
  |some w=>match P.find? (splB L w)with
   |none=>none
   |some p=>some (⟨2,p.1,w.1,z19 (L.take p.1.n.toNat),z3e (L.take w.1.n.toNat) p.1.n⟩,p.2,w.2)
def z7v:Option (Ev × AV × AV)->AV
 |none=> .tup [.agg evO,.bool false]
 |some x=> .tup [.agg (evL x.1),.bool true]
attribute [local irreducible] ACallsTo ACallsP
theorem z78(L:List Hash)(n:Nat):(hr L).take n=hr (L.take n):=by simp [hr,List.map_take]
theorem zlj (O : Store) (P : List HV) (v w : AV) (L : List Hash) (hv : SlV 36 (hrw P) v) (hP : HOk P) (hl : P.length < 1000000) (hw' : SlV 32 (hr L) w) (hL : L.length < 1000000) :
    ACallsTo TC 58 [v,w] O (za9 (z4j L P)) O:=by
  have r1:=hv.len
  rw [zl]at r1
  unfold z1d at r1
  have r2:=hw'.len
  rw [z6]at r2
  unfold z1d at r2
  have hoz:oC none=sgZ:=rfl
  refine ACallsTo.of_body q1yok (by simp) fun hw _=> ?_
  repeat' (first|apply zs_|apply zb_|apply zc_|apply zt_ rfl|apply zf_ rfl|(apply zd_ rfl<;>intro ht<;>try omega)|((first|apply zr_|apply zk_|apply ze_|apply zq_|(apply zG<;>intro ht));all_goals try simp (disch:=first|omega|(simp only [lens,z7,z6,lQr,lQm,lQt,lQd,z8,zg,zh,zi,zl];first|done|omega)) only [go_sem,r1,r2]))
  refine zW.loop (fun m J O'=>∃(i:Nat) (y:Store) (o:Option HV),m+i=P.length/\ O'=O++(some [sgZ]::some [oC o]::y)/\ o=(P.take i).foldl (z29 L) none/\ (∀k,RLs k (oC o))/\ J 1=w/\ J 4=.ptr O.length 0 0/\ J 6=.ptr (O.length+1) 0 0/\ J 7=.bool o.isSome/\ J 11=v/\ J 12=.int .i64 P.length/\ J 13=.int .i64 i) P.length ?_ ?_
  · exact⟨0,[],none,by omega,rfl,rfl,fun k=>z6k (by simp [RL]),by simp (disch:=first|omega|(simp only [lens,z7,z6,lQr,lQm,lQt,lQd,z8,zg,zh,zi,zl];first|done|omega)) only [go_sem],by simp (disch:=first|omega|(simp only [lens,z7,z6,lQr,lQm,lQt,lQd,z8,zg,zh,zi,zl];first|done|omega)) only [go_sem],by simp (disch:=first|omega|(simp only [lens,z7,z6,lQr,lQm,lQt,lQd,z8,zg,zh,zi,zl];first|done|omega)) only [go_sem],by simp (disch:=first|omega|(simp only [lens,z7,z6,lQr,lQm,lQt,lQd,z8,zg,zh,zi,zl];first|done|omega)) only [go_sem];rfl,by simp (disch:=first|omega|(simp only [lens,z7,z6,lQr,lQm,lQt,lQd,z8,zg,zh,zi,zl];first|done|omega)) only [go_sem],by simp (disch:=first|omega|(simp only [lens,z7,z6,lQr,lQm,lQt,lQd,z8,zg,zh,zi,zl];first|done|omega)) only [go_sem],by simp (disch:=first|omega|(simp only [lens,z7,z6,lQr,lQm,lQt,lQd,z8,zg,zh,zi,zl];first|done|omega)) only [go_sem];rfl⟩
  · rintro m J O' ⟨i,y,o,hm,rfl,hF,hRo,q1,q4,q6,q7,q11,q12,q13⟩
    have hol:=zaz o
    by_cases hi:i<P.length
    · have hi':(i:Int)<P.length:=by omega
      obtain⟨ex,rfl⟩:=hv.vsl (by rw [zl];omega)
      have hgi:=z3p hi
      have hp:=hP.at hi
      have hst:=zfe (L:=L) hi
      rw [<-hF]at hst
      have hpl:=zl P
      generalize P[i]=p at*
      have hsl:=zg p.1 p.2
      have hzl:sgZ.length=36:=zg zHd .nilsl
      have hzd:sgZ.drop 36=[]:=z8a zHd .nilsl
      have hV:=fun O=>z6w O p.1.n p.1.i p.1.r p.1.s p.1.p p.2 (.of hp)
      have hval:valH p.1=z28 p.1.n p.1.i p.1.s p.1.p:=rfl
      have hvn:= @z7l p.1
      rw [hval]at hvn
      have keep:z4i L o p=false->(P.take (i+1)).foldl (z29 L) none=o:=fun h=>by rw [hst];unfold z29;rw [h];rfl
      have new:z4i L o p=true->(P.take (i+1)).foldl (z29 L) none=some p:=fun h=>by rw [hst];unfold z29;rw [h];rfl
      have hrp:∀k,RLs k (oC (some p)):=fun k=>z6k (z5w hp)
      have hoc:oC (some p)=sgX p.1 p.2:=rfl
      unfold z4i at keep new
      rw [hval]at keep new
      generalize z28 p.1.n p.1.i p.1.s p.1.p=vb at*
      cases vb with
      |false=>
        repeat' (first|apply zs_|apply zb_|apply zc_|apply zt_ rfl|apply zf_ rfl|(apply zd_ rfl<;>intro ht<;>try omega)|((first|apply zr_|apply zk_|apply ze_|apply zq_|(apply callW.mk_pu;(first|exact(fun _=>hV _)))|(apply callW.za;(first|exact(hV _)))|(apply zG<;>intro ht));all_goals try simp (disch:=first|omega|(simp only [lens,z7,z6,lQr,lQm,lQt,lQd,z8,zg,zh,zi,zl];first|done|omega)) only [go_sem,q1,q4,q6,q7,q11,q12,q13,hi',hgi,hpl,hsl,hzl,hzd,List.append_nil,r2,hol]))
        exact⟨m-1,by omega,i+1,_,o,by omega,rfl,(keep (by simp)).symm,hRo,by simp⟩
      |true=>
        obtain⟨n0,n1,_⟩:=hvn rfl
        by_cases c2:p.1.n<=L.length
        · rw [decide_eq_true c2]at keep new
          have hln:(L.take p.1.n.toNat).length<1000000:=by rw [List.length_take];omega
          have hR:=fun O x (hx:SlV 32 (hr (L.take p.1.n.toNat)) x)=>z9k O (L.take p.1.n.toNat) x (.of hx) (by omega)
          have fk:=z78 L p.1.n.toNat
          have hcase:((o=none/\ p.1.n> -1) \/ ∃q,o=some q/\ p.1.n>q.1.n) \/ ∃q,o=some q/\ ¬q.1.n<p.1.n:=by
            cases o with
            |none=>exact .inl (.inl ⟨rfl,by omega⟩)
            | some q => by_cases h : q.1.n < p.1.n
                        · exact .inl (.inr ⟨q,rfl,h⟩)
                        · exact .inr ⟨q,rfl,h⟩
          have nlL:(hr L).length=L.length:=z6 L
          rcases hcase with hc| ⟨q,rfl,h3⟩
          · have kb:∀b,(true && true && (match o with|none=>true|some w=>decide (w.1.n<p.1.n)) && b)=b:=by
              intro b
              rcases hc with⟨rfl,_⟩| ⟨q,rfl,h⟩
              · rfl
              · simp;intro h';omega
            rw [kb]at keep new
            clear kb
            generalize z19 (L.take p.1.n.toNat)=R at*
            have hsl2:∃x,SlV 32 (hr (L.take p.1.n.toNat)) x/\ ((w=.nilsl/\ x=.nilsl/\ p.1.n=0/\ L=[]) \/ ∃b b2,w=.vsl 32 (hr L) b/\ x=.vsl 32 (hr (L.take p.1.n.toNat)) b2/\ b2=(b && (p.1.n.toNat==L.length))):=by
              rcases hw' with⟨rfl,h0⟩| ⟨b,rfl⟩
              · have hLn:L=[]:=hr_nil_iff.1 h0
                subst hLn
                exact⟨.nilsl,.inl ⟨rfl,by simp [hr]⟩,.inl ⟨rfl,rfl,by simp at c2;omega,rfl⟩⟩
              · exact⟨_,.inr ⟨_,rfl⟩,.inr ⟨b,_,rfl,rfl,rfl⟩⟩
            obtain⟨x,hx,hcx⟩:=hsl2
            have hR':=fun O=>hR O x hx
            have hq0:∀q:HV,(oC (some q))[0]? =some (.int .i64 q.1.n):=fun q=>rfl
            have hod:∀o,(oC o).drop 36=[]:=fun o=>List.drop_eq_nil_of_le (by rw [zaz];omega)
            by_cases h4:R=p.1.r
            · have n2:=new (decide_eq_true h4)
              rcases hc with⟨rfl,h3⟩| ⟨q,rfl,h3⟩<;>rcases hcx with⟨rfl,rfl,e0,hL0⟩| ⟨b,b2,rfl,rfl,e0⟩
              all_goals
                repeat' (first|apply zs_|apply zb_|apply zc_|apply zt_ rfl|apply zf_ rfl|(apply zd_ rfl<;>intro ht<;>try omega)|((first|apply zr_|apply zk_|apply ze_|apply zq_|(apply callW.mk_pu;(first|exact(fun _=>hV _)|exact(fun _=>hR _ _ (.inr ⟨_,rfl⟩))|exact(fun _=>hR' _)))|(apply callW.za;(first|exact(hV _)|exact(hR _ _ (.inr ⟨_,rfl⟩))|exact(hR' _)))|(apply zG<;>intro ht));all_goals try simp (disch:=first|omega|(simp only [lens,z7,z6,lQr,lQm,lQt,lQd,z8,zg,zh,zi,zl];first|done|omega)) only [go_sem,q1,q4,q6,q7,q11,q12,q13,hi',hgi,hpl,hsl,hzl,hzd,List.append_nil,r2,hol,c2,h3,hq0,h4,fk,Option.isSome_some,Option.isSome_none,nlL,hoc,hod,zaz]))
                exact⟨m-1,by omega,i+1,_,some p,by omega,rfl,n2.symm,hrp,by simp⟩
            · have k2:=keep (decide_eq_false h4)
              rcases hc with⟨rfl,h3⟩| ⟨q,rfl,h3⟩<;>rcases hcx with⟨rfl,rfl,e0,hL0⟩| ⟨b,b2,rfl,rfl,e0⟩
              all_goals
                repeat' (first|apply zs_|apply zb_|apply zc_|apply zt_ rfl|apply zf_ rfl|(apply zd_ rfl<;>intro ht<;>try omega)|((first|apply zr_|apply zk_|apply ze_|apply zq_|(apply callW.mk_pu;(first|exact(fun _=>hV _)|exact(fun _=>hR _ _ (.inr ⟨_,rfl⟩))|exact(fun _=>hR' _)))|(apply callW.za;(first|exact(hV _)|exact(hR _ _ (.inr ⟨_,rfl⟩))|exact(hR' _)))|(apply zG<;>intro ht));all_goals try simp (disch:=first|omega|(simp only [lens,z7,z6,lQr,lQm,lQt,lQd,z8,zg,zh,zi,zl];first|done|omega)) only [go_sem,q1,q4,q6,q7,q11,q12,q13,hi',hgi,hpl,hsl,hzl,hzd,List.append_nil,r2,hol,c2,h3,hq0,h4,fk,Option.isSome_some,Option.isSome_none,nlL,hoc,hod,zaz]))
                exact⟨m-1,by omega,i+1,_,_,by omega,rfl,k2.symm,hRo,by simp⟩
          · have k2:=keep (by simp [h3])
            have h3':¬p.1.n>q.1.n:=h3
            have hq0:(oC (some q))[0]? =some (.int .i64 q.1.n):=rfl
            repeat' (first|apply zs_|apply zb_|apply zc_|apply zt_ rfl|apply zf_ rfl|(apply zd_ rfl<;>intro ht<;>try omega)|((first|apply zr_|apply zk_|apply ze_|apply zq_|(apply callW.mk_pu;(first|exact(fun _=>hV _)))|(apply callW.za;(first|exact(hV _)))|(apply zG<;>intro ht));all_goals try simp (disch:=first|omega|(simp only [lens,z7,z6,lQr,lQm,lQt,lQd,z8,zg,zh,zi,zl];first|done|omega)) only [go_sem,q1,q4,q6,q7,q11,q12,q13,hi',hgi,hpl,hsl,hzl,hzd,List.append_nil,r2,hol,c2,h3',hq0,Option.isSome_some]))
            exact⟨m-1,by omega,i+1,_,some q,by omega,rfl,k2.symm,hRo,by simp⟩
        · repeat' (first|apply zs_|apply zb_|apply zc_|apply zt_ rfl|apply zf_ rfl|(apply zd_ rfl<;>intro ht<;>try omega)|((first|apply zr_|apply zk_|apply ze_|apply zq_|(apply callW.mk_pu;(first|exact(fun _=>hV _)))|(apply callW.za;(first|exact(hV _)))|(apply zG<;>intro ht));all_goals try simp (disch:=first|omega|(simp only [lens,z7,z6,lQr,lQm,lQt,lQd,z8,zg,zh,zi,zl];first|done|omega)) only [go_sem,q1,q4,q6,q7,q11,q12,q13,hi',hgi,hpl,hsl,hzl,hzd,List.append_nil,r2,hol,c2]))
          exact⟨m-1,by omega,i+1,_,o,by omega,rfl,(keep (by simp [c2])).symm,hRo,by simp⟩
    · obtain rfl:i=P.length:=by omega
      rw [List.take_of_length_le (Nat.le_refl _)]at hF
      have hzl:sgZ.length=36:=zg zHd .nilsl
      have hzd:sgZ.drop 36=[]:=z8a zHd .nilsl
      repeat' (first|apply zs_|apply zb_|apply zc_|apply zt_ rfl|apply zf_ rfl|(apply zd_ rfl<;>intro ht<;>try omega)|((first|apply zr_|apply zk_|apply ze_|apply zq_|(apply zG<;>intro ht));all_goals try simp (disch:=first|omega|(simp only [lens,z7,z6,lQr,lQm,lQt,lQd,z8,zg,zh,zi,zl];first|done|omega)) only [go_sem,q1,q4,q6,q7,q11,q12,q13,r2,hol,hzd,List.append_nil]))
      unfold za9 z4j
      rw [<-hF]
      exact DownV.pure hw (by simp only [RL,RLs];exact⟨hRo _,trivial,trivial⟩)
end
section
structure Rgh where
 n:Int
 r:Hash
 i:Int
 s:List UInt8
 m:Int
 p:List Hash
structure Rev where
 k:Int
 a:Rgh
 b:Rgh
 r:Hash
 p:List Hash
def rgX(h:Rgh)(x:AV):List AV:=rgC h.n h.r h.i h.s h.m x
theorem z24(h:Rgh)(x:AV):(rgX h x).length=37:=z5u _ _ _ _ _ _
def rvX(e:Rev)(x y z:AV):List AV:=.int .i64 e.k::(rgX e.a x++(rgX e.b y++(hc e.r++ [z])))
section
variable (e:Rev) (x y z:AV)
theorem zs8:(rvX e x y z).length=108:=by simp [rvX,z24,z7]
theorem zj3:(rvX e x y z).drop 1=rgX e.a x++(rgX e.b y++(hc e.r++ [z])):=rfl
theorem zj4:(rvX e x y z).drop 38=rgX e.b y++(hc e.r++ [z]):=by
 rw [show 38=1+37 from rfl,<-List.drop_drop,zj3,List.drop_left' (z24 e.a x)]
theorem zj5:(rvX e x y z).drop 75=hc e.r++ [z]:=by
 rw [show 75=38+37 from rfl,<-List.drop_drop,zj4,List.drop_left' (z24 e.b y)]
theorem zs7:(rvX e x y z).drop 107=[z]:=by
 rw [show 107=75+32 from rfl,<-List.drop_drop,zj5,z79]
@[go_sem] theorem rvX_0:(rvX e x y z)[0]? =some (.int .i64 e.k):=rfl
@[go_sem] theorem rvX_107:(rvX e x y z)[107]? =some z:=z67 (zs7 e x y z)
@[go_sem] theorem rvX_a:((rvX e x y z).drop 1).take 37=rgX e.a x:=by rw [zj3,List.take_left' (z24 e.a x)]
@[go_sem] theorem rvX_b:((rvX e x y z).drop 38).take 37=rgX e.b y:=by rw [zj4,List.take_left' (z24 e.b y)]
@[go_sem] theorem rvX_r:((rvX e x y z).drop 75).take 32=hc e.r:=by rw [zj5,z7a]
@[go_sem] theorem rvX_all:(rvX e x y z).take 108=rvX e x y z:=List.take_of_length_le (by rw [zs8];omega)
end
def sgnR(h:Rgh):Hdr:=⟨h.n,h.r,h.i,sigS h.s (16384+h.m).toNat,h.p⟩
def mOk(h:Rgh):Prop:= -128<=h.m/\ h.m<=127
attribute [local irreducible] ACallsTo ACallsP
end
section
theorem zaa{L:List Hash}{w:HV}:∀(P:List HV) (o:Option HV),P.foldl (z29 L) o=some w->o=some w \/(w ∈ P/\ valH w.1=true/\ w.1.n<=L.length)
 | [],o,h=> .inl h
 |p::P,o,h=>by
  rcases zaa P (z29 L o p) h with h1| ⟨h1,h2⟩
  ·unfold z29 at h1
   split at h1
   ·rename_i hb
    simp only [Option.some.injEq]at h1
    subst h1
    unfold z4i at hb
    simp only [Bool.and_eq_true,decide_eq_true_eq]at hb
    exact .inr ⟨List.mem_cons_self,hb.1.1.1,hb.1.1.2⟩
   ·exact .inl h1
  ·exact .inr ⟨List.mem_cons_of_mem _ h1,h2⟩
theorem zcr{a b:HV}:∀(P:List HV),z1p P=some (a,b)->a ∈ P/\ b ∈ P/\ valH a.1=true/\ valH b.1=true
 |p::P,h=>by
  unfold z1p at h
  cases hf:P.find? (z25 p)with
  |some q=>
   rw [hf]at h
   simp only [Option.some.injEq,Prod.mk.injEq]at h
   obtain⟨rfl,rfl⟩:=h
   have h1:=List.find?_some hf
   have h2:=List.mem_of_find?_eq_some hf
   unfold z25 at h1
   simp only [Bool.and_eq_true,decide_eq_true_eq]at h1
   exact⟨List.mem_cons_self,List.mem_cons_of_mem _ h2,h1.1⟩
  |none=>
   rw [hf]at h
   obtain⟨h1,h2,h3⟩:=zcr P h
   exact⟨List.mem_cons_of_mem _ h1,List.mem_cons_of_mem _ h2,h3⟩
attribute [local irreducible] ACallsTo ACallsP
theorem z34{h:Hdr}(hv:valH h=true):h.p ≠ []/\ h.p.length<1000000:=by
 have:=(z7l hv).2.2
 exact⟨fun e=>by rw [e]at this;simp at this,by omega⟩
theorem zbv(O:Store)(P:List HV)(v w:AV)(L:List Hash)(hv:SlV 36 (hrw P) v)(hP:HOk P)(hl:P.length<1000000)(hw':SlV 32 (hr L) w)(hL:L.length<1000000):
  ACallsTo TC 22 [v,w] O (z7v (z2n L P)) O:=by
 have hFk:=fun O=>znv O P v hv hP hl
 have hAn:=fun O=>zlj O P v w L hv hP hl hw' hL
 have hzl:sgZ.length=36:=zg zHd .nilsl
 have hzd:sgZ.drop 36=[]:=z8a zHd .nilsl
 have hO6:evO.drop 106=[]:=z2y _ _ _ _
 have hel:=fun e x y z=>zh e x y z
 have hed:=fun e x y z=>z2y e x y z
 have hrv:∀(k:Nat) (l:List Hash),RL k (zx 32 (hr l)):=fun k l=>zds (z2t _)
 refine ACallsTo.of_body q1uok (by simp) fun hw _=> ?_
 unfold z2n
 cases hf:z1p P with
 |some pq=>
  obtain⟨p,q⟩:=pq
  rw [hf]at hFk
  unfold zcq at hFk
  obtain⟨mp,mq,vp,vq⟩:=zcr P hf
  have hOw:=fun O=>zhx O ⟨1,p.1,q.1,zeroH,[]⟩ p.2 q.2 .nilsl (hP p mp) (hP q mq) (by simp [RL]) (z34 vp).1 (z34 vq).1 (z34 vp).2 (z34 vq).2
  have e:z7v (some (⟨1,p.1,q.1,zeroH,[]⟩,p.2,q.2))=.tup [.agg (evX ⟨1,p.1,q.1,zeroH,[]⟩ (zx 32 (hr p.1.p)) (zx 32 (hr q.1.p)) .nilsl),.bool true]:=rfl
  simp only
  rw [e]
  repeat' (first|apply zs_|apply zb_|apply zc_|apply zt_ rfl|apply zf_ rfl|(apply zd_ rfl<;>intro ht<;>try omega)|((first|apply zr_|apply zk_|apply ze_|apply zq_|(apply callW.mk_pu;(first|exact(fun _=>hFk _)|exact(fun _=>hOw _)))|(apply callW.za;(first|exact(hFk _)|exact(hOw _)))|(apply zG<;>intro ht));all_goals try simp (disch:=first|omega|(simp only [lens,z7,z6,lQr,lQm,lQt,lQd,z8,zg,zh,zi,zl];first|done|omega)) only [go_sem,zi,hO6,hel,hed,List.append_nil]))
  exact DownV.pure hw (rlE' _ (hrv _ _) (hrv _ _) (by simp [RL]) (by simp [RL]))
 |none=>
  rw [hf]at hFk
  unfold zcq at hFk
  simp only
  have ev0:z7v none=.tup [.agg evO,.bool false]:=rfl
  have rO:∀k,RL k (.tup [.agg evO,.bool false]):=fun k=>rlE' evZ0 (by simp [RL]) (by simp [RL]) (by simp [RL]) (by simp [RL])
  cases ha:z4j L P with
  |none=>
   rw [ha]at hAn
   have e1:za9 none=.tup [.agg sgZ,.bool false]:=rfl
   rw [e1]at hAn
   simp only
   rw [ev0]
   repeat' (first|apply zs_|apply zb_|apply zc_|apply zt_ rfl|apply zf_ rfl|(apply zd_ rfl<;>intro ht<;>try omega)|((first|apply zr_|apply zk_|apply ze_|apply zq_|(apply callW.mk_pu;(first|exact(fun _=>hFk _)|exact(fun _=>hAn _)))|(apply callW.za;(first|exact(hFk _)|exact(hAn _)))|(apply zG<;>intro ht));all_goals try simp (disch:=first|omega|(simp only [lens,z7,z6,lQr,lQm,lQt,lQd,z8,zg,zh,zi,zl];first|done|omega)) only [go_sem,zi,hO6,hzl,hzd,List.append_nil]))
   exact DownV.pure hw (rO _)
  |some g=>
   rw [ha]at hAn
   have e1:za9 (some g)=.tup [.agg (sgX g.1 g.2),.bool true]:=rfl
   rw [e1]at hAn
   simp only
   obtain⟨mg,vg,ng⟩:g ∈ P/\ valH g.1=true/\ g.1.n<=L.length:=by
    rcases zaa P none ha with h|h
    ·cases h
    ·exact h
   have hg:=hP g mg
   have r1:=hv.len
   rw [zl]at r1
   unfold z1d at r1
   have hgl:=zg g.1 g.2
   repeat' (first|apply zs_|apply zb_|apply zc_|apply zt_ rfl|apply zf_ rfl|(apply zd_ rfl<;>intro ht<;>try omega)|((first|apply zr_|apply zk_|apply ze_|apply zq_|(apply callW.mk_pu;(first|exact(fun _=>hFk _)|exact(fun _=>hAn _)))|(apply callW.za;(first|exact(hFk _)|exact(hAn _)))|(apply zG<;>intro ht));all_goals try simp (disch:=first|omega|(simp only [lens,z7,z6,lQr,lQm,lQt,lQd,z8,zg,zh,zi,zl];first|done|omega)) only [go_sem,zi,hO6,hzl,hzd,hgl,r1,List.append_nil]))
   refine zW.loop (fun m J O'=>∃(i:Nat) (y:Store),m+i=P.length/\ O'=O++(some [evO]::some [evO]::some [sgX g.1 g.2]::y)/\ P.find? (splB L g)=(P.drop i).find? (splB L g)/\ J 1=w/\ J 4=.ptr O.length 0 0/\ J 8=.ptr (O.length+2) 0 0/\ J 32=v/\ J 33=.int .i64 P.length/\ J 34=.int .i64 i) P.length ?_ ?_
   ·exact⟨0,[],by omega,rfl,rfl,by simp (disch:=first|omega|(simp only [lens,z7,z6,lQr,lQm,lQt,lQd,z8,zg,zh,zi,zl];first|done|omega)) only [go_sem],by simp (disch:=first|omega|(simp only [lens,z7,z6,lQr,lQm,lQt,lQd,z8,zg,zh,zi,zl];first|done|omega)) only [go_sem],by simp (disch:=first|omega|(simp only [lens,z7,z6,lQr,lQm,lQt,lQd,z8,zg,zh,zi,zl];first|done|omega)) only [go_sem],by simp (disch:=first|omega|(simp only [lens,z7,z6,lQr,lQm,lQt,lQd,z8,zg,zh,zi,zl];first|done|omega)) only [go_sem],by simp (disch:=first|omega|(simp only [lens,z7,z6,lQr,lQm,lQt,lQd,z8,zg,zh,zi,zl];first|done|omega)) only [go_sem],by simp (disch:=first|omega|(simp only [lens,z7,z6,lQr,lQm,lQt,lQd,z8,zg,zh,zi,zl];first|done|omega)) only [go_sem];rfl⟩
   ·rintro m J O' ⟨i,y,hm,rfl,hF,q1,q4,q8,q32,q33,q34⟩
    by_cases hi:i<P.length
    ·have hi':(i:Int)<P.length:=by omega
     obtain⟨ex,rfl⟩:=hv.vsl (by rw [zl];omega)
     have hgi:=z3p hi
     have hp:=hP.at hi
     have hfd:=zao (f:=splB L g) hi
     rw [hfd]at hF
     have hpl:=zl P
     generalize P[i]=p at*
     have hsl:=zg p.1 p.2
     have hV:=fun O=>z6w O p.1.n p.1.i p.1.r p.1.s p.1.p p.2 (.of hp)
     have hval:valH p.1=z28 p.1.n p.1.i p.1.s p.1.p:=rfl
     have hvn:= @z7l p.1
     have hvp:= @z34 p.1
     rw [show splB L g p=(valH p.1 && decide (p.1.n<g.1.n) && decide (z19 (L.take p.1.n.toNat) ≠ p.1.r))from rfl,hval]at hF
     rw [hval]at hvn hvp
     generalize z28 p.1.n p.1.i p.1.s p.1.p=vb at*
     cases vb with
     |false=>
      rw [if_neg (by simp)]at hF
      repeat' (first|apply zs_|apply zb_|apply zc_|apply zt_ rfl|apply zf_ rfl|(apply zd_ rfl<;>intro ht<;>try omega)|((first|apply zr_|apply zk_|apply ze_|apply zq_|(apply callW.mk_pu;(first|exact(fun _=>hV _)))|(apply callW.za;(first|exact(hV _)))|(apply zG<;>intro ht));all_goals try simp (disch:=first|omega|(simp only [lens,z7,z6,lQr,lQm,lQt,lQd,z8,zg,zh,zi,zl];first|done|omega)) only [go_sem,q1,q4,q8,q32,q33,q34,hi',hgi,hpl,hsl,hgl,hzl,hzd,List.append_nil]))
      exact⟨m-1,by omega,i+1,_,by omega,rfl,hF,by simp⟩
     |true=>
     by_cases c2:p.1.n<g.1.n
     ·have c2':¬p.1.n>=g.1.n:=by omega
      obtain⟨n0,n1,_⟩:=hvn rfl
      obtain⟨g0,g1,_⟩:=z7l vg
      have hLn:(hr L).length=L.length:=z6 L
      obtain⟨b,rfl⟩:=hw'.vsl (by rw [z6];omega)
      have fk:=z78 L p.1.n.toNat
      have fk2:=z78 L g.1.n.toNat
      have hR:=fun O b=>z9k O (L.take p.1.n.toNat) (.vsl 32 (hr (L.take p.1.n.toNat)) b) (.of (.inr ⟨b,rfl⟩)) (by rw [List.length_take];omega)
      have hPr:=fun O b=>zl3 O (L.take g.1.n.toNat) (.vsl 32 (hr (L.take g.1.n.toNat)) b) p.1.n (.inr ⟨b,rfl⟩) (by rw [List.length_take];omega)
      generalize hRR:z19 (L.take p.1.n.toNat)=R at*
      by_cases c3:R=p.1.r
      ·have hb:(true && decide (p.1.n<g.1.n) && decide (R ≠ p.1.r))=false:=by simp [c3]
       rw [hb,if_neg (by simp)]at hF
       repeat' (first|apply zs_|apply zb_|apply zc_|apply zt_ rfl|apply zf_ rfl|(apply zd_ rfl<;>intro ht<;>try omega)|((first|apply zr_|apply zk_|apply ze_|apply zq_|(apply callW.mk_pu;(first|exact(fun _=>hV _)|exact(fun _=>hR _ _)))|(apply callW.za;(first|exact(hV _)|exact(hR _ _)))|(apply zG<;>intro ht));all_goals try simp (disch:=first|omega|(simp only [lens,z7,z6,lQr,lQm,lQt,lQd,z8,zg,zh,zi,zl];first|done|omega)) only [go_sem,q1,q4,q8,q32,q33,q34,hi',hgi,hpl,hsl,hgl,hzl,hzd,List.append_nil,c2',c3,hLn,fk]))
       exact⟨m-1,by omega,i+1,_,by omega,rfl,hF,by simp⟩
      ·have hb:(true && decide (p.1.n<g.1.n) && decide (R ≠ p.1.r))=true:=by simp [c2,c3]
       rw [hb,if_pos rfl]at hF
       rw [hF]
       simp only [hRR]
       have e:z7v (some (⟨2,p.1,g.1,R,z3e (L.take g.1.n.toNat) p.1.n⟩,p.2,g.2))=.tup [.agg (evX ⟨2,p.1,g.1,R,z3e (L.take g.1.n.toNat) p.1.n⟩ (zx 32 (hr p.1.p)) (zx 32 (hr g.1.p)) (zx 32 (hr (z3e (L.take g.1.n.toNat) p.1.n)))),.bool true]:=rfl
       rw [e]
       generalize z3e (L.take g.1.n.toNat) p.1.n=pf at*
       have hOw:=fun O=>zhx O ⟨2,p.1,g.1,R,pf⟩ p.2 g.2 (zx 32 (hr pf)) hp hg (hrv _ _) (hvp rfl).1 (z34 vg).1 (hvp rfl).2 (z34 vg).2
       have hfz:∀(e:Ev) (x y v:AV),z17 (evX e x y v) [(105,1,zx 32 (hr pf))]=some (evX e x y (zx 32 (hr pf))):=by
        intro e x y v
        have h1:=zjs (sz:=32) (es:=hr pf)
        have h2:=zgj e x y v (zx 32 (hr pf))
        rw [z2y]at h2
        simp only [z17,h1,Option.bind_some,zh,z1b,List.length_cons,List.length_nil]
        rw [if_pos ⟨trivial,by omega⟩,z2y,List.append_nil,h2]
       have hrz:=hrv O.length pf
       have hO:evO=evX ⟨0,zHd,zHd,zeroH,[]⟩ .nilsl .nilsl .nilsl:=rfl
       generalize zx 32 (hr pf)=Z at*
       repeat' (first|apply zs_|apply zb_|apply zc_|apply zt_ rfl|apply zf_ rfl|(apply zd_ rfl<;>intro ht<;>try omega)|((first|apply zr_|apply zk_|apply ze_|apply zq_|(apply callW.mk_pu;(first|exact(fun _=>hV _)|exact(fun _=>hR _ _)|exact(fun _=>hPr _ _)|exact(fun _=>hOw _)))|(apply callW.za;(first|exact(hV _)|exact(hR _ _)|exact(hPr _ _)|exact(hOw _)))|(apply zG<;>intro ht));all_goals try simp (disch:=first|omega|(simp only [lens,z7,z6,lQr,lQm,lQt,lQd,z8,zg,zh,zi,zl];first|done|omega)) only [go_sem,q1,q4,q8,q32,q33,q34,hi',hgi,hpl,hsl,hgl,hzl,hzd,List.append_nil,c2',c3,hLn,fk,fk2,hfz,hO,hel,hed]))
       exact DownV.pure hw (rlE' _ (hrv _ _) (hrv _ _) hrz (by simp [RL]))
     ·have c2':p.1.n>=g.1.n:=by omega
      have hb:(true && decide (p.1.n<g.1.n) && decide (z19 (L.take p.1.n.toNat) ≠ p.1.r))=false:=by simp [c2]
      rw [hb,if_neg (by simp)]at hF
      repeat' (first|apply zs_|apply zb_|apply zc_|apply zt_ rfl|apply zf_ rfl|(apply zd_ rfl<;>intro ht<;>try omega)|((first|apply zr_|apply zk_|apply ze_|apply zq_|(apply callW.mk_pu;(first|exact(fun _=>hV _)))|(apply callW.za;(first|exact(hV _)))|(apply zG<;>intro ht));all_goals try simp (disch:=first|omega|(simp only [lens,z7,z6,lQr,lQm,lQt,lQd,z8,zg,zh,zi,zl];first|done|omega)) only [go_sem,q1,q4,q8,q32,q33,q34,hi',hgi,hpl,hsl,hgl,hzl,hzd,List.append_nil,c2']))
      exact⟨m-1,by omega,i+1,_,by omega,rfl,hF,by simp⟩
    ·obtain rfl:i=P.length:=by omega
     rw [List.drop_length]at hF
     rw [hF]
     simp only [List.find?_nil]
     rw [ev0]
     have hO:evO=evX ⟨0,zHd,zHd,zeroH,[]⟩ .nilsl .nilsl .nilsl:=rfl
     repeat' (first|apply zs_|apply zb_|apply zc_|apply zt_ rfl|apply zf_ rfl|(apply zd_ rfl<;>intro ht<;>try omega)|((first|apply zr_|apply zk_|apply ze_|apply zq_|(apply zG<;>intro ht));all_goals try simp (disch:=first|omega|(simp only [lens,z7,z6,lQr,lQm,lQt,lQd,z8,zg,zh,zi,zl];first|done|omega)) only [go_sem,q1,q4,q8,q32,q33,q34,zi,hO6,List.append_nil]))
     exact DownV.pure hw (rO _)
end
section
theorem ac_ne:z1k (shaS [0,97]) (shaS [0,98]) ≠ z1k (shaS [0,97]) (shaS [0,99]):=by decide+kernel
def lgC:List (List UInt8):=[[97],[99]]
def hdP:Hdr:=mkH logS 0 lgA
def hdQ:Hdr:=mkH logS 0 lgC
theorem zhd:logS.length<1000000:=by simp [logS]
theorem zhk(seed:List UInt8)(i:Nat)(M:List (List UInt8))(hi:i<8)(hM:M.length<=4096):valH (mkH seed i M)=true:=
 decide_eq_true ⟨by simp only [mkH];omega,by simp only [mkH];omega,by simp only [mkH];omega,by simp only [mkH];omega,zau _ _ _,zdg _ _⟩
theorem z95:valH hdP=true:=zhk logS 0 lgA (by omega) (by simp [lgA])
theorem zaq:valH hdQ=true:=zhk logS 0 lgC (by omega) (by simp [lgC])
theorem hdPQ:hdP.r ≠ hdQ.r:=by
 show z19 [lfH [97],lfH [98]] ≠ z19 [lfH [97],lfH [99]]
 rw [zbb,zbb]
 intro h
 have h2:=congrArg Subtype.val h
 simp only [z16,lfH,shaH]at h2
 exact ac_ne h2
theorem zoc:z25 (hdP,zx 32 (hr hdP.p)) (hdQ,zx 32 (hr hdQ.p))=true:=by
 unfold z25
 rw [z95,zaq]
 simp only [Bool.true_and,decide_eq_true_eq]
 exact(ord3 _ _ _ _).2 ⟨rfl,hdPQ⟩
def evPQ:Ev:=⟨1,hdP,hdQ,zeroH,[]⟩
theorem zgg:mayB evPQ=true:=by
 unfold mayB zat
 rw [show valH evPQ.a=true from z95,show valH evPQ.b=true from zaq,if_pos (show evPQ.k=1 from rfl),decide_eq_true (show evPQ.a.n=evPQ.b.n/\ evPQ.a.r ≠ evPQ.b.r/\ evPQ.r=zeroH/\ evPQ.p=[]from⟨rfl,hdPQ,rfl,rfl⟩)]
 rfl
theorem zu3(seed:List UInt8)(dg x:Hash)(hx:z19 (keyL seed) ≠ x):verI x dg (0:Nat) (ksgS seed (0:Nat) dg.1) (z1o (keyL seed) 0) ≠ 0:=by
 have hc:chkP (hd (keyL seed) 0) (0:Nat) 8 (z1o (keyL seed) 0) x ≠ 0:=by
  obtain⟨a,b,c,d,e,f,g,h,hK⟩:=len8 (z3c seed)
  rw [hK]at hx ⊢
  rw [zdw]at hx
  obtain⟨p0,_⟩:=zia a b c d e f g h
  rw [p0,z4n 0 (by omega),if_neg]
  ·decide
  ·exact fun e=>hx (by rw [<-e];simp [z2l,hd])
 unfold verI
 rw [if_neg (by omega),if_pos (zau _ _ _),zii,<-zh6 seed 0 (by omega),if_neg hc]
 decide
theorem zmh:z4r (z19 (keyL logS)) evPQ=0:=by
 unfold z4r
 rw [zgg,if_neg (by simp),if_neg,if_neg]
 ·exact fun h=>absurd h.1 (by decide)
 ·rintro(h|h)
  ·exact h (zhj logS 0 lgA (by omega) (by simp [lgA]))
  ·exact h (zhj logS 0 lgC (by omega) (by simp [lgC]))
theorem zmg:z4r oneH evPQ=81:=by
 unfold z4r
 rw [zgg,if_neg (by simp),if_pos]
 refine .inl fun h=> ?_
 unfold z48 at h
 rw [show z28 evPQ.a.n evPQ.a.i evPQ.a.s evPQ.a.p=true from z95,if_neg (by simp),if_neg]at h
 ·exact absurd h (by decide)
 ·exact zu3 logS _ oneH (root_g oneH rfl)
theorem chkO(k:Hash):z4r k evZ0=2:=by
 unfold z4r
 rw [show mayB evZ0=false from rfl,if_pos rfl]
theorem zh8:z19 (keyL logS)=kyA:=rfl
theorem zod:mkH logS 0 (lgA.take 2)=hdP:=rfl
theorem zoe:mkH logS 0 (lgC.take 2)=hdQ:=rfl
attribute [local irreducible] ACallsTo ACallsP kyA hdP hdQ logS
theorem zo8:hc oneH=[.int .u8 1,.int .u8 0,.int .u8 0,.int .u8 0,.int .u8 0,.int .u8 0,.int .u8 0,.int .u8 0,.int .u8 0,.int .u8 0,.int .u8 0,.int .u8 0,.int .u8 0,.int .u8 0,.int .u8 0,.int .u8 0,.int .u8 0,.int .u8 0,.int .u8 0,.int .u8 0,.int .u8 0,.int .u8 0,.int .u8 0,.int .u8 0,.int .u8 0,.int .u8 0,.int .u8 0,.int .u8 0,.int .u8 0,.int .u8 0,.int .u8 0,.int .u8 0]:=rfl
theorem zsr(hw:Wf ([]:Store).length [])(τ:Store)(A B:Hdr)(ky:Hash)(e:Ev)(x y:AV)(J:Env)(q2:J 2=.bool false)(q3:J 3=.ptr 3 0 0)(q4:J 4=.ptr 4 0 0)(dτ:τ.length=5)(hk:e.k=1)
  (h3:τ[3]? =some (some [[AV.ptr 2 0 0,AV.vsl 1 [[AV.str [97]],[AV.str [98]]] true]])) (h4:τ[4]? =some (some [[AV.ptr 2 0 0,AV.vsl 1 [[AV.str [97]],[AV.str [99]]] true]]))
  (hH1:∀y,ACallsTo TC 15 [.agg [.ptr 2 0 0,.vsl 1 [[.str [97]],[.str [98]]] true],.int .i64 2,.int .i64 0] (τ++y) (.agg (hdrC A)) (τ++y))
  (hH2:∀y,ACallsTo TC 15 [.agg [.ptr 2 0 0,.vsl 1 [[.str [97]],[.str [99]]] true],.int .i64 2,.int .i64 0] (τ++y) (.agg (hdrC B)) (τ++y))
  (hRt:∀y,ACallsTo TC 18 [.ptr 2 0 0] (τ++y) (.agg (hc ky)) (τ++y))
  (hF:∀O b,ACallsTo TC 22 [.vsl 36 [hdrC A,hdrC B] b,.nilsl] O (.tup [.agg (evX e x y .nilsl),.bool true]) O)
  (hC1:∀O,ACallsTo TC 17 [.agg (hc ky),.agg (evX e x y .nilsl)] O (.int .i64 0) O)
  (hC2:∀O,ACallsTo TC 17 [.agg (hc oneH),.agg (evX e x y .nilsl)] O (.int .i64 81) O)
  (hC3:∀O,ACallsTo TC 17 [.agg (hc ky),.agg evO] O (.int .i64 2) O):
  zW TC 58 0 zdj (endQ 0 [.t 0] (.bool true) []) J τ:=by
 have hH1':=hH1 []
 have hH2':=hH2 []
 rw [List.append_nil]at hH1' hH2'
 have la:=z38 A
 have lb:=z38 B
 have hel:=zh e x y .nilsl
 have hO6:evO.drop 106=[]:=z2y _ _ _ _
 have hRt0:=hRt []
 rw [List.append_nil]at hRt0
 repeat' (first|apply zs_|apply zb_|apply zc_|apply zt_ rfl|apply zf_ rfl|(apply zd_ rfl<;>intro ht<;>try omega)|((first|apply zr_|apply zk_|apply ze_|apply zq_|(apply zG<;>intro ht));all_goals try simp (disch:=first|omega|(simp only [lens,z7,z6,lQr,lQm,lQt,lQd,z8,zg,zh,zi,zl,z21];first|done|omega)) only [go_sem,h3,h4,q2,q3,q4]))
 refine callW.mk_pu2 (caps:=[]) hH1' (fun h hh=>hh.elim) ?_
 simp (disch:=first|omega|(simp only [lens,z7,z6,lQr,lQm,lQt,lQd,z8,zg,zh,zi,zl,z21];first|done|omega)) only [go_sem,h4,q4]
 refine callW.mk_pu2 (caps:=[]) hH2' (fun h hh=>hh.elim) ?_
 simp (disch:=first|omega|(simp only [lens,z7,z6,lQr,lQm,lQt,lQd,z8,zg,zh,zi,zl,z21];first|done|omega)) only [go_sem,h3,h4,q3,q4,hH1,hH2,la,lb]
 refine callW.mk_pu (caps:=[]) (fun O=>hF O _) ?_
 simp (disch:=first|omega|(simp only [lens,z7,z6,lQr,lQm,lQt,lQd,z8,zg,zh,zi,zl,z21];first|done|omega)) only [go_sem,h3,h4,q2,q3,q4,hH1,hH2,la,lb,hel,hO6,zi,List.append_nil]
 repeat' (first|apply zs_|apply zb_|apply zc_|apply zt_ rfl|apply zf_ rfl|(apply zd_ rfl<;>intro ht<;>try omega)|((first|apply zr_|apply zk_|apply ze_|apply zq_|(apply callW.mk_pu;(first|exact(fun _=>hRt _)|exact(fun _=>hC1 _)|exact(fun _=>hC2 _)|exact(fun _=>hC3 _)))|(apply callW.za;(first|exact(hRt _)|exact(hC1 _)|exact(hC2 _)|exact(hC3 _)))|(apply zG<;>intro ht));all_goals try simp (disch:=first|omega|(simp only [lens,z7,z6,lQr,lQm,lQt,lQd,z8,zg,zh,zi,zl,z21];first|done|omega)) only [go_sem,h3,h4,q2,q3,q4,hel,hk,zi,hO6,List.append_nil,<-zo8]))
 exact DownV.pure (τ:=[]) hw z1e
theorem P_head(τ:Store)(ht:τ[2]? =some (some [z1l true logS (keyL logS)]))(dτ:τ.length=5):∀y,ACallsTo TC 15 [.agg [.ptr 2 0 0,.vsl 1 [[.str [97]],[.str [98]]] true],.int .i64 2,.int .i64 0] (τ++y) (.agg (hdrC hdP)) (τ++y):=fun y=>by
 have hLs:∀s ∈ lgA,s.length<1000000:=by intro s hs;simp [lgA]at hs;rcases hs with rfl|rfl<;>simp
 have h:=zew (τ++y) 2 logS lgA true 2 0 0 rfl (by omega) (by simp [lgA]) (by rw [gapp (by omega)];exact ht) zhd hLs (by simp [lgA])
 rw [zod]at h
 exact h
theorem Q_head(τ:Store)(ht:τ[2]? =some (some [z1l true logS (keyL logS)]))(dτ:τ.length=5):∀y,ACallsTo TC 15 [.agg [.ptr 2 0 0,.vsl 1 [[.str [97]],[.str [99]]] true],.int .i64 2,.int .i64 0] (τ++y) (.agg (hdrC hdQ)) (τ++y):=fun y=>by
 have hLc:∀s ∈ lgC,s.length<1000000:=by intro s hs;simp [lgC]at hs;rcases hs with rfl|rfl<;>simp
 have h:=zew (τ++y) 2 logS lgC true 2 0 0 rfl (by omega) (by simp [lgC]) (by rw [gapp (by omega)];exact ht) zhd hLc (by simp [lgC])
 rw [zoe]at h
 exact h
theorem zkz(A B:Hdr)(hf:z25 (A,zx 32 (hr A.p)) (B,zx 32 (hr B.p))=true)(O:Store)(b:Bool):
  ACallsTo TC 22 [.vsl 36 [hdrC A,hdrC B] b,.nilsl] O (.tup [.agg (evX ⟨1,A,B,zeroH,[]⟩ (zx 32 (hr A.p)) (zx 32 (hr B.p)) .nilsl),.bool true]) O:=by
 have hOk:HOk [(A,zx 32 (hr A.p)),(B,zx 32 (hr B.p))]:=by
  intro p hp
  simp only [List.mem_cons,List.not_mem_nil,or_false]at hp
  rcases hp with rfl|rfl
  ·exact z3x _ _
  ·exact z3x _ _
 have hF2:=zbv O [(A,zx 32 (hr A.p)),(B,zx 32 (hr B.p))] (.vsl 36 [hdrC A,hdrC B] b) .nilsl [] (.inr ⟨b,rfl⟩) hOk (by simp) (.inl ⟨rfl,rfl⟩) (by simp)
 have hfp:z2n [] [(A,zx 32 (hr A.p)),(B,zx 32 (hr B.p))]=some (⟨1,A,B,zeroH,[]⟩,zx 32 (hr A.p),zx 32 (hr B.p)):=by
  unfold z2n z1p
  rw [List.find?_cons,hf]
 rw [hfp]at hF2
 exact hF2
theorem zes(A B:Hdr)(key:Hash)(i:Int)(hi:z4r key ⟨1,A,B,zeroH,[]⟩=i)(ha:A.p.length<1000000)(hb:B.p.length<1000000)(O:Store):
  ACallsTo TC 17 [.agg (hc key),.agg (evX ⟨1,A,B,zeroH,[]⟩ (zx 32 (hr A.p)) (zx 32 (hr B.p)) .nilsl)] O (.int .i64 i) O:=by
 rw [<-hi]
 exact zer O key ⟨1,A,B,zeroH,[]⟩ (zx 32 (hr A.p)) (zx 32 (hr B.p)) .nilsl zjt zjt (.of (.inl ⟨rfl,rfl⟩)) ⟨ha,hb,Nat.zero_lt_succ _⟩
theorem zkx(key:Hash)(O:Store):ACallsTo TC 17 [.agg (hc key),.agg evO] O (.int .i64 2) O:=by
 have h:=zer O key evZ0 .nilsl .nilsl .nilsl (.of (.inl ⟨rfl,rfl⟩)) (.of (.inl ⟨rfl,rfl⟩)) (.of (.inl ⟨rfl,rfl⟩)) ⟨Nat.zero_lt_succ _,Nat.zero_lt_succ _,Nat.zero_lt_succ _⟩
 rw [chkO]at h
 exact h
theorem E_own(O:Store):ACallsTo TC 17 [.agg (hc kyA),.agg (evX ⟨1,hdP,hdQ,zeroH,[]⟩ (zx 32 (hr hdP.p)) (zx 32 (hr hdQ.p)) .nilsl)] O (.int .i64 0) O:=
 zes hdP hdQ kyA 0 (by rw [<-zh8];exact zmh) (z34 z95).2 (z34 zaq).2 O
theorem E_one(O:Store):ACallsTo TC 17 [.agg (hc oneH),.agg (evX ⟨1,hdP,hdQ,zeroH,[]⟩ (zx 32 (hr hdP.p)) (zx 32 (hr hdQ.p)) .nilsl)] O (.int .i64 81) O:=
 zes hdP hdQ oneH 81 zmg (z34 z95).2 (z34 zaq).2 O
attribute [local irreducible] zdj
theorem zsp:ACallsTo TC 11 [] [] (.bool true) []:=by
 have hMd:=fun O=>zkw O [] (strs lgA) true
 rw [show strs lgA=[[.str [97]],[.str [98]]]from rfl]at hMd
 have hF0:=fun O=>zbv O [] .nilsl .nilsl [] (.inl ⟨rfl,rfl⟩) (fun _ h=>by cases h) (by simp) (.inl ⟨rfl,rfl⟩) (by simp)
 rw [show z7v (z2n [] [])=.tup [.agg evO,.bool false]from rfl]at hF0
 have hO6:evO.drop 106=[]:=z2y _ _ _ _
 refine ACallsTo.of_body q1sok (by simp) fun hw _=> ?_
 repeat' (first|apply zs_|apply zb_|apply zc_|apply zt_ rfl|apply zf_ rfl|(apply zd_ rfl<;>intro ht<;>try omega)|((first|apply zr_|apply zk_|apply ze_|apply zq_|(apply callW.mk_pu;(first|exact(fun _=>hMd _)|exact(fun _=>hF0 _)))|(apply callW.za;(first|exact(hMd _)|exact(hF0 _)))|(apply zG<;>intro ht));all_goals try simp (disch:=first|omega|(simp only [lens,z7,z6,lQr,lQm,lQt,lQd,z8,zg,zh,zi,zl,z21];first|done|omega)) only [go_sem,zi,hO6,List.append_nil]))
 generalize hτ:([some [evO],some [[AV.ptr 2 0 0,_]],some [z1l true logS (keyL logS)],some [_],some [_]]:Store)=τ
 have ht:τ[2]? =some (some [z1l true logS (keyL logS)]):=by rw [<-hτ];rfl
 have h3:τ[3]? =some (some [[AV.ptr 2 0 0,AV.vsl 1 [[AV.str [97]],[AV.str [98]]] true]]):=by rw [<-hτ];rfl
 have h4:τ[4]? =some (some [[AV.ptr 2 0 0,AV.vsl 1 [[AV.str [97]],[AV.str [99]]] true]]):=by rw [<-hτ];rfl
 have dτ:τ.length=5:=by rw [<-hτ];rfl
 clear hτ
 have hRt:=fun y=>ztt (τ++y) 2 logS (keyL logS) (by rw [gapp (by omega)];exact ht) (z3c _)
 rw [zh8]at hRt
 exact zsr hw τ hdP hdQ kyA ⟨1,hdP,hdQ,zeroH,[]⟩ _ _ _ (by simp (disch:=first|omega|(simp only [lens,z7,z6,lQr,lQm,lQt,lQd,z8,zg,zh,zi,zl,z21];first|done|omega)) only [go_sem]) (by simp (disch:=first|omega|(simp only [lens,z7,z6,lQr,lQm,lQt,lQd,z8,zg,zh,zi,zl,z21];first|done|omega)) only [go_sem]) (by simp (disch:=first|omega|(simp only [lens,z7,z6,lQr,lQm,lQt,lQd,z8,zg,zh,zi,zl,z21];first|done|omega)) only [go_sem]) dτ rfl h3 h4 (P_head τ ht dτ) (Q_head τ ht dτ) hRt (zkz hdP hdQ zoc) E_own E_one (zkx kyA)
theorem z6a(O:Store):ACallsTo TC 11 [] O (.bool true) O:=ACallsTo.frame glok zsp (by simp [RLs]) O
end
section
theorem zmw(e:Ev):zam e e=true:=by simp [zam,z7b]
theorem zrz{cs:List AV}(h:ShC z9f cs):∃(g:Rgh) (x:AV),cs=rgX g x/\ SlV 32 (hr g.p) x/\ mOk g/\ g.p.length<=maxLen/\ g.s.length<=maxLen/\ (-9223372036854775808<=g.n/\ g.n<=9223372036854775807)/\ (-9223372036854775808<=g.i/\ g.i<=9223372036854775807):=by
 simp only [z9f,ShC,z3o]at h
 obtain⟨A,B,rfl,hA,C,D,rfl,hC,E,F,rfl,hE,G,K,rfl,hG,M,N,rfl,hM,rfl⟩:=h
 obtain⟨A1,A2,rfl,⟨n,rfl,n1,n2⟩,A3,A4,rfl,hA3,rfl⟩:=hA
 obtain⟨r,rfl⟩:=zo4 hA3
 obtain⟨i,rfl,i1,i2⟩:=hC
 obtain⟨s,rfl,hs⟩:=hE
 obtain⟨m,rfl,m1,m2⟩:=hG
 obtain⟨l,x,rfl,h3,h4⟩:=hslC_h (by simpa only [ShC]using hM)
 simp only [IntKind.min,IntKind.max,IntKind.signed,IntKind.bits]at n1 n2 i1 i2 m1 m2
 simp at n1 n2 i1 i2 m1 m2
 exact⟨⟨n,r,i,s,m,l⟩,x,by simp [rgX,rgC],h3,⟨m1,m2⟩,h4,hs,⟨n1,n2⟩,⟨i1,i2⟩⟩
attribute [local irreducible] ACallsTo ACallsP
end
section
set_option maxRecDepth 10000
def q1zr0:yW:=[
 yI 6 (.mv (.v (.bool false)))]
def q1zr1:yW:=[
 yM 14 0,
 yI 15 (.lenSl (.t 14)),
 yJ 16 .gtr 15 .i64 6,
 yM 17 16,
 yV 18 17 false 1,
 yG 19 17 false (.lenSl (.t 18)),
 yG 20 17 false (.bin .gtr .none (.t 19) (.v (.int .i64 30))),
 yP 21 17 20]
def q1zr2:yW:=[
 yI 22 (.call (.v (.fn 11 [])) []),
 yM 6 22]
def q1zc3:yX:=yq q1zr2 .ret
def q1zc4:yX:=.cond (.t 21) q1zc3 .skip
def q1zc5:yX:=yq q1zr1 q1zc4
def q1zr6:yW:=[
 yI 7 (.mv (.v .nilsl))]
def q1zr7:yW:=[
 yK 8 .i64 0]
def q1zr8:yW:=[
 yM 23 8,
 yM 24 0,
 yI 25 (.lenSl (.t 24)),
 yB 26 .lss 23 25]
def q1zc9:yX:=.cond (.t 26) .skip (.exit 0)
def q1zc10:yX:=yq q1zr8 q1zc9
def q1zr11:yW:=[
 yM 29 0,
 yM 30 8,
 yI 31 (.iaSl 37 (.t 29) (.t 30)),
 yL 32 true 37 31,
 yC 33 20 32]
def q1zr12:yW:=[
 yI 34 (.call (.v (.fn 11 [])) []),
 yM 6 34]
def q1zc13:yX:=yq q1zr12 .ret
def q1zc14:yX:=.cond (.t 33) q1zc13 .skip
def q1zc15:yX:=yq q1zr11 q1zc14
def q1zr16:yW:=[
 yM 35 0,
 yM 36 8,
 yI 37 (.iaSl 37 (.t 35) (.t 36)),
 yL 38 true 37 37,
 yC 39 21 38,
 yI 9 (.alloc sgZ),
 yS 36 9 39]
def q1zr17:yW:=[
 yM 40 2,
 yM 41 8,
 yB 42 .shr 40 41,
 yJ 43 .and 42 .u8 1,
 yJ 44 .eql 43 .u8 1]
def q1zr18:yW:=[
 yF 45 0 9,
 yF 46 0 45,
 yL 47 false 1 46,
 yJ 48 .and 47 .i64 31,
 yM 49 1,
 yI 50 (.lenSl (.t 49)),
 yJ 51 .add 50 .i64 1,
 yB 52 .rem 48 51,
 yF 53 0 9,
 yF 54 0 53,
 yS 1 54 52]
def q1zr19:yW:=[
 yM 55 1,
 yF 56 0 9,
 yF 57 0 56,
 yL 58 false 1 57,
 yI 59 (.slice (.sl 32) (.t 55) none (some (.t 58)) none),
 yC 60 16 59,
 yF 61 0 9,
 yF 62 1 61,
 yS 32 62 60]
def q1zc20:yX:=yq q1zr18 (.reg q1zr19)
def q1zc21:yX:=.cond (.t 44) q1zc20 .skip
def q1zc22:yX:=yq q1zr17 q1zc21
def q1zr23:yW:=[
 yM 63 7,
 yL 64 true 36 9,
 yI 65 (.lit 36 [(.t 64)]),
 yI 66 (.app 36 (.t 63) (.t 65)),
 yM 7 66]
def q1zc24:yX:=.seq q1zc22 (.reg q1zr23)
def q1zc25:yX:=yq q1zr16 q1zc24
def q1zc26:yX:=.seq q1zc15 q1zc25
def q1zr27:yW:=[
 yM 27 8,
 yJ 28 .add 27 .i64 1,
 yM 8 28]
def q1zc28:yX:=.seq (.block 1 q1zc26) (.reg q1zr27)
def q1zc29:yX:=.seq q1zc10 q1zc28
def q1zc30:yX:=.loop q1zc29
def q1zc31:yX:=.block 0 q1zc30
def q1zc32:yX:=yq q1zr7 q1zc31
def q1zr33:yW:=[
 yM 68 7,
 yM 69 1,
 yD 70 22 68 69,
 yM 67 70,
 yE 71 0 67,
 yE 72 1 67,
 yI 10 (.alloc evO),
 yS 106 10 71,
 yM 11 72]
def q1zr34:yW:=[
 yM 74 7,
 yM 75 1,
 yD 76 23 74 75,
 yM 73 76,
 yE 77 0 73,
 yE 78 1 73,
 yI 12 (.alloc evO),
 yS 106 12 77,
 yM 13 78]
def q1zr35:yW:=[
 yM 79 11,
 yM 80 13,
 yI 81 (.bin .eql .bool (.t 79) (.t 80)),
 yM 82 81,
 yU 83 82 true true 106 10,
 yU 84 82 true true 106 12,
 yG 85 82 true (.call (.v (.fn 24 [])) [(.t 83),(.t 84)]),
 yQ 86 82 85,
 yM 87 86,
 yG 88 87 true (.call (.v (.fn 11 [])) []),
 yQ 89 87 88,
 yM 6 89]
def q1zc36:yX:=yq q1zr35 .ret
def q1zc37:yX:=yq q1zr34 q1zc36
def zdk:ACode:=.seq (.reg q1zr33) q1zc37
def q1zc39:yX:=.seq q1zc32 zdk
def q1zc40:yX:=yq q1zr6 q1zc39
def q1zc41:yX:=.seq q1zc5 q1zc40
def q1zc42:yX:=yq q1zr0 q1zc41
attribute [go_sem] q1zr0 q1zr1 q1zr2 q1zr6 q1zr7 q1zr8 q1zr11 q1zr12 q1zr16 q1zr17 q1zr18 q1zr19 q1zr23 q1zr27 q1zr33 q1zr34 q1zr35
theorem q1zok:cFn TC 4=some (90,[.t 6],q1zc42):=by kernel_rfl
def q20r0:yW:=[
 yI 4 (.alloc evO),
 yI 5 (.mv (.v (.bool false)))]
def q20r1:yW:=[
 yI 6 (.mv (.v .nilsl))]
def q20r2:yW:=[
 yK 7 .i64 0]
def q20r3:yW:=[
 yM 17 7,
 yM 18 0,
 yI 19 (.lenSl (.t 18)),
 yB 20 .lss 17 19]
def q20c4:yX:=.cond (.t 20) .skip (.exit 0)
def q20c5:yX:=yq q20r3 q20c4
def q20r6:yW:=[
 yM 23 0,
 yM 24 7,
 yI 25 (.iaSl 36 (.t 23) (.t 24)),
 yL 26 true 36 25,
 yC 27 61 26]
def q20r7:yW:=[
 yM 28 6,
 yM 29 0,
 yM 30 7,
 yI 31 (.iaSl 36 (.t 29) (.t 30)),
 yL 32 true 36 31,
 yI 33 (.lit 36 [(.t 32)]),
 yI 34 (.app 36 (.t 28) (.t 33)),
 yM 6 34]
def q20c8:yX:=.cond (.t 27) (.reg q20r7) .skip
def q20c9:yX:=yq q20r6 q20c8
def q20r10:yW:=[
 yM 21 7,
 yJ 22 .add 21 .i64 1,
 yM 7 22]
def q20c11:yX:=.seq (.block 1 q20c9) (.reg q20r10)
def q20c12:yX:=.seq q20c5 q20c11
def q20c13:yX:=.loop q20c12
def q20c14:yX:=.block 0 q20c13
def q20c15:yX:=yq q20r2 q20c14
def q20r16:yW:=[
 yK 8 .i64 0]
def q20r17:yW:=[
 yM 35 8,
 yM 36 6,
 yI 37 (.lenSl (.t 36)),
 yB 38 .lss 35 37]
def q20c18:yX:=.cond (.t 38) .skip (.exit 2)
def q20c19:yX:=yq q20r17 q20c18
def q20r20:yW:=[
 yM 41 8,
 yJ 42 .add 41 .i64 1,
 yM 9 42]
def q20r21:yW:=[
 yM 43 9,
 yM 44 6,
 yI 45 (.lenSl (.t 44)),
 yB 46 .lss 43 45]
def q20c22:yX:=.cond (.t 46) .skip (.exit 4)
def q20c23:yX:=yq q20r21 q20c22
def q20r24:yW:=[
 yM 49 6,
 yM 50 8,
 yI 51 (.iaSl 36 (.t 49) (.t 50)),
 yF 52 0 51,
 ⟨some 53,none,.rd,.load true 33 (.t 52)⟩,
 yM 54 6,
 yM 55 9,
 yI 56 (.iaSl 36 (.t 54) (.t 55)),
 yF 57 0 56,
 ⟨some 58,none,.rd,.load true 33 (.t 57)⟩,
 yD 59 62 53 58,
 yJ 60 .eql 59 .i64 3]
def q20r25:yW:=[
 yM 61 6,
 yM 62 8,
 yI 63 (.iaSl 36 (.t 61) (.t 62)),
 ⟨some 64,none,.rd,.load true 36 (.t 63)⟩,
 yM 65 6,
 yM 66 9,
 yI 67 (.iaSl 36 (.t 65) (.t 66)),
 ⟨some 68,none,.rd,.load true 36 (.t 67)⟩,
 yI 69 (.build evO [(0,1,(.v (.int .i64 1))),(1,36,(.t 64)),(37,36,(.t 68))]),
 yS 106 4 69,
 yI 5 (.mv (.v (.bool true)))]
def q20c26:yX:=yq q20r25 .ret
def q20c27:yX:=.cond (.t 60) q20c26 .skip
def q20c28:yX:=yq q20r24 q20c27
def q20r29:yW:=[
 yM 47 9,
 yJ 48 .add 47 .i64 1,
 yM 9 48]
def q20c30:yX:=.seq (.block 5 q20c28) (.reg q20r29)
def q20c31:yX:=.seq q20c23 q20c30
def q20c32:yX:=.loop q20c31
def q20c33:yX:=.block 4 q20c32
def q20c34:yX:=yq q20r20 q20c33
def q20r35:yW:=[
 yM 39 8,
 yJ 40 .add 39 .i64 1,
 yM 8 40]
def q20c36:yX:=.seq (.block 3 q20c34) (.reg q20r35)
def q20c37:yX:=.seq q20c19 q20c36
def q20c38:yX:=.loop q20c37
def q20c39:yX:=.block 2 q20c38
def q20c40:yX:=yq q20r16 q20c39
def q20r41:yW:=[
 yI 10 (.mv (.v (.int .i64 (-1))))]
def q20r42:yW:=[
 yK 11 .i64 0]
def q20r43:yW:=[
 yM 70 11,
 yM 71 6,
 yI 72 (.lenSl (.t 71)),
 yB 73 .lss 70 72]
def q20c44:yX:=.cond (.t 73) .skip (.exit 6)
def q20c45:yX:=yq q20r43 q20c44
def q20r46:yW:=[
 yM 76 6,
 yM 77 11,
 yI 78 (.iaSl 36 (.t 76) (.t 77)),
 yF 79 0 78,
 yF 80 0 79,
 yL 81 false 1 80,
 yM 12 81]
def q20r47:yW:=[
 yM 82 12,
 yM 83 1,
 yI 84 (.lenSl (.t 83)),
 yB 85 .leq 82 84,
 yM 86 85,
 yV 87 86 true 1,
 yV 88 86 true 12,
 yG 89 86 true (.slice (.sl 32) (.t 87) none (some (.t 88)) none),
 ⟨some 90,some (86,true),.ef,.call (.v (.fn 16 [])) [(.t 89)]⟩,
 yV 91 86 true 6,
 yV 92 86 true 11,
 yG 93 86 true (.iaSl 36 (.t 91) (.t 92)),
 yT 94 86 true 0 93,
 yT 95 86 true 1 94,
 ⟨some 96,some (86,true),.rd,.load true 32 (.t 95)⟩,
 yG 97 86 true (.bin .eql (.agg (List.replicate 32 (.i .u8)++ [])) (.t 90) (.t 96)),
 yQ 98 86 97,
 yM 99 98,
 yV 100 99 true 10,
 yG 101 99 true (.bin .lss .none (.t 100) (.v (.int .i64 0))),
 yV 102 99 true 101,
 yV 103 102 false 12,
 yV 104 102 false 6,
 yV 105 102 false 10,
 yG 106 102 false (.iaSl 36 (.t 104) (.t 105)),
 yT 107 102 false 0 106,
 yT 108 102 false 0 107,
 yU 109 102 false false 1 108,
 yG 110 102 false (.bin .gtr .none (.t 103) (.t 109)),
 yG 111 99 true (.pick (.t 102) (.v (.bool true)) (.t 110)),
 yQ 112 99 111]
def q20r48:yW:=[
 yM 113 11,
 yM 10 113]
def q20c49:yX:=.cond (.t 112) (.reg q20r48) .skip
def q20c50:yX:=yq q20r47 q20c49
def q20c51:yX:=yq q20r46 q20c50
def q20r52:yW:=[
 yM 74 11,
 yJ 75 .add 74 .i64 1,
 yM 11 75]
def q20c53:yX:=.seq (.block 7 q20c51) (.reg q20r52)
def q20c54:yX:=.seq q20c45 q20c53
def q20c55:yX:=.loop q20c54
def q20c56:yX:=.block 6 q20c55
def q20c57:yX:=yq q20r42 q20c56
def q20r58:yW:=[
 yK 13 .i64 0]
def q20r59:yW:=[
 yM 114 13,
 yM 115 6,
 yI 116 (.lenSl (.t 115)),
 yB 117 .lss 114 116,
 yM 118 117,
 yV 119 118 true 10,
 yG 120 118 true (.bin .geq .none (.t 119) (.v (.int .i64 0))),
 yQ 121 118 120]
def q20c60:yX:=.cond (.t 121) .skip (.exit 8)
def q20c61:yX:=yq q20r59 q20c60
def q20r62:yW:=[
 yM 124 6,
 yM 125 13,
 yI 126 (.iaSl 36 (.t 124) (.t 125)),
 yF 127 0 126,
 yF 128 0 127,
 yL 129 false 1 128,
 yM 14 129]
def q20r63:yW:=[
 yM 130 14,
 yM 131 6,
 yM 132 10,
 yI 133 (.iaSl 36 (.t 131) (.t 132)),
 yF 134 0 133,
 yF 135 0 134,
 yL 136 false 1 135,
 yB 137 .lss 130 136,
 yM 138 137,
 yV 139 138 true 1,
 yV 140 138 true 14,
 yG 141 138 true (.slice (.sl 32) (.t 139) none (some (.t 140)) none),
 ⟨some 142,some (138,true),.ef,.call (.v (.fn 16 [])) [(.t 141)]⟩,
 yV 143 138 true 6,
 yV 144 138 true 13,
 yG 145 138 true (.iaSl 36 (.t 143) (.t 144)),
 yT 146 138 true 0 145,
 yT 147 138 true 1 146,
 ⟨some 148,some (138,true),.rd,.load true 32 (.t 147)⟩,
 yG 149 138 true (.bin .neq (.agg (List.replicate 32 (.i .u8)++ [])) (.t 142) (.t 148)),
 yQ 150 138 149]
def q20r64:yW:=[
 yM 152 1,
 yM 153 6,
 yM 154 10,
 yI 155 (.iaSl 36 (.t 153) (.t 154)),
 yF 156 0 155,
 yF 157 0 156,
 yL 158 false 1 157,
 yI 159 (.slice (.sl 32) (.t 152) none (some (.t 158)) none),
 yM 160 14,
 yD 161 14 159 160,
 yM 151 161,
 yE 162 0 151,
 yE 163 1 151,
 yM 15 162,
 yM 16 163]
def q20r65:yW:=[
 yM 164 6,
 yM 165 13,
 yI 166 (.iaSl 36 (.t 164) (.t 165)),
 ⟨some 167,none,.rd,.load true 36 (.t 166)⟩,
 yM 168 6,
 yM 169 10,
 yI 170 (.iaSl 36 (.t 168) (.t 169)),
 ⟨some 171,none,.rd,.load true 36 (.t 170)⟩,
 yM 172 1,
 yM 173 14,
 yI 174 (.slice (.sl 32) (.t 172) none (some (.t 173)) none),
 ⟨some 175,none,.ef,.call (.v (.fn 16 [])) [(.t 174)]⟩,
 yM 176 15,
 yI 177 (.build evO [(0,1,(.v (.int .i64 2))),(1,36,(.t 167)),(37,36,(.t 171)),(73,32,(.t 175)),(105,1,(.t 176))]),
 yS 106 4 177,
 yI 5 (.mv (.v (.bool true)))]
def q20c66:yX:=yq q20r65 .ret
def q20c67:yX:=yq q20r64 q20c66
def q20c68:yX:=.cond (.t 150) q20c67 .skip
def q20c69:yX:=yq q20r63 q20c68
def q20c70:yX:=yq q20r62 q20c69
def q20r71:yW:=[
 yM 122 13,
 yJ 123 .add 122 .i64 1,
 yM 13 123]
def q20c72:yX:=.seq (.block 9 q20c70) (.reg q20r71)
def q20c73:yX:=.seq q20c61 q20c72
def q20c74:yX:=.loop q20c73
def q20c75:yX:=.block 8 q20c74
def q20c76:yX:=yq q20r58 q20c75
def q20r77:yW:=[
 yI 178 (.build evO []),
 yS 106 4 178,
 yI 5 (.mv (.v (.bool false)))]
def q20c78:yX:=yq q20r77 .ret
def q20c79:yX:=.seq q20c76 q20c78
def q20c80:yX:=.seq q20c57 q20c79
def zdl:ACode:=.seq (.reg q20r41) q20c80
def zdm:ACode:=.seq q20c40 zdl
def q20c83:yX:=.seq q20c15 zdm
def q20c84:yX:=yq q20r1 q20c83
def q20c85:yX:=yq q20r0 q20c84
attribute [go_sem] q20r0 q20r1 q20r2 q20r3 q20r6 q20r7 q20r10 q20r16 q20r17 q20r20 q20r21 q20r24 q20r25 q20r29 q20r35 q20r41 q20r42 q20r43 q20r46 q20r47 q20r48 q20r52 q20r58 q20r59 q20r62 q20r63 q20r64 q20r65 q20r71 q20r77
theorem q20ok:cFn TC 23=some (179,[.c 4 true 106,.t 5],q20c85):=by kernel_rfl
end
section
theorem zco{f g:HV->Bool}(h:∀x,g x=true->f x=true):∀P:List HV,(P.filter f).find? g=P.find? g
 | []=>rfl
 |p::P=>by
  have ih:=zco h P
  rw [List.filter_cons,List.find?_cons]
  cases hg:g p with
  |true=>rw [h p hg,if_pos rfl,List.find?_cons,hg]
  |false=>
   split
   ·rw [List.find?_cons,hg];exact ih
   ·exact ih
def vlB(p:HV):Bool:=valH p.1
theorem zgs:∀P:List HV,z1p (P.filter vlB)=z1p P
 | []=>rfl
 |p::P=>by
  have ih:=zgs P
  rw [List.filter_cons]
  have h2:z1p (p::P)=match P.find? (z25 p)with|some q=>some (p,q)|none=>z1p P:=rfl
  rw [h2]
  cases hv:vlB p with
  |true=>
   rw [if_pos rfl]
   show (match (P.filter vlB).find? (z25 p)with|some q=>some (p,q)|none=>z1p (P.filter vlB))=_
   rw [zco (fun x hx=>by unfold z25 at hx;simp only [Bool.and_eq_true]at hx;exact hx.1.2) P,ih]
  |false=>
   have:P.find? (z25 p)=none:=by
    rw [List.find?_eq_none]
    intro x _ hx
    unfold z25 at hx
    simp only [Bool.and_eq_true]at hx
    unfold vlB at hv
    rw [hv]at hx
    cases hx.1.1
   rw [this]
   exact ih
theorem zbz(L:List Hash):∀(P:List HV) (o:Option HV),(P.filter vlB).foldl (z29 L) o=P.foldl (z29 L) o
 | [],o=>rfl
 |p::P,o=>by
  rw [List.filter_cons,List.foldl_cons]
  cases hv:vlB p with
  |true=>rw [if_pos rfl,List.foldl_cons];exact zbz L P _
  |false=>
   have:z29 L o p=o:=by
    unfold z29 z4i
    unfold vlB at hv
    rw [hv];rfl
   rw [this]
   exact zbz L P o
theorem find_M(L:List Hash)(P:List HV):z2n L (P.filter vlB)=z2n L P:=by
 unfold z2n
 rw [zgs,show z4j L (P.filter vlB)=z4j L P from zbz L P none]
 cases z1p P with
 |some _=>rfl
 |none=>
  cases z4j L P with
  |none=>rfl
  |some w=>
   have h:=zco (f:=vlB) (g:=splB L w) (fun x hx=>by unfold splB at hx;simp only [Bool.and_eq_true]at hx;exact hx.1.1) P
   simp only [h]
def z7d:Option (Ev × AV × AV)->AV
 |none=> .tup [.agg evO,.bool false]
 |some x=> .tup [.agg (evX x.1 x.2.1 x.2.2 (zx 32 (hr x.1.p))),.bool true]
def MIs(τ:Store)(M:List HV)(v:AV):Prop:=(M=[]/\ v=.nilsl) \/ ∃q,v=.sl q 0 M.length none 36/\ τ[q]? =some (some (hrw M))
theorem MIs.len{τ:Store}{M:List HV}{v:AV}(h:MIs τ M v):z1d v=some (.int .i64 M.length):=by
 rcases h with⟨rfl,rfl⟩| ⟨q,rfl,_⟩<;>rfl
theorem MIs.sl{τ:Store}{M:List HV}{v:AV}(h:MIs τ M v){i:Nat}(hi:i<M.length):∃q,v=.sl q 0 M.length none 36/\ τ[q]? =some (some (hrw M)):=by
 rcases h with⟨rfl,_⟩|h
 ·simp at hi
 ·exact h
attribute [local irreducible] ACallsTo ACallsP
theorem zre(O:Store)(τ:Store)(hτ:∃y,τ=O++(some [evO]::y))(hw:Wf O.length O)(M:List HV)(v6 w:AV)(L:List Hash)(hM:MIs τ M v6)(hP:HOk M)(hval:∀p ∈ M,valH p.1=true)(hl:M.length<1000000)(hw':SlV 32 (hr L) w)(hL:L.length<1000000)
  (hf:z1p M=none) (J:Env) (q1:J 1=w) (q4:J 4=.ptr O.length 0 0) (q6:J 6=v6):
  zW TC 179 O.length zdl (endQ O.length [.c 4 true 106,.t 5] (z7d (z2n L M)) O) J τ:=by
 obtain⟨y,rfl⟩:=hτ
 have r6:=hM.len
 unfold z1d at r6
 have r2:=hw'.len
 rw [z6]at r2
 unfold z1d at r2
 have hO6:evO.drop 106=[]:=z2y _ _ _ _
 have hpl:=zl M
 unfold z2n
 rw [hf]
 simp only
 repeat' (first|apply zs_|apply zb_|apply zc_|apply zt_ rfl|apply zf_ rfl|(apply zd_ rfl<;>intro ht<;>try omega)|((first|apply zr_|apply zk_|apply ze_|apply zq_|(apply zG<;>intro ht));all_goals try simp (disch:=first|omega|(simp only [lens,z7,z6,lQr,lQm,lQt,lQd,z8,zg,zh,zi,zl];first|done|omega)) only [go_sem,q1,q4,q6,r6]))
 refine zW.loop (fun m J O'=>∃(i:Nat) (o:Option HV) (a:Int),m+i=M.length/\ O'=O++(some [evO]::y)/\ o=(M.take i).foldl (z29 L) none/\ ((o=none/\ a= -1) \/ ∃(k:Nat) (hk:k<M.length),o=some M[k]/\ a=k)/\ J 1=w/\ J 4=.ptr O.length 0 0/\ J 6=v6/\ J 10=.int .i64 a/\ J 11=.int .i64 i) M.length ?_ ?_
 ·exact⟨0,none,-1,by omega,rfl,rfl,.inl ⟨rfl,rfl⟩,by simp (disch:=first|omega|(simp only [lens,z7,z6,lQr,lQm,lQt,lQd,z8,zg,zh,zi,zl];first|done|omega)) only [go_sem,q1],by simp (disch:=first|omega|(simp only [lens,z7,z6,lQr,lQm,lQt,lQd,z8,zg,zh,zi,zl];first|done|omega)) only [go_sem,q4],by simp (disch:=first|omega|(simp only [lens,z7,z6,lQr,lQm,lQt,lQd,z8,zg,zh,zi,zl];first|done|omega)) only [go_sem,q6],by simp (disch:=first|omega|(simp only [lens,z7,z6,lQr,lQm,lQt,lQd,z8,zg,zh,zi,zl];first|done|omega)) only [go_sem],by simp (disch:=first|omega|(simp only [lens,z7,z6,lQr,lQm,lQt,lQd,z8,zg,zh,zi,zl];first|done|omega)) only [go_sem];rfl⟩
 ·clear q1 q4 q6
  rintro m J O' ⟨i,o,a,hm,rfl,hF,hoa,q1,q4,q6,q10,q11⟩
  by_cases hi:i<M.length
  ·have hi':(i:Int)<M.length:=by omega
   obtain⟨q,rfl,hq⟩:=hM.sl hi
   have hgi:=z3p hi
   have hp:=hP.at hi
   have vp:=hval _ (List.getElem_mem hi)
   have hst:=zfe (L:=L) hi
   rw [<-hF]at hst
   obtain⟨n0,n1,_⟩:=z7l vp
   have hMi:∃(k:Nat) (hk:k<M.length),some M[i]=some M[k]/\ (i:Int)=k:=⟨i,hi,rfl,rfl⟩
   have hdq:=slen hq
   generalize M[i]=p at*
   have hsl:=zg p.1 p.2
   have keep:z4i L o p=false->(M.take (i+1)).foldl (z29 L) none=o:=fun h=>by rw [hst];unfold z29;rw [h];rfl
   have new:z4i L o p=true->(M.take (i+1)).foldl (z29 L) none=some p:=fun h=>by rw [hst];unfold z29;rw [h];rfl
   unfold z4i at keep new
   rw [vp]at keep new
   by_cases c2:p.1.n<=L.length
   ·rw [decide_eq_true c2]at keep new
    have hR:=fun O x (hx:SlV 32 (hr (L.take p.1.n.toNat)) x)=>z9e O (L.take p.1.n.toNat) x (.of hx) (by rw [List.length_take];omega)
    have fk:=z78 L p.1.n.toNat
    have nlL:(hr L).length=L.length:=z6 L
    generalize z19 (L.take p.1.n.toNat)=R at*
    have hsl2:∃x,SlV 32 (hr (L.take p.1.n.toNat)) x/\ ((w=.nilsl/\ x=.nilsl/\ p.1.n=0/\ L=[]) \/ ∃b b2,w=.vsl 32 (hr L) b/\ x=.vsl 32 (hr (L.take p.1.n.toNat)) b2/\ b2=(b && (p.1.n.toNat==L.length))):=by
     rcases hw' with⟨rfl,h0⟩| ⟨b,rfl⟩
     ·have hLn:L=[]:=hr_nil_iff.1 h0
      subst hLn
      exact⟨.nilsl,.inl ⟨rfl,by simp [hr]⟩,.inl ⟨rfl,rfl,by simp at c2;omega,rfl⟩⟩
     ·exact⟨_,.inr ⟨_,rfl⟩,.inr ⟨b,_,rfl,rfl,rfl⟩⟩
    obtain⟨x,hx,hcx⟩:=hsl2
    have hR':=fun O=>hR O x hx
    by_cases h4:R=p.1.r
    ·rw [decide_eq_true h4]at keep new
     rcases hoa with⟨rfl,rfl⟩| ⟨k,hk,rfl,rfl⟩
     ·have n2:=new rfl
      rcases hcx with⟨rfl,rfl,e0,hL0⟩| ⟨b,b2,rfl,rfl,e0⟩
      all_goals
       repeat' (first|apply zs_|apply zb_|apply zc_|apply zt_ rfl|apply zf_ rfl|(apply zd_ rfl<;>intro ht<;>try omega)|((first|apply zr_|apply zk_|apply ze_|apply zq_|(apply callW.mk_pu;(first|exact(fun _=>hR _ _ (.inr ⟨_,rfl⟩))|exact(fun _=>hR' _)))|(apply callW.za;(first|exact(hR _ _ (.inr ⟨_,rfl⟩))|exact(hR' _)))|(apply zG<;>intro ht));all_goals try simp (disch:=first|omega|(simp only [lens,z7,z6,lQr,lQm,lQt,lQd,z8,zg,zh,zi,zl];first|done|omega)) only [go_sem,q1,q4,q6,q10,q11,hi',hgi,hq,hpl,hsl,r2,c2,h4,fk,nlL]))
       exact⟨m-1,by omega,i+1,some p,i,by omega,n2.symm,.inr hMi,by simp⟩
     ·have hgk:=z3p hk
      have hMk:∃(k':Nat) (hk':k'<M.length),some M[k]=some M[k']/\ (k:Int)=k':=⟨k,hk,rfl,rfl⟩
      generalize M[k]=g at*
      have hsg:=zg g.1 g.2
      by_cases h3:g.1.n<p.1.n
      ·have n2:=new (by simp [h3])
       have h3':p.1.n>g.1.n:=h3
       rcases hcx with⟨rfl,rfl,e0,hL0⟩| ⟨b,b2,rfl,rfl,e0⟩
       all_goals
        repeat' (first|apply zs_|apply zb_|apply zc_|apply zt_ rfl|apply zf_ rfl|(apply zd_ rfl<;>intro ht<;>try omega)|((first|apply zr_|apply zk_|apply ze_|apply zq_|(apply callW.mk_pu;(first|exact(fun _=>hR _ _ (.inr ⟨_,rfl⟩))|exact(fun _=>hR' _)))|(apply callW.za;(first|exact(hR _ _ (.inr ⟨_,rfl⟩))|exact(hR' _)))|(apply zG<;>intro ht));all_goals try simp (disch:=first|omega|(simp only [lens,z7,z6,lQr,lQm,lQt,lQd,z8,zg,zh,zi,zl];first|done|omega)) only [go_sem,q1,q4,q6,q10,q11,hi',hgi,hgk,hq,hpl,hsl,hsg,r2,c2,h3',h4,fk,nlL]))
        exact⟨m-1,by omega,i+1,some p,i,by omega,n2.symm,.inr hMi,by simp⟩
      ·have k2:=keep (by simp [h3])
       have h3':¬p.1.n>g.1.n:=h3
       rcases hcx with⟨rfl,rfl,e0,hL0⟩| ⟨b,b2,rfl,rfl,e0⟩
       all_goals
        repeat' (first|apply zs_|apply zb_|apply zc_|apply zt_ rfl|apply zf_ rfl|(apply zd_ rfl<;>intro ht<;>try omega)|((first|apply zr_|apply zk_|apply ze_|apply zq_|(apply callW.mk_pu;(first|exact(fun _=>hR _ _ (.inr ⟨_,rfl⟩))|exact(fun _=>hR' _)))|(apply callW.za;(first|exact(hR _ _ (.inr ⟨_,rfl⟩))|exact(hR' _)))|(apply zG<;>intro ht));all_goals try simp (disch:=first|omega|(simp only [lens,z7,z6,lQr,lQm,lQt,lQd,z8,zg,zh,zi,zl];first|done|omega)) only [go_sem,q1,q4,q6,q10,q11,hi',hgi,hgk,hq,hpl,hsl,hsg,r2,c2,h3',h4,fk,nlL]))
        exact⟨m-1,by omega,i+1,some g,k,by omega,k2.symm,.inr hMk,by simp⟩
    ·have k2:=keep (by simp [h4])
     rcases hcx with⟨rfl,rfl,e0,hL0⟩| ⟨b,b2,rfl,rfl,e0⟩
     all_goals
      repeat' (first|apply zs_|apply zb_|apply zc_|apply zt_ rfl|apply zf_ rfl|(apply zd_ rfl<;>intro ht<;>try omega)|((first|apply zr_|apply zk_|apply ze_|apply zq_|(apply callW.mk_pu;(first|exact(fun _=>hR _ _ (.inr ⟨_,rfl⟩))|exact(fun _=>hR' _)))|(apply callW.za;(first|exact(hR _ _ (.inr ⟨_,rfl⟩))|exact(hR' _)))|(apply zG<;>intro ht));all_goals try simp (disch:=first|omega|(simp only [lens,z7,z6,lQr,lQm,lQt,lQd,z8,zg,zh,zi,zl];first|done|omega)) only [go_sem,q1,q4,q6,q10,q11,hi',hgi,hq,hpl,hsl,r2,c2,h4,fk,nlL]))
      exact⟨m-1,by omega,i+1,o,a,by omega,k2.symm,hoa,by simp⟩
   ·have k2:=keep (by simp [c2])
    repeat' (first|apply zs_|apply zb_|apply zc_|apply zt_ rfl|apply zf_ rfl|(apply zd_ rfl<;>intro ht<;>try omega)|((first|apply zr_|apply zk_|apply ze_|apply zq_|(apply zG<;>intro ht));all_goals try simp (disch:=first|omega|(simp only [lens,z7,z6,lQr,lQm,lQt,lQd,z8,zg,zh,zi,zl];first|done|omega)) only [go_sem,q1,q4,q6,q10,q11,hi',hgi,hq,hpl,hsl,r2,c2]))
    exact⟨m-1,by omega,i+1,o,a,by omega,k2.symm,hoa,by simp⟩
  ·obtain rfl:i=M.length:=by omega
   rw [List.take_of_length_le (Nat.le_refl _)]at hF
   rw [show z4j L M=o from hF.symm]
   have ev0:z7d none=.tup [.agg evO,.bool false]:=rfl
   have rO:∀k,RL k (.tup [.agg evO,.bool false]):=fun k=>rlE' evZ0 (by simp [RL]) (by simp [RL]) (by simp [RL]) (by simp [RL])
   rcases hoa with⟨rfl,rfl⟩| ⟨k,hk,rfl,rfl⟩
   ·simp only
    rw [ev0]
    repeat' (first|apply zs_|apply zb_|apply zc_|apply zt_ rfl|apply zf_ rfl|(apply zd_ rfl<;>intro ht<;>try omega)|((first|apply zr_|apply zk_|apply ze_|apply zq_|(apply zG<;>intro ht));all_goals try simp (disch:=first|omega|(simp only [lens,z7,z6,lQr,lQm,lQt,lQd,z8,zg,zh,zi,zl];first|done|omega)) only [go_sem,q1,q4,q6,q10,q11,r6]))
    refine zW.loop (fun m J O'=>O'=O++(some [evO]::y)/\ J 4=.ptr O.length 0 0/\ J 6=v6/\ J 10=.int .i64 (-1)/\ J 13=.int .i64 0) 0 ?_ ?_
    ·exact⟨rfl,by simp (disch:=first|omega|(simp only [lens,z7,z6,lQr,lQm,lQt,lQd,z8,zg,zh,zi,zl];first|done|omega)) only [go_sem,q4],by simp (disch:=first|omega|(simp only [lens,z7,z6,lQr,lQm,lQt,lQd,z8,zg,zh,zi,zl];first|done|omega)) only [go_sem,q6],by simp (disch:=first|omega|(simp only [lens,z7,z6,lQr,lQm,lQt,lQd,z8,zg,zh,zi,zl];first|done|omega)) only [go_sem,q10],by simp (disch:=first|omega|(simp only [lens,z7,z6,lQr,lQm,lQt,lQd,z8,zg,zh,zi,zl];first|done|omega)) only [go_sem]⟩
    ·rintro m J O' ⟨rfl,q4,q6,q10,q13⟩
     by_cases hz:(0:Int)<M.length
     ·repeat' (first|apply zs_|apply zb_|apply zc_|apply zt_ rfl|apply zf_ rfl|(apply zd_ rfl<;>intro ht<;>try omega)|((first|apply zr_|apply zk_|apply ze_|apply zq_|(apply zG<;>intro ht));all_goals try simp (disch:=first|omega|(simp only [lens,z7,z6,lQr,lQm,lQt,lQd,z8,zg,zh,zi,zl];first|done|omega)) only [go_sem,q4,q6,q10,q13,r6,hz,zi,hO6,List.append_nil]))
      exact DownV.pure hw (rO _)
     ·repeat' (first|apply zs_|apply zb_|apply zc_|apply zt_ rfl|apply zf_ rfl|(apply zd_ rfl<;>intro ht<;>try omega)|((first|apply zr_|apply zk_|apply ze_|apply zq_|(apply zG<;>intro ht));all_goals try simp (disch:=first|omega|(simp only [lens,z7,z6,lQr,lQm,lQt,lQd,z8,zg,zh,zi,zl];first|done|omega)) only [go_sem,q4,q6,q10,q13,r6,hz,zi,hO6,List.append_nil]))
      exact DownV.pure hw (rO _)
   ·simp only
    obtain⟨mg,vg,ng⟩:M[k] ∈ M/\ valH M[k].1=true/\ M[k].1.n<=L.length:=by
     rcases zaa M none hF.symm with h|h
     ·cases h
     ·exact h
    have hgg:=hP _ mg
    have hgk:=z3p hk
    obtain⟨q,rfl,hq⟩:=hM.sl hk
    have hdq:=slen hq
    generalize M[k]=g at*
    have hsg:=zg g.1 g.2
    have hk0:(k:Int)>=0:=by omega
    repeat' (first|apply zs_|apply zb_|apply zc_|apply zt_ rfl|apply zf_ rfl|(apply zd_ rfl<;>intro ht<;>try omega)|((first|apply zr_|apply zk_|apply ze_|apply zq_|(apply zG<;>intro ht));all_goals try simp (disch:=first|omega|(simp only [lens,z7,z6,lQr,lQm,lQt,lQd,z8,zg,zh,zi,zl];first|done|omega)) only [go_sem,q1,q4,q6,q10,q11,r6]))
    refine zW.loop (fun m J O'=>∃(i:Nat),m+i=M.length/\ O'=O++(some [evO]::y)/\ M.find? (splB L g)=(M.drop i).find? (splB L g)/\ J 1=w/\ J 4=.ptr O.length 0 0/\ J 6=.sl q 0 M.length none 36/\ J 10=.int .i64 k/\ J 13=.int .i64 i) M.length ?_ ?_
    ·exact⟨0,by omega,rfl,rfl,by simp (disch:=first|omega|(simp only [lens,z7,z6,lQr,lQm,lQt,lQd,z8,zg,zh,zi,zl];first|done|omega)) only [go_sem,q1],by simp (disch:=first|omega|(simp only [lens,z7,z6,lQr,lQm,lQt,lQd,z8,zg,zh,zi,zl];first|done|omega)) only [go_sem,q4],by simp (disch:=first|omega|(simp only [lens,z7,z6,lQr,lQm,lQt,lQd,z8,zg,zh,zi,zl];first|done|omega)) only [go_sem,q6],by simp (disch:=first|omega|(simp only [lens,z7,z6,lQr,lQm,lQt,lQd,z8,zg,zh,zi,zl];first|done|omega)) only [go_sem,q10],by simp (disch:=first|omega|(simp only [lens,z7,z6,lQr,lQm,lQt,lQd,z8,zg,zh,zi,zl];first|done|omega)) only [go_sem];rfl⟩
    ·clear q1 q4 q6 q10 q11
     rintro m J O' ⟨i,hm,rfl,hF2,q1,q4,q6,q10,q13⟩
     by_cases hi:i<M.length
     ·have hi':(i:Int)<M.length:=by omega
      have hgi:=z3p hi
      have hp:=hP.at hi
      have vp:=hval _ (List.getElem_mem hi)
      have hfd:=zao (f:=splB L g) hi
      rw [hfd]at hF2
      generalize M[i]=p at*
      have hsl:=zg p.1 p.2
      rw [show splB L g p=(valH p.1 && decide (p.1.n<g.1.n) && decide (z19 (L.take p.1.n.toNat) ≠ p.1.r))from rfl,vp]at hF2
      by_cases c2:p.1.n<g.1.n
      ·obtain⟨n0,n1,_⟩:=z7l vp
       obtain⟨g0,g1,_⟩:=z7l vg
       have hLn:(hr L).length=L.length:=z6 L
       obtain⟨b,rfl⟩:=hw'.vsl (by rw [z6];omega)
       have fk:=z78 L p.1.n.toNat
       have fk2:=z78 L g.1.n.toNat
       have hR:=fun O b=>z9e O (L.take p.1.n.toNat) (.vsl 32 (hr (L.take p.1.n.toNat)) b) (.of (.inr ⟨b,rfl⟩)) (by rw [List.length_take];omega)
       have hPr:=fun O b=>zrn O (L.take g.1.n.toNat) (.vsl 32 (hr (L.take g.1.n.toNat)) b) p.1.n (.inr ⟨b,rfl⟩) (by rw [List.length_take];omega)
       generalize hRR:z19 (L.take p.1.n.toNat)=R at*
       by_cases c3:R=p.1.r
       ·have hb:(true && decide (p.1.n<g.1.n) && decide (R ≠ p.1.r))=false:=by simp [c3]
        rw [hb,if_neg (by simp)]at hF2
        repeat' (first|apply zs_|apply zb_|apply zc_|apply zt_ rfl|apply zf_ rfl|(apply zd_ rfl<;>intro ht<;>try omega)|((first|apply zr_|apply zk_|apply ze_|apply zq_|(apply callW.mk_pu;(first|exact(fun _=>hR _ _)))|(apply callW.za;(first|exact(hR _ _)))|(apply zG<;>intro ht));all_goals try simp (disch:=first|omega|(simp only [lens,z7,z6,lQr,lQm,lQt,lQd,z8,zg,zh,zi,zl];first|done|omega)) only [go_sem,q1,q4,q6,q10,q13,hi',hgi,hgk,hq,hpl,hsl,hsg,hk0,r6,c2,c3,hLn,fk]))
        exact⟨m-1,by omega,i+1,by omega,hF2,by simp⟩
       ·have hb:(true && decide (p.1.n<g.1.n) && decide (R ≠ p.1.r))=true:=by simp [c2,c3]
        rw [hb,if_pos rfl]at hF2
        rw [hF2]
        simp only [hRR]
        have e:z7d (some (⟨2,p.1,g.1,R,z3e (L.take g.1.n.toNat) p.1.n⟩,p.2,g.2))=.tup [.agg (evX ⟨2,p.1,g.1,R,z3e (L.take g.1.n.toNat) p.1.n⟩ p.2 g.2 (zx 32 (hr (z3e (L.take g.1.n.toNat) p.1.n)))),.bool true]:=rfl
        rw [e]
        generalize z3e (L.take g.1.n.toNat) p.1.n=pf at*
        have hfz:∀(e:Ev) (x y v:AV),z17 (evX e x y v) [(105,1,zx 32 (hr pf))]=some (evX e x y (zx 32 (hr pf))):=by
         intro e x y v
         have h1:=zjs (sz:=32) (es:=hr pf)
         have h2:=zgj e x y v (zx 32 (hr pf))
         rw [z2y]at h2
         simp only [z17,h1,Option.bind_some,zh,z1b,List.length_cons,List.length_nil]
         rw [if_pos ⟨trivial,by omega⟩,z2y,List.append_nil,h2]
        have hrz:RL O.length (zx 32 (hr pf)):=zds (z2t _)
        have hO:evO=evX ⟨0,zHd,zHd,zeroH,[]⟩ .nilsl .nilsl .nilsl:=rfl
        have hel:=fun e x y z=>zh e x y z
        have hed:=fun e x y z=>z2y e x y z
        have hq2:=hq
        rw [hO]at hq2
        generalize zx 32 (hr pf)=Z at*
        repeat' (first|apply zs_|apply zb_|apply zc_|apply zt_ rfl|apply zf_ rfl|(apply zd_ rfl<;>intro ht<;>try omega)|((first|apply zr_|apply zk_|apply ze_|apply zq_|(apply callW.mk_pu;(first|exact(fun _=>hR _ _)|exact(fun _=>hPr _ _)))|(apply callW.za;(first|exact(hR _ _)|exact(hPr _ _)))|(apply zG<;>intro ht));all_goals try simp (disch:=first|omega|(simp only [lens,z7,z6,lQr,lQm,lQt,lQd,z8,zg,zh,zi,zl];first|done|omega)) only [go_sem,q1,q4,q6,q10,q13,hi',hgi,hgk,hq,hq2,hpl,hsl,hsg,hk0,r6,c2,c3,hLn,fk,fk2,hfz,hO,hel,hed,List.append_nil]))
        exact DownV.pure hw (rlE' _ (z5w hp) (z5w hgg) hrz (by simp [RL]))
      ·have hb:(true && decide (p.1.n<g.1.n) && decide (z19 (L.take p.1.n.toNat) ≠ p.1.r))=false:=by simp [c2]
       rw [hb,if_neg (by simp)]at hF2
       repeat' (first|apply zs_|apply zb_|apply zc_|apply zt_ rfl|apply zf_ rfl|(apply zd_ rfl<;>intro ht<;>try omega)|((first|apply zr_|apply zk_|apply ze_|apply zq_|(apply zG<;>intro ht));all_goals try simp (disch:=first|omega|(simp only [lens,z7,z6,lQr,lQm,lQt,lQd,z8,zg,zh,zi,zl];first|done|omega)) only [go_sem,q1,q4,q6,q10,q13,hi',hgi,hgk,hq,hpl,hsl,hsg,hk0,r6,c2]))
       exact⟨m-1,by omega,i+1,by omega,hF2,by simp⟩
     ·obtain rfl:i=M.length:=by omega
      rw [List.drop_length]at hF2
      rw [hF2]
      simp only [List.find?_nil]
      rw [ev0]
      repeat' (first|apply zs_|apply zb_|apply zc_|apply zt_ rfl|apply zf_ rfl|(apply zd_ rfl<;>intro ht<;>try omega)|((first|apply zr_|apply zk_|apply ze_|apply zq_|(apply zG<;>intro ht));all_goals try simp (disch:=first|omega|(simp only [lens,z7,z6,lQr,lQm,lQt,lQd,z8,zg,zh,zi,zl];first|done|omega)) only [go_sem,q1,q4,q6,q10,q13,r6,zi,hO6,List.append_nil]))
      exact DownV.pure hw (rO _)
end
section
theorem OwnR.is{k:Nat}{τ:Store}{v:AV}{M:List HV}(h:OwnR 36 k τ v (hrw M)):MIs τ M v:=by
 rcases h with⟨h,rfl⟩| ⟨r,_,_,rfl,hg⟩
 ·exact .inl ⟨List.map_eq_nil_iff.1 h,rfl⟩
 ·exact .inr ⟨r,by rw [zl],hg⟩
theorem zno{P:List HV}{i:Nat}(hi:i<P.length):(P.take (i+1)).filter vlB=if vlB P[i]=true then(P.take i).filter vlB++ [P[i]]else(P.take i).filter vlB:=by
 rw [List.take_succ_eq_append_getElem hi,List.filter_append,List.filter_cons]
 split
 ·rfl
 ·simp
attribute [local irreducible] ACallsTo ACallsP zdl
theorem zrd(O:Store)(τ:Store)(hτ:∃y,τ=O++(some [evO]::y))(hw:Wf O.length O)(M:List HV)(v6 w:AV)(L:List Hash)(hM:MIs τ M v6)(hP:HOk M)(hval:∀p ∈ M,valH p.1=true)(hl:M.length<1000000)(hw':SlV 32 (hr L) w)(hL:L.length<1000000)
  (J:Env) (q1:J 1=w) (q4:J 4=.ptr O.length 0 0) (q6:J 6=v6):
  zW TC 179 O.length zdm (endQ O.length [.c 4 true 106,.t 5] (z7d (z2n L M)) O) J τ:=by
 have hτ2:=hτ
 obtain⟨y,rfl⟩:=hτ
 have r6:=hM.len
 unfold z1d at r6
 have hpl:=zl M
 have hO:evO=evX ⟨0,zHd,zHd,zeroH,[]⟩ .nilsl .nilsl .nilsl:=rfl
 have hel:=fun e x y z=>zh e x y z
 have hed:=fun e x y z=>z2y e x y z
 repeat' (first|apply zs_|apply zb_|apply zc_|apply zt_ rfl|apply zf_ rfl|(apply zd_ rfl<;>intro ht<;>try omega)|((first|apply zr_|apply zk_|apply ze_|apply zq_|(apply zG<;>intro ht));all_goals try simp (disch:=first|omega|(simp only [lens,z7,z6,lQr,lQm,lQt,lQd,z8,zg,zh,zi,zl];first|done|omega)) only [go_sem,q1,q4,q6,r6]))
 refine zW.loop (fun m J O'=>∃(i:Nat),m+i=M.length/\ O'=O++(some [evO]::y)/\ z1p M=z1p (M.drop i)/\ J 1=w/\ J 4=.ptr O.length 0 0/\ J 6=v6/\ J 8=.int .i64 i) M.length ?_ ?_
 ·exact⟨0,by omega,rfl,rfl,by simp (disch:=first|omega|(simp only [lens,z7,z6,lQr,lQm,lQt,lQd,z8,zg,zh,zi,zl];first|done|omega)) only [go_sem,q1],by simp (disch:=first|omega|(simp only [lens,z7,z6,lQr,lQm,lQt,lQd,z8,zg,zh,zi,zl];first|done|omega)) only [go_sem,q4],by simp (disch:=first|omega|(simp only [lens,z7,z6,lQr,lQm,lQt,lQd,z8,zg,zh,zi,zl];first|done|omega)) only [go_sem,q6],by simp (disch:=first|omega|(simp only [lens,z7,z6,lQr,lQm,lQt,lQd,z8,zg,zh,zi,zl];first|done|omega)) only [go_sem];rfl⟩
 ·clear q1 q4 q6
  rintro m J O' ⟨i,hm,rfl,hF,q1,q4,q6,q8⟩
  by_cases hi:i<M.length
  ·have hi':(i:Int)<M.length:=by omega
   obtain⟨q,rfl,hq⟩:=hM.sl hi
   have hgi:=z3p hi
   have hp:=hP.at hi
   have vp:=hval _ (List.getElem_mem hi)
   have hst:=zgq hi
   have hdq:=slen hq
   rw [hst]at hF
   generalize M[i]=p at*
   have hsl:=zg p.1 p.2
   repeat' (first|apply zs_|apply zb_|apply zc_|apply zt_ rfl|apply zf_ rfl|(apply zd_ rfl<;>intro ht<;>try omega)|((first|apply zr_|apply zk_|apply ze_|apply zq_|(apply zG<;>intro ht));all_goals try simp (disch:=first|omega|(simp only [lens,z7,z6,lQr,lQm,lQt,lQd,z8,zg,zh,zi,zl];first|done|omega)) only [go_sem,q1,q4,q6,q8,hi',hgi,hq,hpl,hsl]))
   refine zW.loop (fun m J O'=>∃(j:Nat),m+j=M.length/\ i<j/\ O'=O++(some [evO]::y)/\ (M.drop (i+1)).find? (z25 p)=(M.drop j).find? (z25 p)/\ J 1=w/\ J 4=.ptr O.length 0 0/\ J 6=.sl q 0 M.length none 36/\ J 8=.int .i64 i/\ J 9=.int .i64 j) (M.length-(i+1)) ?_ ?_
   ·exact⟨i+1,by omega,by omega,rfl,rfl,by simp (disch:=first|omega|(simp only [lens,z7,z6,lQr,lQm,lQt,lQd,z8,zg,zh,zi,zl];first|done|omega)) only [go_sem,q1],by simp (disch:=first|omega|(simp only [lens,z7,z6,lQr,lQm,lQt,lQd,z8,zg,zh,zi,zl];first|done|omega)) only [go_sem,q4],by simp (disch:=first|omega|(simp only [lens,z7,z6,lQr,lQm,lQt,lQd,z8,zg,zh,zi,zl];first|done|omega)) only [go_sem,q6],by simp (disch:=first|omega|(simp only [lens,z7,z6,lQr,lQm,lQt,lQd,z8,zg,zh,zi,zl];first|done|omega)) only [go_sem,q8],by simp (disch:=first|omega|(simp only [lens,z7,z6,lQr,lQm,lQt,lQd,z8,zg,zh,zi,zl];first|done|omega)) only [go_sem];rfl⟩
   ·clear q1 q4 q6 q8
    rintro m2 J O2 ⟨j,hm2,hij,rfl,hF2,q1,q4,q6,q8,q9⟩
    by_cases hj:j<M.length
    ·have hj':(j:Int)<M.length:=by omega
     have hgj:=z3p hj
     have hq':=hP.at hj
     have vq:=hval _ (List.getElem_mem hj)
     have hfd:=zao (f:=z25 p) hj
     rw [hfd]at hF2
     generalize M[j]=g at*
     have hsg:=zg g.1 g.2
     have hOr:=fun O=>zrj O p.1.n g.1.n p.1.r g.1.r
     rw [show z25 p g=(valH p.1 && valH g.1 && decide (ordI p.1.n g.1.n p.1.r g.1.r=3))from rfl,vp,vq]at hF2
     generalize ordI p.1.n g.1.n p.1.r g.1.r=o at*
     by_cases h3:o=3
     ·rw [if_pos (by simp [h3])]at hF2
      rw [hF2]at hF
      unfold z2n
      rw [hF]
      have e:z7d (some (⟨1,p.1,g.1,zeroH,[]⟩,p.2,g.2))=.tup [.agg (evX ⟨1,p.1,g.1,zeroH,[]⟩ p.2 g.2 .nilsl),.bool true]:=rfl
      simp only
      rw [e]
      have hq2:=hq
      rw [hO]at hq2
      repeat' (first|apply zs_|apply zb_|apply zc_|apply zt_ rfl|apply zf_ rfl|(apply zd_ rfl<;>intro ht<;>try omega)|((first|apply zr_|apply zk_|apply ze_|apply zq_|(apply callW.mk_pu;(first|exact(fun _=>hOr _)))|(apply callW.za;(first|exact(hOr _)))|(apply zG<;>intro ht));all_goals try simp (disch:=first|omega|(simp only [lens,z7,z6,lQr,lQm,lQt,lQd,z8,zg,zh,zi,zl];first|done|omega)) only [go_sem,q1,q4,q6,q8,q9,hj',hgi,hgj,hq,hq2,hpl,hsl,hsg,h3,hO,hel,hed,List.append_nil]))
      exact DownV.pure hw (rlE' _ (z5w hp) (z5w hq') (by simp [RL]) (by simp [RL]))
     ·rw [if_neg (by simp [h3])]at hF2
      repeat' (first|apply zs_|apply zb_|apply zc_|apply zt_ rfl|apply zf_ rfl|(apply zd_ rfl<;>intro ht<;>try omega)|((first|apply zr_|apply zk_|apply ze_|apply zq_|(apply callW.mk_pu;(first|exact(fun _=>hOr _)))|(apply callW.za;(first|exact(hOr _)))|(apply zG<;>intro ht));all_goals try simp (disch:=first|omega|(simp only [lens,z7,z6,lQr,lQm,lQt,lQd,z8,zg,zh,zi,zl];first|done|omega)) only [go_sem,q1,q4,q6,q8,q9,hj',hgi,hgj,hq,hpl,hsl,hsg,h3]))
      exact⟨m2-1,by omega,j+1,by omega,by omega,hF2,by simp⟩
    ·obtain rfl:j=M.length:=by omega
     rw [List.drop_length]at hF2
     rw [hF2]at hF
     have hF':z1p M=z1p (M.drop (i+1)):=hF
     repeat' (first|apply zs_|apply zb_|apply zc_|apply zt_ rfl|apply zf_ rfl|(apply zd_ rfl<;>intro ht<;>try omega)|((first|apply zr_|apply zk_|apply ze_|apply zq_|(apply zG<;>intro ht));all_goals try simp (disch:=first|omega|(simp only [lens,z7,z6,lQr,lQm,lQt,lQd,z8,zg,zh,zi,zl];first|done|omega)) only [go_sem,q1,q4,q6,q8,q9]))
     exact⟨m-1,by omega,i+1,by omega,hF',by simp⟩
  ·obtain rfl:i=M.length:=by omega
   rw [zgr]at hF
   repeat' (first|apply zs_|apply zb_|apply zc_|apply zt_ rfl|apply zf_ rfl|(apply zd_ rfl<;>intro ht<;>try omega)|((first|apply zr_|apply zk_|apply ze_|apply zq_|(apply zG<;>intro ht));all_goals try simp (disch:=first|omega|(simp only [lens,z7,z6,lQr,lQm,lQt,lQd,z8,zg,zh,zi,zl];first|done|omega)) only [go_sem,q1,q4,q6,q8,r6]))
   exact zre O _ hτ2 hw M v6 w L hM hP hval hl hw' hL hF _ (by simp (disch:=first|omega|(simp only [lens,z7,z6,lQr,lQm,lQt,lQd,z8,zg,zh,zi,zl];first|done|omega)) only [go_sem,q1]) (by simp (disch:=first|omega|(simp only [lens,z7,z6,lQr,lQm,lQt,lQd,z8,zg,zh,zi,zl];first|done|omega)) only [go_sem,q4]) (by simp (disch:=first|omega|(simp only [lens,z7,z6,lQr,lQm,lQt,lQd,z8,zg,zh,zi,zl];first|done|omega)) only [go_sem,q6])
attribute [local irreducible] zdm
theorem zri(O:Store)(P:List HV)(v w:AV)(L:List Hash)(hv:SlV 36 (hrw P) v)(hP:HOk P)(hl:P.length<1000000)(hw':SlV 32 (hr L) w)(hL:L.length<1000000):
  ACallsTo TC 23 [v,w] O (z7d (z2n L P)) O:=by
 have r1:=hv.len
 rw [zl]at r1
 unfold z1d at r1
 rw [<-find_M L P]
 refine ACallsTo.of_body q20ok (by simp) fun hw _=> ?_
 repeat' (first|apply zs_|apply zb_|apply zc_|apply zt_ rfl|apply zf_ rfl|(apply zd_ rfl<;>intro ht<;>try omega)|((first|apply zr_|apply zk_|apply ze_|apply zq_|(apply zG<;>intro ht));all_goals try simp (disch:=first|omega|(simp only [lens,z7,z6,lQr,lQm,lQt,lQd,z8,zg,zh,zi,zl];first|done|omega)) only [go_sem,r1]))
 refine zW.loop (fun m J O'=>∃(i:Nat) (v6:AV),m+i=P.length/\ OwnR 36 (O.length+1) O' v6 (hrw ((P.take i).filter vlB))/\ Ext O O'/\ O'[O.length]? =some (some [evO])/\ O.length+1<=O'.length/\ J 0=v/\ J 1=w/\ J 4=.ptr O.length 0 0/\ J 6=v6/\ J 7=.int .i64 i) P.length ?_ ?_
 ·exact⟨0,.nilsl,by omega,OwnR.nil,⟨_,rfl⟩,by simp,by simp,by simp (disch:=first|omega|(simp only [lens,z7,z6,lQr,lQm,lQt,lQd,z8,zg,zh,zi,zl];first|done|omega)) only [go_sem],by simp (disch:=first|omega|(simp only [lens,z7,z6,lQr,lQm,lQt,lQd,z8,zg,zh,zi,zl];first|done|omega)) only [go_sem],by simp (disch:=first|omega|(simp only [lens,z7,z6,lQr,lQm,lQt,lQd,z8,zg,zh,zi,zl];first|done|omega)) only [go_sem],by simp (disch:=first|omega|(simp only [lens,z7,z6,lQr,lQm,lQt,lQd,z8,zg,zh,zi,zl];first|done|omega)) only [go_sem],by simp (disch:=first|omega|(simp only [lens,z7,z6,lQr,lQm,lQt,lQd,z8,zg,zh,zi,zl];first|done|omega)) only [go_sem];rfl⟩
 ·rintro m J O' ⟨i,v6,hm,hO,hE,he,hk,q0,q1,q4,q6,q7⟩
  by_cases hi:i<P.length
  ·have hi':(i:Int)<P.length:=by omega
   obtain⟨ex,rfl⟩:=hv.vsl (by rw [zl];omega)
   have hgi:=z3p hi
   have hp:=hP.at hi
   have hst:=zno hi
   have hpl:=zl P
   have hfl:=List.length_filter_le vlB (P.take i)
   have htl:(P.take i).length=i:=by rw [List.length_take];omega
   generalize P[i]=p at*
   have hsl:=zg p.1 p.2
   have hV:=fun O=>zro O p.1.n p.1.i p.1.r p.1.s p.1.p p.2 (.of hp)
   rw [show vlB p=z28 p.1.n p.1.i p.1.s p.1.p from rfl]at hst
   generalize z28 p.1.n p.1.i p.1.s p.1.p=vb at*
   cases vb with
   |false=>
    rw [if_neg (by simp)]at hst
    rw [<-hst]at hO
    repeat' (first|apply zs_|apply zb_|apply zc_|apply zt_ rfl|apply zf_ rfl|(apply zd_ rfl<;>intro ht<;>try omega)|((first|apply zr_|apply zk_|apply ze_|apply zq_|(apply callW.mk_pu;(first|exact(fun _=>hV _)))|(apply callW.za;(first|exact(hV _)))|(apply zG<;>intro ht));all_goals try simp (disch:=first|omega|(simp only [lens,z7,z6,lQr,lQm,lQt,lQd,z8,zg,zh,zi,zl];first|done|omega)) only [go_sem,q0,q1,q4,q6,q7,hi',hgi,hpl,hsl]))
    exact⟨m-1,by omega,i+1,v6,by omega,hO,hE,he,hk,by simp⟩
   |true=>
    rw [if_pos rfl]at hst
    obtain⟨v',O2,ha,hO2,h5,h6,h7⟩:=hO.app (ys:=[sgX p.1 p.2]) hk (by simp) (by rw [zl];simp;omega)
    rw [show hrw ((P.take i).filter vlB)++ [sgX p.1 p.2]=hrw ((P.take (i+1)).filter vlB)by rw [hst];simp [hrw]]at hO2
    have he2:=h5 O.length (by omega)
    rw [he]at he2
    have hE2:=h6 O (by omega) hE
    repeat' (first|apply zs_|apply zb_|apply zc_|apply zt_ rfl|apply zf_ rfl|(apply zd_ rfl<;>intro ht<;>try omega)|((first|apply zr_|apply zk_|apply ze_|apply zq_|(apply callW.mk_pu;(first|exact(fun _=>hV _)))|(apply callW.za;(first|exact(hV _)))|(apply zG<;>intro ht));all_goals try simp (disch:=first|omega|(simp only [lens,z7,z6,lQr,lQm,lQt,lQd,z8,zg,zh,zi,zl];first|done|omega)) only [go_sem,q0,q1,q4,q6,q7,hi',hgi,hpl,hsl,ha]))
    exact⟨m-1,by omega,i+1,v',by omega,hO2,hE2,he2,h7,by simp⟩
  ·obtain rfl:i=P.length:=by omega
   rw [List.take_of_length_le (Nat.le_refl _)]at hO
   have hfl:=List.length_filter_le vlB P
   repeat' (first|apply zs_|apply zb_|apply zc_|apply zt_ rfl|apply zf_ rfl|(apply zd_ rfl<;>intro ht<;>try omega)|((first|apply zr_|apply zk_|apply ze_|apply zq_|(apply zG<;>intro ht));all_goals try simp (disch:=first|omega|(simp only [lens,z7,z6,lQr,lQm,lQt,lQd,z8,zg,zh,zi,zl];first|done|omega)) only [go_sem,q0,q1,q4,q6,q7,r1]))
   refine zrd O O' ?_ hw (P.filter vlB) v6 w L hO.is (fun p hp=>hP p (List.mem_filter.1 hp).1) (fun p hp=>(List.mem_filter.1 hp).2) (by omega) hw' hL _ (by simp (disch:=first|omega|(simp only [lens,z7,z6,lQr,lQm,lQt,lQd,z8,zg,zh,zi,zl];first|done|omega)) only [go_sem,q1]) (by simp (disch:=first|omega|(simp only [lens,z7,z6,lQr,lQm,lQt,lQd,z8,zg,zh,zi,zl];first|done|omega)) only [go_sem,q4]) (by simp (disch:=first|omega|(simp only [lens,z7,z6,lQr,lQm,lQt,lQd,z8,zg,zh,zi,zl];first|done|omega)) only [go_sem,q6])
   obtain⟨news,rfl⟩:=hE
   rw [z2h (by omega),Nat.sub_self]at he
   cases news with
   |nil=>simp at he
   |cons a y=>simp at he;exact⟨y,by rw [he]⟩
end
section
abbrev RV2:=Rgh × AV
def rgw(R:List RV2):List (List AV):=R.map fun p=>rgX p.1 p.2
theorem z2i(R:List RV2):(rgw R).length=R.length:=by simp [rgw]
theorem zrx{R:List RV2}{i:Nat}{p:RV2}(h:R[i]? =some p):(rgw R)[i]? =some (rgX p.1 p.2):=by simp [rgw,List.getElem?_map,h]
theorem zrw(h:Rgh)(x:AV):(rgX h x).take 37=rgX h x:=List.take_of_length_le (by rw [z24];omega)
theorem zs0{x:AV}(h:ShC (.sl 37 z9f) [x]):∃R:List RV2,SlV 37 (rgw R) x/\ ∀p ∈ R,SlV 32 (hr p.1.p) p.2/\ mOk p.1:=by
 simp only [ShC]at h
 rcases h with h| ⟨es,h,hl,_,h2⟩
 ·cases h
  exact⟨[],.inl ⟨rfl,rfl⟩,by simp⟩
 ·cases h
  have:∀es:List (List AV),(∀x ∈ es,ShC z9f x)->∃R:List RV2,es=rgw R/\ ∀p ∈ R,SlV 32 (hr p.1.p) p.2/\ mOk p.1:=by
   intro es
   induction es with
   |nil=>intro _;exact⟨[],rfl,by simp⟩
   |cons e es ih=>
    intro h
    obtain⟨g,y,rfl,hy,hm,_⟩:=zrz (h e (by simp))
    obtain⟨R,rfl,hR⟩:=ih fun x hx=>h x (by simp [hx])
    exact⟨(g,y)::R,rfl,fun q hq=>by rcases List.mem_cons.1 hq with rfl|h1;exact⟨hy,hm⟩;exact hR q h1⟩
  obtain⟨R,rfl,hok⟩:=this es h2
  exact⟨R,.inr ⟨false,rfl⟩,hok⟩
theorem zjc(h:Hdr)(x:AV)(k:Int): .int .i64 k::(sgX h x).drop 1=sgX ⟨k,h.r,h.i,h.s,h.p⟩ x:=rfl
theorem zjd(h:Hdr)(x:AV)(r:Hash):(sgX h x).take 1++(hc r++(sgX h x).drop 33)=sgX ⟨h.n,r,h.i,h.s,h.p⟩ x:=by
 unfold sgX
 rw [zsk]
 rfl
theorem and31i(i:Int):z15 .and .i64 i 31=some (.int .i64 (i%32)):=zlk i 5 (by omega)
theorem ziu{k:Nat}:∀{P:List HV},HOk P->RLss k (hrw P)
 | [],_=>by simp [hrw,RLss]
 |p::P,h=>by
  have:=ziu (k:=k) (P:=P) fun q hq=>h q (List.mem_cons_of_mem _ hq)
  simp only [hrw,List.map_cons,RLss]at this ⊢
  exact⟨z6k (z5w (h p List.mem_cons_self)),this⟩
theorem znq{L:List Hash}{P:List HV}{e:Ev}{x y:AV}(hP:HOk P)(hL:L.length<100000)(h:z2n L P=some (e,x,y)):SlV 32 (hr e.a.p) x/\ SlV 32 (hr e.b.p) y/\ EvOk e:=by
 unfold z2n at h
 cases hf:z1p P with
 |some pq=>
  obtain⟨p,q⟩:=pq
  rw [hf]at h
  simp only [Option.some.injEq,Prod.mk.injEq]at h
  obtain⟨rfl,rfl,rfl⟩:=h
  obtain⟨h1,h2,h3,h4⟩:=zcr P hf
  exact⟨hP _ h1,hP _ h2,(z34 h3).2,(z34 h4).2,Nat.zero_lt_succ _⟩
 |none=>
  rw [hf]at h
  simp only at h
  cases ha:z4j L P with
  |none=>rw [ha]at h;cases h
  |some w=>
   rw [ha]at h
   simp only at h
   cases hs:P.find? (splB L w)with
   |none=>rw [hs]at h;cases h
   |some p=>
    rw [hs]at h
    simp only [Option.some.injEq,Prod.mk.injEq]at h
    obtain⟨rfl,rfl,rfl⟩:=h
    have h1:=List.find?_some hs
    have h2:=List.mem_of_find?_eq_some hs
    unfold splB at h1
    simp only [Bool.and_eq_true]at h1
    rcases zaa P none ha with h3| ⟨h3,h4,_⟩
    ·cases h3
    ·have:=zr3 (L.take w.1.n.toNat) p.1.n
     rw [List.length_take]at this
     exact⟨hP _ h2,hP _ h3,(z34 h1.1.1).2,(z34 h4).2,by simp only;omega⟩
attribute [local irreducible] ACallsTo ACallsP
theorem zks(hw:Wf ([]:Store).length [])(P:List HV)(v w:AV)(L:List Hash)(hv:SlV 36 (hrw P) v)(hP:HOk P)(hl:P.length<1000000)(hw':SlV 32 (hr L) w)(hL:L.length<100000)(J:Env)(q1:J 1=w)(q7:J 7=v):
  zW TC 90 0 zdk (endQ 0 [.t 6] (.bool true) []) J []:=by
 have hF:=fun O=>zbv O P v w L hv hP hl hw' (by omega)
 have hF2:=fun O=>zri O P v w L hv hP hl hw' (by omega)
 have hO6:evO.drop 106=[]:=z2y _ _ _ _
 obtain⟨e,x,y,x2,y2,z2,b,e1,e2,hx,hy,hx2,hy2,hz2,ok⟩:∃(e:Ev) (x y x2 y2 z2:AV) (b:Bool),z7v (z2n L P)=.tup [.agg (evX e x y z2),.bool b]/\ z7d (z2n L P)=.tup [.agg (evX e x2 y2 z2),.bool b]/\ SlV 32 (hr e.a.p) x/\ SlV 32 (hr e.b.p) y/\ SlV 32 (hr e.a.p) x2/\ SlV 32 (hr e.b.p) y2/\ SlV 32 (hr e.p) z2/\ EvOk e:=by
  cases h:z2n L P with
  |none=>exact⟨evZ0,.nilsl,.nilsl,.nilsl,.nilsl,.nilsl,false,rfl,rfl,.inl ⟨rfl,rfl⟩,.inl ⟨rfl,rfl⟩,.inl ⟨rfl,rfl⟩,.inl ⟨rfl,rfl⟩,.inl ⟨rfl,rfl⟩,Nat.zero_lt_succ _,Nat.zero_lt_succ _,Nat.zero_lt_succ _⟩
  |some u=>
   obtain⟨e,x,y⟩:=u
   obtain⟨h1,h2,h3⟩:=znq hP hL h
   exact⟨e,_,_,x,y,_,true,rfl,rfl,z3x _ _,z3x _ _,h1,h2,z3x _ _,h3⟩
 have hs:=fun O=>zrh O e e _ _ _ _ _ _ hx hy hz2 ok hx2 hy2 hz2 ok
 rw [zmw]at hs
 rw [e1]at hF
 rw [e2]at hF2
 have hel:=zh e x y z2
 have hel2:=zh e x2 y2 z2
 repeat' (first|apply zs_|apply zb_|apply zc_|apply zt_ rfl|apply zf_ rfl|(apply zd_ rfl<;>intro ht<;>try omega)|((first|apply zr_|apply zk_|apply ze_|apply zq_|(apply callW.mk_pu;(first|exact(fun _=>hF _)|exact(fun _=>hF2 _)|exact(fun _=>hs _)|exact(fun _=>z6a _)))|(apply callW.za;(first|exact(hF _)|exact(hF2 _)|exact(hs _)|exact(z6a _)))|(apply zG<;>intro ht));all_goals try simp (disch:=first|omega|(simp only [lens,z7,z6,lQr,lQm,lQt,lQd,z8,zg,zh,zi,zl,z24,z2i];first|done|omega)) only [go_sem,q1,q7,hel,hel2,hO6,List.append_nil,beq_self_eq_true]))
 all_goals exact DownV.pure (τ:=[]) hw (z18 _ rfl)
attribute [local irreducible] zdk
theorem zkt(R:List RV2)(x:AV)(L:List Hash)(w:AV)(c:Nat)(hx:SlV 37 (rgw R) x)(hR:∀p ∈ R,SlV 32 (hr p.1.p) p.2/\ mOk p.1)(hw':SlV 32 (hr L) w)(hc:c<=255):
  ACallsTo TC 4 [x,w,.int .u8 c] [] (.bool true) []:=by
 have r1:=hx.len
 rw [z2i]at r1
 unfold z1d at r1
 have r2:=hw'.len
 rw [z6]at r2
 unfold z1d at r2
 refine ACallsTo.of_body q1zok (by simp) fun hw _=> ?_
 by_cases h6:(R.length:Int)>6
 ·repeat' (first|apply zs_|apply zb_|apply zc_|apply zt_ rfl|apply zf_ rfl|(apply zd_ rfl<;>intro ht<;>try omega)|((first|apply zr_|apply zk_|apply ze_|apply zq_|(apply callW.mk_pu;(first|exact(fun _=>z6a _)))|(apply callW.za;(first|exact(z6a _)))|(apply zG<;>intro ht));all_goals try simp (disch:=first|omega|(simp only [lens,z7,z6,lQr,lQm,lQt,lQd,z8,zg,zh,zi,zl,z24,z2i];first|done|omega)) only [go_sem,r1,r2,h6]))
  exact DownV.pure (τ:=[]) hw (z18 _ rfl)
 by_cases h30:(L.length:Int)>30
 ·repeat' (first|apply zs_|apply zb_|apply zc_|apply zt_ rfl|apply zf_ rfl|(apply zd_ rfl<;>intro ht<;>try omega)|((first|apply zr_|apply zk_|apply ze_|apply zq_|(apply callW.mk_pu;(first|exact(fun _=>z6a _)))|(apply callW.za;(first|exact(z6a _)))|(apply zG<;>intro ht));all_goals try simp (disch:=first|omega|(simp only [lens,z7,z6,lQr,lQm,lQt,lQd,z8,zg,zh,zi,zl,z24,z2i];first|done|omega)) only [go_sem,r1,r2,h6,h30]))
  exact DownV.pure (τ:=[]) hw (z18 _ rfl)
 repeat' (first|apply zs_|apply zb_|apply zc_|apply zt_ rfl|apply zf_ rfl|(apply zd_ rfl<;>intro ht<;>try omega)|((first|apply zr_|apply zk_|apply ze_|apply zq_|(apply zG<;>intro ht));all_goals try simp (disch:=first|omega|(simp only [lens,z7,z6,lQr,lQm,lQt,lQd,z8,zg,zh,zi,zl,z24,z2i];first|done|omega)) only [go_sem,r1,r2,h6,h30]))
 refine zW.loop (fun m J O'=>∃(i:Nat) (P:List HV) (v7:AV),m+i=R.length/\ P.length=i/\ HOk P/\ OwnR 36 0 O' v7 (hrw P)/\ J 0=x/\ J 1=w/\ J 2=.int .u8 c/\ J 7=v7/\ J 8=.int .i64 i) R.length ?_ ?_
 ·exact⟨0,[],.nilsl,by omega,rfl,by simp [HOk],OwnR.nil,by simp (disch:=first|omega|(simp only [lens,z7,z6,lQr,lQm,lQt,lQd,z8,zg,zh,zi,zl,z24,z2i];first|done|omega)) only [go_sem],by simp (disch:=first|omega|(simp only [lens,z7,z6,lQr,lQm,lQt,lQd,z8,zg,zh,zi,zl,z24,z2i];first|done|omega)) only [go_sem],by simp (disch:=first|omega|(simp only [lens,z7,z6,lQr,lQm,lQt,lQd,z8,zg,zh,zi,zl,z24,z2i];first|done|omega)) only [go_sem],by simp (disch:=first|omega|(simp only [lens,z7,z6,lQr,lQm,lQt,lQd,z8,zg,zh,zi,zl,z24,z2i];first|done|omega)) only [go_sem],by simp (disch:=first|omega|(simp only [lens,z7,z6,lQr,lQm,lQt,lQd,z8,zg,zh,zi,zl,z24,z2i];first|done|omega)) only [go_sem];rfl⟩
 ·rintro m J O' ⟨i,P,v7,hm,hPi,hP,hO,q0,q1,q2,q7,q8⟩
  by_cases hi:i<R.length
  ·have hi':(i:Int)<R.length:=by omega
   obtain⟨ex,rfl⟩:=hx.vsl (by rw [z2i];omega)
   obtain⟨p,hp⟩:∃p,R[i]? =some p:=⟨_,List.getElem?_eq_getElem hi⟩
   obtain⟨hp1,hp2⟩:=hR p (List.mem_of_getElem? hp)
   have hg:=zrx hp
   obtain⟨g,y⟩:=p
   simp only at hp1 hp2 hg
   have hGr:=fun O=>zku O g.n g.i g.m g.r g.s g.p y (.of hp1)
   have hall:=zrw g y
   have hrl:=z2i R
   have hrg:=z24 g y
   rw [show rgC g.n g.r g.i g.s g.m y=rgX g y from rfl]at hGr
   by_cases hgr:300<g.s.length \/40<g.p.length
   ·rw [decide_eq_true hgr]at hGr
    repeat' (first|apply zs_|apply zb_|apply zc_|apply zt_ rfl|apply zf_ rfl|(apply zd_ rfl<;>intro ht<;>try omega)|((first|apply zr_|apply zk_|apply ze_|apply zq_|(apply callW.mk_pu;(first|exact(fun _=>hGr _)|exact(fun _=>z6a _)))|(apply callW.za;(first|exact(hGr _)|exact(z6a _)))|(apply zG<;>intro ht));all_goals try simp (disch:=first|omega|(simp only [lens,z7,z6,lQr,lQm,lQt,lQd,z8,zg,zh,zi,zl,z24,z2i];first|done|omega)) only [go_sem,q0,q1,q2,q7,q8,hi',hg,hall,hrl,hrg]))
    exact DownV.pure (τ:=[]) hw (z18 _ rfl)
   ·rw [decide_eq_false hgr]at hGr
    have hSg:=fun O=>zlb O g.n g.i g.m g.r g.s g.p y hp1 hp2 (by omega)
    rw [show rgC g.n g.r g.i g.s g.m y=rgX g y from rfl,show sgC g.n g.r g.i (sigS g.s (16384+g.m).toNat) y=sgX (sgnR g) y from rfl]at hSg
    obtain⟨u,hu,hu2⟩:∃u:Nat,(c:Int)/2^i=u/\ u<=255:=⟨c/2^i,by rw [Int.natCast_ediv,Int.natCast_pow];rfl,Nat.le_trans (Nat.div_le_self _ _) hc⟩
    obtain⟨b,hb⟩:∃b:Nat,z15 .and .u8 (u:Int) 1=some (.int .u8 (b:Int)):=⟨u &&& 1,by rw [zh2 ⟨by omega,by omega⟩ ⟨by omega,by omega⟩];rfl⟩
    have hsh:z1h .shr .u8 (c:Int) (i:Int)=some (.int .u8 (u:Int)):=by rw [zjn ⟨by omega,by omega⟩,Int.toNat_natCast,hu]
    have hgo:∀(h:Hdr),h.p=g.p->∃v' O2,aApp (O'++ [some [sgX h y]]) 36 v7 [sgX h y]=some (v',O2)/\ OwnR 36 0 O2 v' (hrw (P++ [(h,y)]))/\ HOk (P++ [(h,y)]):=by
     intro h hh
     obtain⟨v',O2,ha,hO2,_⟩:=(hO.more (y:=[some [sgX h y]])).app (ys:=[sgX h y]) (by omega) (by simp) (by rw [zl];simp;omega)
     refine⟨v',O2,ha,by simpa [hrw]using hO2,fun q hq=> ?_⟩
     rcases List.mem_append.1 hq with h1|h1
     ·exact hP q h1
     ·simp only [List.mem_cons,List.not_mem_nil,or_false]at h1
      subst h1
      show SlV 32 (hr h.p) y
      rw [hh];exact hp1
    have hzl:sgZ.length=36:=zg zHd .nilsl
    have hzd:sgZ.drop 36=[]:=z8a zHd .nilsl
    have hsd:=fun(h:Hdr)=>z8a h y
    have hsx:=fun(h:Hdr)=>zg h y
    by_cases hb1:(b:Int)=1
    ·have hRm:((sgnR g).n%32)%((L.length:Int)+1)=(((sgnR g).n%32)%((L.length:Int)+1)).toNat:=by
      have:=Int.emod_nonneg ((sgnR g).n%32) (b:=(L.length:Int)+1) (by omega)
      omega
     have hRl:(((sgnR g).n%32)%((L.length:Int)+1)).toNat<=L.length:=by
      have:=Int.emod_lt_of_pos ((sgnR g).n%32) (b:=(L.length:Int)+1) (by omega)
      omega
     have hL1:¬(L.length:Int)+1=0:=by omega
     have hand:=and31i (sgnR g).n
     generalize hk:(((sgnR g).n%32)%((L.length:Int)+1)).toNat=k at*
     have hRt:=fun O b=>z9e O (L.take k) (.vsl 32 (hr (L.take k)) b) (.of (.inr ⟨b,rfl⟩)) (by rw [List.length_take];omega)
     have hRt0:=fun O=>z9e O [] .nilsl (.of (.inl ⟨rfl,rfl⟩)) (by simp)
     have fk:=z78 L k
     have nlL:(hr L).length=L.length:=z6 L
     rcases hw' with⟨rfl,h0⟩| ⟨b2,rfl⟩
     ·have hLn:L=[]:=hr_nil_iff.1 h0
      subst hLn
      have hk0:k=0:=by simpa using hRl
      subst hk0
      have hm0:(sgnR g).n%32%(((0:Nat):Int)+1)=((0:Nat):Int):=by omega
      obtain⟨v',O2,ha,hO2,hP2⟩:=hgo ⟨((0:Nat):Int),z19 [],(sgnR g).i,(sgnR g).s,(sgnR g).p⟩ rfl
      repeat' (first|apply zs_|apply zb_|apply zc_|apply zt_ rfl|apply zf_ rfl|(apply zd_ rfl<;>intro ht<;>try omega)|((first|apply zr_|apply zk_|apply ze_|apply zq_|(apply callW.mk_pu;(first|exact(fun _=>hGr _)|exact(fun _=>hSg _)|exact(fun _=>hRt0 _)))|(apply callW.za;(first|exact(hGr _)|exact(hSg _)|exact(hRt0 _)))|(apply zG<;>intro ht));all_goals try simp (disch:=first|omega|(simp only [lens,z7,z6,lQr,lQm,lQt,lQd,z8,zg,zh,zi,zl,z24,z2i];first|done|omega)) only [go_sem,q0,q1,q2,q7,q8,hi',hg,hall,hrl,hrg,hsh,hu,hb,hb1,hzl,hzd,hsd,hsx,hand,hm0,hL1,r2,zjc,zjd,ha,List.append_nil,Int.toNat_natCast]))
      exact⟨m-1,by omega,i+1,_,v',by omega,by simp [hPi],hP2,hO2,by simp⟩
     ·obtain⟨v',O2,ha,hO2,hP2⟩:=hgo ⟨(k:Nat),z19 (L.take k),(sgnR g).i,(sgnR g).s,(sgnR g).p⟩ rfl
      repeat' (first|apply zs_|apply zb_|apply zc_|apply zt_ rfl|apply zf_ rfl|(apply zd_ rfl<;>intro ht<;>try omega)|((first|apply zr_|apply zk_|apply ze_|apply zq_|(apply callW.mk_pu;(first|exact(fun _=>hGr _)|exact(fun _=>hSg _)|exact(fun _=>hRt _ _)))|(apply callW.za;(first|exact(hGr _)|exact(hSg _)|exact(hRt _ _)))|(apply zG<;>intro ht));all_goals try simp (disch:=first|omega|(simp only [lens,z7,z6,lQr,lQm,lQt,lQd,z8,zg,zh,zi,zl,z24,z2i];first|done|omega)) only [go_sem,q0,q1,q2,q7,q8,hi',hg,hall,hrl,hrg,hsh,hu,hb,hb1,hzl,hzd,hsd,hsx,hand,hRm,hRl,hL1,r2,fk,nlL,zjc,zjd,ha,List.append_nil,Int.toNat_natCast]))
      exact⟨m-1,by omega,i+1,_,v',by omega,by simp [hPi],hP2,hO2,by simp⟩
    ·obtain⟨v',O2,ha,hO2,hP2⟩:=hgo (sgnR g) rfl
     repeat' (first|apply zs_|apply zb_|apply zc_|apply zt_ rfl|apply zf_ rfl|(apply zd_ rfl<;>intro ht<;>try omega)|((first|apply zr_|apply zk_|apply ze_|apply zq_|(apply callW.mk_pu;(first|exact(fun _=>hGr _)|exact(fun _=>hSg _)))|(apply callW.za;(first|exact(hGr _)|exact(hSg _)))|(apply zG<;>intro ht));all_goals try simp (disch:=first|omega|(simp only [lens,z7,z6,lQr,lQm,lQt,lQd,z8,zg,zh,zi,zl,z24,z2i];first|done|omega)) only [go_sem,q0,q1,q2,q7,q8,hi',hg,hall,hrl,hrg,hsh,hu,hb,hb1,hzl,hzd,hsd,hsx,ha,List.append_nil,Int.toNat_natCast]))
     exact⟨m-1,by omega,i+1,_,v',by omega,by simp [hPi],hP2,hO2,by simp⟩
  ·obtain rfl:i=R.length:=by omega
   repeat' (first|apply zs_|apply zb_|apply zc_|apply zt_ rfl|apply zf_ rfl|(apply zd_ rfl<;>intro ht<;>try omega)|((first|apply zr_|apply zk_|apply ze_|apply zq_|(apply zG<;>intro ht));all_goals try simp (disch:=first|omega|(simp only [lens,z7,z6,lQr,lQm,lQt,lQd,z8,zg,zh,zi,zl,z24,z2i];first|done|omega)) only [go_sem,q0,q1,q2,q7,q8,r1]))
   refine zW.frzAll (τ:=[]) (news:=O') hw [(1,w),(7,zx 36 (hrw P))] ?_ ?_
   ·intro p hp
    simp only [List.mem_cons,List.not_mem_nil,or_false]at hp
    rcases hp with rfl|rfl
    ·simp (disch:=first|omega|(simp only [lens,z7,z6,lQr,lQm,lQt,lQd,z8,zg,zh,zi,zl,z24,z2i];first|done|omega)) only [go_sem,q1]
     exact FrzD.same (z5w hw')
    ·simp (disch:=first|omega|(simp only [lens,z7,z6,lQr,lQm,lQt,lQd,z8,zg,zh,zi,zl,z24,z2i];first|done|omega)) only [go_sem,q7]
     exact hO.frz (Nat.zero_le _) (ziu hP)
   ·exact zks hw P _ w L (z3x _ _) hP (by omega) hw' (by omega) _ rfl rfl
theorem EvidenceFind_law(avs:List AV)(h:z8k [.sl 37 z9f,.sl 32 z44,.int .u8] avs):ACallsTo TC 4 avs [] (.bool true) []:=by
 simp only [z8k]at h
 obtain⟨_,_,rfl,h0,_,_,rfl,h1,_,_,rfl,h2,rfl⟩:=h
 obtain⟨R,hx,hR⟩:=zs0 (by simpa only [Sh]using h0)
 obtain⟨L,hL,_⟩:=hsl_h h1
 simp only [Sh,ShC]at h2
 obtain⟨c,e,c0,c1⟩:=h2
 cases e
 simp only [IntKind.min,IntKind.max,IntKind.signed,IntKind.bits]at c0 c1
 simp at c0 c1
 obtain⟨c,rfl⟩:∃k:Nat,c=k:=⟨c.toNat,by omega⟩
 exact zkt R _ L _ c hx hR hL (by omega)
end
end Am
end Go.Proofs.YtlfpiblipmiobaaDoor
section
/- What a law with the laid tables of sha begins with. -/
namespace Go.Proofs.YtlfpiblipmiobaaDoor.LawDoor
open Go.ChangeShapes Go.WideShapes Go.ChangeAt Go.RowKit
theorem own:ownKnob Tryd.prog.godebug=none:=by kernel_rfl
theorem zp7:laidOutB Tryd.prog=true:=by kernel_rfl
def z99:List (String × DataW Unit):=[("speculum/sha.first",Rows.laid_speculum_sha_first),("speculum/sha.rounds",Rows.laid_speculum_sha_rounds)]
set_option maxRecDepth 100000
theorem zms(os:Os)(args:Array Value):laidMetH Tryd.prog z99 ((World.doorLaid Tryd.prog 400 os).forCall (fun _ _=>0) ⟨#[],args,[]⟩).memory:=
 laidMetH_of_parts3 (fuel:=8) (laidMet_of_run' 8 (by kernel_rfl) (by kernel_rfl)) (by kernel_rfl) (by kernel_rfl)
theorem rel_of{W:World}(h:laidMetH Tryd.prog z99 W):Am.Rel Am.TC [] [] W:=by
 rw [MakeChecks.laidMetH_plain _ _ _ (by kernel_rfl)]at h
 obtain⟨ps,⟨g0,t0,cs0,f0,p0,q0,hg0,ht0,hv0,hd0,⟨g1,t1,cs1,f1,p1,q1,hg1,ht1,hv1,hd1,_,_⟩,_⟩,_,_⟩:=h
 have v0:=Am.vp_of_var (P:=Tryd.prog) (n:= "speculum/sha.first") (g:=0) (t:=151) (e:=149) (m:=8) (k:=.u32) Am.shaFirst (by kernel_rfl) (by kernel_rfl) (by kernel_rfl) (by kernel_rfl) (by kernel_rfl) (by kernel_rfl) hg0 ht0 hv0 hd0
 have v1:=Am.vp_of_var (P:=Tryd.prog) (n:= "speculum/sha.rounds") (g:=1) (t:=150) (e:=149) (m:=64) (k:=.u32) Am.shaRounds (by kernel_rfl) (by kernel_rfl) (by kernel_rfl) (by kernel_rfl) (by kernel_rfl) (by kernel_rfl) hg1 ht1 hv1 hd1
 refine⟨rfl,fun r o h=>by simp at h,fun r h=>by simp at h,fun r r' pl pl' h=>by simp at h,fun g cs h=> ?_⟩
 simp only [Am.TC]at h
 split at h
 ·rename_i hg;subst hg;cases h;exact v0
 ·split at h
  ·rename_i hg;subst hg;cases h;exact v1
  ·cases h
end Go.Proofs.YtlfpiblipmiobaaDoor.LawDoor
end
