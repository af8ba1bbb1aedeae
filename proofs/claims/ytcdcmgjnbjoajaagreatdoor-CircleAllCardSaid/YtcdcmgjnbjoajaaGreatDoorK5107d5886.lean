import Derived.Test.YtcdcmgjnbjoajaaGreatDoorK46df27085
import Derived.Test.YtcdcmgjnbjoajaaGreatDoorK203765d86
import Derived.Test.YtcdcmgjnbjoajaaGreatDoorK38eb71b9d
set_option linter.unusedSimpArgs false
set_option linter.unusedVariables false
open Nat (reduceEqDiff reduceAdd reduceMul reduceSub reduceLeDiff)
open Int (reduceToNat reducePow)
open Nat renaming reduceEqDiff -> nQ1, reduceBEq -> nQ2, reduceAdd -> nQ3, reduceMul -> nQ4, reduceSub -> nQ5, reduceLeDiff -> nQ6
open Int renaming reduceToNat -> nQ7, reducePow -> nQ8
open List renaming length_reverse -> lQr, length_map -> lQm, length_take -> lQt, length_drop -> lQd, length_set -> lQs
set_option maxHeartbeats 16000000
attribute [local go_sem_proc] Nat.reduceEqDiff Nat.reduceBEq Nat.reduceAdd Nat.reduceMul Nat.reduceSub Nat.reduceLeDiff Int.reduceToNat Int.reducePow
namespace Go.Proofs.YtcdcmgjnbjoajaaGreatDoor
namespace Am
section
set_option maxRecDepth 10000
@[go_sem] def zwt:List AIns:=[
 yK 8 .i64 0]
@[go_sem] def zwu:List AIns:=[
 yM 37 8,
 yM 38 0,
 yI 39 (.lenSl (.t 38)),
 yB 40 .lss 37 39]
def zw3:ACode:=.cond (.t 40) .skip (.exit 0)
def zw4:ACode:=.seq (.reg zwu) zw3
@[go_sem] def zwk:List AIns:=[
 yM 43 0,
 yM 44 8,
 yI 45 (.iaSl 4 (.t 43) (.t 44)),
 yL 46 true 4 45,
 yM 47 5,
 yD 48 12 46 47,
 yI 9 (.alloc [(.int .i64 0),(.int .u8 0),(.int .u8 0),(.int .u8 0),(.int .u8 0),(.int .u8 0),(.int .u8 0),(.int .u8 0),(.int .u8 0),(.int .u8 0),(.int .u8 0),(.int .u8 0),(.int .u8 0),(.int .u8 0),(.int .u8 0),(.int .u8 0),(.int .u8 0),(.int .u8 0),(.int .u8 0),(.int .u8 0),(.int .u8 0),(.int .u8 0),(.int .u8 0),(.int .u8 0),(.int .u8 0),(.int .u8 0),(.int .u8 0),(.int .u8 0),(.int .u8 0),(.int .u8 0),(.int .u8 0),(.int .u8 0),(.int .u8 0),(.int .i64 0),(.str []),.nilsl]),
 yS 36 9 48]
@[go_sem] def zwl:List AIns:=[
 yM 49 6,
 yC 50 13 49,
 yM 10 50]
@[go_sem] def zwm:List AIns:=[
 yM 51 6,
 ⟨some 52,none,.rd,.load true 36 (.t 9)⟩,
 ⟨some 53,none,.ef,.call (.v (.fn 14 [])) [(.t 51),(.t 52)]⟩,
 yM 54 7,
 ⟨some 55,none,.rd,.load true 36 (.t 9)⟩,
 yD 56 15 54 55,
 yB 57 .neq 53 56,
 yM 58 57,
 yV 59 58 false 6,
 yV 60 58 false 7,
 yG 61 58 false (.call (.v (.fn 16 [])) [(.t 59),(.t 60)]),
 yG 62 58 false (.un .not (.t 61)),
 yP 63 58 62]
@[go_sem] def zwn:List AIns:=[
 yI 4 (.mv (.v (.bool false)))]
def zw5:ACode:=.seq (.reg zwn) .ret
def zw6:ACode:=.cond (.t 63) zw5 .skip
def zw7:ACode:=.seq (.reg zwm) zw6
@[go_sem] def zwo:List AIns:=[
 yM 64 10,
 yI 65 (.build [(.int .u8 0),(.int .u8 0),(.int .u8 0),(.int .u8 0)] [(0,1,(.v (.int .u8 9))),(1,1,(.v (.int .u8 2))),(2,1,(.v (.int .u8 1))),(3,1,(.v (.int .u8 1)))]),
 yM 66 5,
 yD 67 12 65 66,
 yD 68 14 64 67]
@[go_sem] def zwp:List AIns:=[
 yM 69 6,
 ⟨some 70,none,.rd,.load true 36 (.t 3)⟩,
 ⟨some 71,none,.ef,.call (.v (.fn 14 [])) [(.t 69),(.t 70)]⟩,
 yM 72 7,
 ⟨some 73,none,.rd,.load true 36 (.t 3)⟩,
 yD 74 15 72 73,
 yB 75 .neq 71 74,
 yM 76 75,
 yV 77 76 false 6,
 yV 78 76 false 7,
 yG 79 76 false (.call (.v (.fn 16 [])) [(.t 77),(.t 78)]),
 yG 80 76 false (.un .not (.t 79)),
 yP 81 76 80,
 yM 82 81,
 yV 83 82 false 6,
 yV 84 82 false 6,
 yG 85 82 false (.call (.v (.fn 13 [])) [(.t 84)]),
 yG 86 82 false (.call (.v (.fn 17 [])) [(.t 83),(.t 85)]),
 yG 87 82 false (.un .not (.t 86)),
 yP 88 82 87]
@[go_sem] def zwq:List AIns:=[
 yI 4 (.mv (.v (.bool false)))]
def zw8:ACode:=.seq (.reg zwq) .ret
def zw9:ACode:=.cond (.t 88) zw8 .skip
def zwa:ACode:=.seq (.reg zwp) zw9
def zwb:ACode:=.seq (.reg zwo) zwa
def zwc:ACode:=.seq zw7 zwb
def zwd:ACode:=.seq (.reg zwl) zwc
def zl5:ACode:=.seq (.reg zwk) zwd
@[go_sem] def zwr:List AIns:=[
 yM 41 8,
 yJ 42 .add 41 .i64 1,
 yM 8 42]
def zwe:ACode:=.seq (.block 1 zl5) (.reg zwr)
def zwf:ACode:=.seq zw4 zwe
def zwg:ACode:=.loop zwf
def zwh:ACode:=.block 0 zwg
def zl6:ACode:=.seq (.reg zwt) zwh
@[go_sem] def zws:List AIns:=[
 yI 89 (.call (.v (.fn 8 [])) []),
 yM 4 89]
def zwi:ACode:=.seq (.reg zws) .ret
def zwj:ACode:=.seq zl6 zwi
@[go_sem] def zxa:List AIns:=[
 yM 77 7,
 yI 78 (.un .not (.t 77))]
@[go_sem] def zxb:List AIns:=[
 yM 79 6,
 yL 80 true 36 3,
 yI 81 (.lit 36 [(.t 80)]),
 yI 82 (.app 36 (.t 79) (.t 81)),
 yM 6 82]
def zx5:ACode:=.cond (.t 78) (.reg zxb) .skip
def zx6:ACode:=.seq (.reg zxa) zx5
@[go_sem] def zxc:List AIns:=[
 yM 83 0,
 yM 84 6,
 yI 85 (.nilc (.t 83)),
 yF 86 32 85,
 yS 1 86 84]
@[go_sem] def zxd:List AIns:=[
 yM 87 5,
 yM 4 87]
def zx7:ACode:=.seq (.reg zxd) .ret
def zx8:ACode:=.seq (.reg zxc) zx7
def zx9:ACode:=.seq zx6 zx8
@[go_sem] def zvw:List AIns:=[
 yK 9 .i64 0]
@[go_sem] def zvx:List AIns:=[
 yM 67 9,
 yJ 68 .lss 67 .i64 8]
def zvj:ACode:=.cond (.t 68) .skip (.exit 0)
def zvk:ACode:=.seq (.reg zvx) zvj
@[go_sem] def zvy:List AIns:=[
 yM 71 9,
 yM 72 9,
 yI 73 (.conv (.int .u8) (.t 72)),
 yJ 74 .rem 73 .u8 3,
 yI 75 (.build zZ0 [(0,1,(.t 74)),(1,1,(.v (.int .u8 7)))]),
 yI 76 (.build ((.int .i64 0)::zZ0) [(0,1,(.t 71)),(1,32,(.t 75))]),
 yI 10 (.alloc ((.int .i64 0)::zZ0)),
 yS 33 10 76]
@[go_sem] def zvz:List AIns:=[
 yM 77 0,
 ⟨some 78,none,.rd,.load true 33 (.t 10)⟩,
 ⟨some 79,none,.ef,.call (.v (.fn 30 [])) [(.t 77),(.t 78)]⟩,
 yM 80 1,
 ⟨some 81,none,.rd,.load true 33 (.t 10)⟩,
 yD 82 54 80 81,
 yI 83 (.bin .neq .bool (.t 79) (.t 82))]
@[go_sem] def zw0:List AIns:=[
 yI 4 (.mv (.v (.bool false)))]
def zvl:ACode:=.seq (.reg zw0) .ret
def zvm:ACode:=.cond (.t 83) zvl .skip
def zvn:ACode:=.seq (.reg zvz) zvm
def zvo:ACode:=.seq (.reg zvy) zvn
@[go_sem] def zw1:List AIns:=[
 yM 69 9,
 yJ 70 .add 69 .i64 1,
 yM 9 70]
def zvp:ACode:=.seq (.block 1 zvo) (.reg zw1)
def zvq:ACode:=.seq zvk zvp
def zvr:ACode:=.loop zvq
def zvs:ACode:=.block 0 zvr
def zvt:ACode:=.seq (.reg zvw) zvs
@[go_sem] def zw2:List AIns:=[
 yI 4 (.mv (.v (.bool true)))]
def zvu:ACode:=.seq (.reg zw2) .ret
def zvv:ACode:=.seq zvt zvu
end
section
def reC(key:Hash)(v:AV):List AV:=hc key++ [v]
theorem reC_len(key:Hash)(v:AV):(reC key v).length=33:=by simp [reC,z6]
def PoR(O:Store)(p:Nat)(key:Hash)(P:List Hdr)(own:List Nat):Prop:=
 ∃v sid,own=p::Option.toList sid/\ O[p]? =some (some [reC key v])/\ RowAt 36 O sid v (hdrs P)/\ sid ≠ some p
theorem PoR.lt{O:Store}{p:Nat}{key:Hash}{P:List Hdr}{own:List Nat}(h:PoR O p key P own){j:Nat}(hj:j ∈ own):j<O.length:=by
 obtain⟨v,sid,rfl,hp,hr,_⟩:=h
 simp only [List.mem_cons,Option.mem_toList]at hj
 rcases hj with rfl|h
 ·exact slen hp
 ·exact hr.lt h
theorem PoR.keep{O O':Store}{p:Nat}{key:Hash}{P:List Hdr}{own:List Nat}(h:PoR O p key P own)(hk:∀j,j ∈ own->O'[j]? =O[j]?):PoR O' p key P own:=by
 obtain⟨v,sid,rfl,hp,hr,hn⟩:=h
 exact⟨v,sid,rfl,by rw [hk p (by simp)];exact hp,hr.keep fun q e=>hk q (by simp [e]),hn⟩
theorem PoR.ext{O O':Store}{p:Nat}{key:Hash}{P:List Hdr}{own:List Nat}(h:PoR O p key P own)(he:Ext O O'):PoR O' p key P own:=by
 obtain⟨y,rfl⟩:=he
 exact h.keep fun j hj=>gapp (h.lt hj)
attribute [local irreducible] ACallsTo ACallsP
end
section
theorem zq4(A B:List Hdr):hdrs (A++B)=hdrs A++hdrs B:=by simp [hdrs]
theorem PSort.le{P:List Hdr}(h:PSort P){i j:Nat}(hj:j<P.length)(hij:i<=j):(P[i]'(by omega)).n<=P[j].n:=by
 rcases Nat.lt_or_ge i j with h1|h1
 ·have:=po_neg.1 (h i j (by omega) hj h1)
  omega
 ·obtain rfl:i=j:=by omega
  exact Int.le_refl _
def PoRAddP(O:Store)(p:Nat)(key:Hash)(P:List Hdr)(own:List Nat)(q:Hdr)(a:AV)(O':Store):Prop:=
 a=.int .i64 (addC key P q)/\ ∃own',Fr O O' own own'/\ PoR O' p key (addL key P q) own'
theorem PoRAddP.is{O:Store}{p:Nat}{key:Hash}{P:List Hdr}{own:List Nat}{q:Hdr}(hT:PoR O p key P own):∃a O',PoRAddP O p key P own q a O':=by
 by_cases h:addC key P q=2 \/addC key P q=3
 ·obtain⟨v,sid,rfl,hp,hr,hn⟩:=hT
  have d:=slen hp
  refine⟨_,O.set p (some [reC key (.sl O.length 0 (insL P q).length none 36)])++ [some (hdrs (insL P q))],rfl,p::Option.toList (some O.length),⟨fun j hj hn=> ?_,fun j hj=> ?_,by simp⟩,?_⟩
  ·rw [gapp (by simpa using hj),z1g (fun e=>hn (by simp [e]))]
  ·simp only [List.mem_cons,Option.mem_toList,Option.some.injEq]at hj ⊢
   rcases hj with h|h
   ·exact .inl (.inl h)
   ·exact .inr (by omega)
  ·unfold addL
   rw [if_pos h]
   exact⟨_,some O.length,rfl,by rw [gapp (by simpa using d),z1y d],.inr ⟨O.length,rfl,fun e=>by have:=congrArg List.length e;rw [z8,z7o]at this;simp at this,by rw [z8],by rw [z1a (by simp)];simp⟩,fun e=>by injection e with e;omega⟩
 ·exact⟨_,O,rfl,own,.ext (.refl _),by unfold addL;rw [if_neg h];exact hT⟩
attribute [local irreducible] ACallsTo ACallsP
attribute [local irreducible] zx9
end
section
theorem zgg{key:Hash}{P:List Hdr}{q:Hdr}(h:addC key P q=2 \/addC key P q=3):z1i key q.n q.i q.r q.s q.p=0/\ isP P q.n q.r=false/\ P.length<16:=by
 unfold addC at h
 by_cases h0:z1i key q.n q.i q.r q.s q.p ≠ 0
 ·rw [if_pos h0]at h;omega
 rw [if_neg h0]at h
 cases h1:isP P q.n q.r with
 |true=>rw [h1,if_pos rfl]at h;omega
 |false=>
  rw [h1,if_neg (by simp)]at h
  by_cases h2:16<=P.length
  ·rw [if_pos h2]at h;omega
  ·exact⟨by omega,rfl,by omega⟩
theorem zms{key:Hash}{P:List Hdr}(q:Hdr)(h:P.length<=16):(addL key P q).length<=16:=by
 unfold addL
 by_cases h1:addC key P q=2 \/addC key P q=3
 ·rw [if_pos h1,z7o];have:=(zgg h1).2.2;omega
 ·rw [if_neg h1];exact h
theorem insL_mem{P:List Hdr}{q w:Hdr}:w ∈ insL P q ↔ w=q \/w ∈ P:=by
 unfold insL
 rw [List.mem_append,List.mem_cons]
 constructor
 ·rintro(h|h|h)
  ·exact .inr (List.mem_of_mem_take h)
  ·exact .inl h
  ·exact .inr (List.mem_of_mem_drop h)
 ·rintro(h|h)
  ·exact .inr (.inl h)
  ·rw [<-List.take_append_drop (lbP P q.n q.r) P]at h
   rcases List.mem_append.1 h with h1|h1
   ·exact .inl h1
   ·exact .inr (.inr h1)
theorem zgi{key:Hash}{P:List Hdr}{q w:Hdr}(h:w ∈ addL key P q):w ∈ P \/(w=q/\ z1i key q.n q.i q.r q.s q.p=0):=by
 unfold addL at h
 by_cases h1:addC key P q=2 \/addC key P q=3
 ·rw [if_pos h1]at h
  rcases insL_mem.1 h with h2|h2
  ·exact .inr ⟨h2,(zgg h1).1⟩
  ·exact .inl h2
 ·rw [if_neg h1]at h;exact .inl h
structure POk(key:Hash)(P:List Hdr):Prop where
 sort:PSort P
 len:P.length<=16
 chk:∀q ∈ P,z1i key q.n q.i q.r q.s q.p=0
theorem POk.nil(key:Hash):POk key []:=⟨PSort.nil,by simp,by simp⟩
theorem POk.add{key:Hash}{P:List Hdr}(h:POk key P)(q:Hdr):POk key (addL key P q):=
 ⟨zmu h.sort q,zms q h.len,fun w hw=>by rcases zgi hw with h1| ⟨rfl,h1⟩;exact h.chk w h1;exact h1⟩
theorem POk.path{key:Hash}{P:List Hdr}(h:POk key P):∀q ∈ P,q.p.length<1000000:=fun q hq=>by have:=zdd (h.chk q hq);omega
theorem zak{key:Hash}{q:Hdr}(h:z1i key q.n q.i q.r q.s q.p=0):q.p ≠ []:=fun e=>by have:=zdd h;rw [e]at this;simp at this
theorem PoIs.has{O:Store}{p:Nat}{key:Hash}{P:List Hdr}{own:List Nat}(h:PoIs O p key P own)(hs:PSort P)(hl:P.length<1000000)(m:Int)(k:Hash):ACallsTo TC 30 [.ptr p 0 0,.agg (.int .i64 m::hc k)] O (.bool (isP P m k)) O:=by
 obtain⟨v,sid,rfl,hp,hr1,hn⟩:=h
 exact ztm O p key v sid P m k hp hr1 hs hl
attribute [local irreducible] ACallsTo ACallsP
attribute [local irreducible] zvv
end
section
theorem Fr.dj{O O':Store}{o1 o1' o2:List Nat}(h:Fr O O' o1 o1')(hl:∀j,j ∈ o2->j<O.length)(hd:∀j,j ∈ o1->j ∉ o2):∀j,j ∈ o1'->j ∉ o2:=fun j hj h2=>by
 rcases h.new j hj with h3|h3
 ·exact hd j h3 h2
 ·have:=hl j h2;omega
theorem PoIs.fr{O O':Store}{p:Nat}{key:Hash}{P:List Hdr}{o ox ox':List Nat}(h:PoIs O p key P o)(hf:Fr O O' ox ox')(hd:∀j,j ∈ ox->j ∉ o):PoIs O' p key P o:=
 h.keep fun j hj=>hf.st j (h.lt hj) fun e=>hd j e hj
theorem PoR.fr{O O':Store}{p:Nat}{key:Hash}{P:List Hdr}{o ox ox':List Nat}(h:PoR O p key P o)(hf:Fr O O' ox ox')(hd:∀j,j ∈ ox->j ∉ o):PoR O' p key P o:=
 h.keep fun j hj=>hf.st j (h.lt hj) fun e=>hd j e hj
structure PlS(O:Store)(key:Hash)(P:List Hdr)(raw tr:List AV)(pp rp:Nat)(o1 o2:List Nat):Prop where
 p:PoIs O pp key P o1
 r:PoR O rp key P o2
 d:∀j,j ∈ o1->j ∉ o2
 n0:0 ∉ o1/\ 0 ∉ o2
 n1:1 ∉ o1/\ 1 ∉ o2
 g0:O[0]? =some (some [raw])
 g1:O[1]? =some (some [tr])
 ok:POk key P
theorem PlS.ext{O O':Store}{key:Hash}{P:List Hdr}{raw tr:List AV}{pp rp:Nat}{o1 o2:List Nat}(h:PlS O key P raw tr pp rp o1 o2)(he:Ext O O'):PlS O' key P raw tr pp rp o1 o2:=by
 have g0:=h.g0
 have g1:=h.g1
 refine⟨h.p.ext he,h.r.ext he,h.d,h.n0,h.n1,?_,?_,h.ok⟩
 ·obtain⟨y,rfl⟩:=he;rw [gapp (slen g0)];exact g0
 ·obtain⟨y,rfl⟩:=he;rw [gapp (slen g1)];exact g1
theorem PlS.other{O O':Store}{key:Hash}{P:List Hdr}{raw tr:List AV}{pp rp:Nat}{o1 o2 ox ox':List Nat}(h:PlS O key P raw tr pp rp o1 o2)(hf:Fr O O' ox ox')(h1:∀j,j ∈ ox->j ∉ o1)(h2:∀j,j ∈ ox->j ∉ o2)(h3:0 ∉ ox)(h4:1 ∉ ox):PlS O' key P raw tr pp rp o1 o2:=
 ⟨h.p.fr hf h1,h.r.fr hf h2,h.d,h.n0,h.n1,hf.get h.g0 h3,hf.get h.g1 h4,h.ok⟩
theorem PlS.add{O O2 O3:Store}{key:Hash}{P:List Hdr}{raw tr:List AV}{pp rp:Nat}{o1 o2 o1' o2':List Nat}{q:Hdr}(h:PlS O key P raw tr pp rp o1 o2)(f1:Fr O O2 o1 o1')(P1:PoIs O2 pp key (addL key P q) o1')(f2:Fr O2 O3 o2 o2')(R1:PoR O3 rp key (addL key P q) o2'):
  PlS O3 key (addL key P q) raw tr pp rp o1' o2'/\ (∀j o,O[j]? =some o->j ∉ o1->j ∉ o2->O3[j]? =some o/\ j ∉ o1'/\ j ∉ o2'):=by
 have d1:∀j,j ∈ o1'->j ∉ o2:=f1.dj (fun j hj=>h.r.lt hj) h.d
 have d2:∀j,j ∈ o2'->j ∉ o1':=f2.dj (fun j hj=>P1.lt hj) fun j hj hn=>d1 j hn hj
 have oth:∀j o,O[j]? =some o->j ∉ o1->j ∉ o2->O3[j]? =some o/\ j ∉ o1'/\ j ∉ o2':=fun j o hj h1 h2=>by
  have k1:=f1.nin (slen hj) h1
  have e1:=f1.get hj h1
  exact⟨f2.get e1 h2,k1,f2.nin (slen e1) h2⟩
 obtain⟨a0,b0,c0⟩:=oth 0 _ h.g0 h.n0.1 h.n0.2
 obtain⟨a1,b1,c1⟩:=oth 1 _ h.g1 h.n1.1 h.n1.2
 exact⟨⟨P1.fr f2 fun j hj hn=>d1 j hn hj,R1,fun j hj hn=>d2 j hn hj,⟨b0,c0⟩,⟨b1,c1⟩,a0,a1,h.ok.add q⟩,oth⟩
abbrev Sn:=Nat × Nat × Nat × Nat
def snC(s:Sn):List AV:=[.int .u8 s.1,.int .u8 s.2.1,.int .u8 s.2.2.1,.int .u8 s.2.2.2]
def sns(L:List Sn):List (List AV):=L.map snC
theorem zu(L:List Sn):(sns L).length=L.length:=by simp [sns]
theorem zvi{L:List Sn}{i:Nat}(h:i<L.length):(sns L)[i]? =some (snC L[i]):=by simp [sns,List.getElem?_eq_getElem h]
def SnOk(s:Sn):Prop:=s.1<256/\ s.2.1<256/\ s.2.2.1<256/\ s.2.2.2<256
def snH(seed:List UInt8)(s:Sn):Hdr:=z3l seed s.1 s.2.1 s.2.2.1 s.2.2.2
attribute [local irreducible] ACallsTo ACallsP
end
section
def z9d:Ty:=.row [.int .u8,.int .u8,.int .u8,.int .u8]
theorem zvg{cs:List AV}(h:ShC z9d cs):∃s:Sn,cs=snC s/\ SnOk s:=by
 simp only [z9d,ShC,z61]at h
 obtain⟨A1,B1,rfl,⟨a,rfl,a0,a1⟩,A2,B2,rfl,⟨b,rfl,b0,b1⟩,A3,B3,rfl,⟨c,rfl,c0,c1⟩,A4,B4,rfl,⟨d,rfl,d0,d1⟩,rfl⟩:=h
 simp only [IntKind.min,IntKind.max,IntKind.signed,IntKind.bits]at a0 a1 b0 b1 c0 c1 d0 d1
 simp at a0 a1 b0 b1 c0 c1 d0 d1
 obtain⟨a,rfl⟩:∃k:Nat,a=k:=⟨a.toNat,by omega⟩
 obtain⟨b,rfl⟩:∃k:Nat,b=k:=⟨b.toNat,by omega⟩
 obtain⟨c,rfl⟩:∃k:Nat,c=k:=⟨c.toNat,by omega⟩
 obtain⟨d,rfl⟩:∃k:Nat,d=k:=⟨d.toNat,by omega⟩
 exact⟨(a,b,c,d),rfl,⟨by show a<256;omega,by show b<256;omega,by show c<256;omega,by show d<256;omega⟩⟩
theorem zvh{x:AV}(h:ShC (.sl 4 z9d) [x]):∃L:List Sn,SlV 4 (sns L) x/\ L.length<=maxLen/\ ∀s ∈ L,SnOk s:=by
 simp only [ShC]at h
 rcases h with h| ⟨es,h,hl,_,h2⟩
 ·cases h
  exact⟨[],.inl ⟨rfl,rfl⟩,Nat.zero_le _,by simp⟩
 ·cases h
  have:∀es:List (List AV),(∀x ∈ es,ShC z9d x)->∃L:List Sn,es=sns L/\ ∀s ∈ L,SnOk s:=by
   intro es
   induction es with
   |nil=>intro _;exact⟨[],rfl,by simp⟩
   |cons e es ih=>
    intro h
    obtain⟨s,rfl,hs⟩:=zvg (h e (by simp))
    obtain⟨L,rfl,hL⟩:=ih fun x hx=>h x (by simp [hx])
    exact⟨s::L,rfl,fun z hz=>by rcases List.mem_cons.1 hz with rfl|h;exact hs;exact hL z h⟩
  obtain⟨L,rfl,hL⟩:=this es h2
  exact⟨L,.inr ⟨false,rfl⟩,by rwa [zu]at hl,hL⟩
attribute [local irreducible] ACallsTo ACallsP zl5 zl6
attribute [local irreducible] zwj
end
section
def z17(P:List Hdr)(n:Int)(r:Hash):Prop:=∃w ∈ P,w.n=n/\ w.r=r
theorem zcf{key:Hash}{P:List Hdr}(q:Hdr)(hP:POk key P)(hq:z1i key q.n q.i q.r q.s q.p=0)(hl:P.length<16):
  addC key P q ≠ 0/\ (addL key P q).length<=P.length+1/\ ∀n r,z17 (addL key P q) n r ↔ z17 P n r \/(q.n=n/\ q.r=r):=by
 cases h1:isP P q.n q.r with
 |true=>
  have hc:addC key P q=1:=by unfold addC;rw [if_neg (by omega),if_pos h1]
  have hL:addL key P q=P:=by unfold addL;rw [hc,if_neg (by omega)]
  rw [hc,hL]
  refine⟨by omega,by omega,fun n r=>⟨.inl,fun h=> ?_⟩⟩
  rcases h with h| ⟨rfl,rfl⟩
  ·exact h
  ·exact(z8w hP.sort _ _).1 h1
 |false=>
  have hc:addC key P q=if z2p (insL P q) (lbP P q.n q.r) q.n then 3 else 2:=by unfold addC;rw [if_neg (by omega),if_neg (by rw [h1];simp),if_neg (by omega)]
  have hL:addL key P q=insL P q:=by unfold addL;rw [hc];split<;>simp
  rw [hL]
  refine⟨by rw [hc];split<;>omega,by rw [z7o];omega,fun n r=>⟨fun⟨w,hw,h2⟩=> ?_,fun h=> ?_⟩⟩
  ·rcases insL_mem.1 hw with rfl|h3
   ·exact .inr h2
   ·exact .inl ⟨w,h3,h2⟩
  ·rcases h with⟨w,hw,h2⟩|h2
   ·exact⟨w,insL_mem.2 (.inr hw),h2⟩
   ·exact⟨q,insL_mem.2 (.inl rfl),h2⟩
theorem PSort.head{q:Hdr}{P:List Hdr}(h:PSort (q::P)){w:Hdr}(hw:w ∈ P):poI q.n q.r w.n w.r<0:=by
 obtain⟨j,hj,rfl⟩:=List.getElem_of_mem hw
 exact h 0 (j+1) (by simp) (by simp;omega) (by omega)
theorem zig:∀{P Q:List Hdr},PSort P->PSort Q->(∀n r,z17 P n r ↔ z17 Q n r)->hns P=hns Q
 | [],[],_,_,_=>rfl
 | [],q::Q,_,_,h=>by
  have:=(h q.n q.r).2 ⟨q,by simp,rfl,rfl⟩
  obtain⟨w,hw,_⟩:=this
  simp at hw
 |p::P,[],_,_,h=>by
  have:=(h p.n p.r).1 ⟨p,by simp,rfl,rfl⟩
  obtain⟨w,hw,_⟩:=this
  simp at hw
 |p::P,q::Q,hP,hQ,h=>by
  have e:p.n=q.n/\ p.r=q.r:=by
   obtain⟨w,hw,w1,w2⟩:=(h p.n p.r).1 ⟨p,by simp,rfl,rfl⟩
   obtain⟨u,hu,u1,u2⟩:=(h q.n q.r).2 ⟨q,by simp,rfl,rfl⟩
   rcases List.mem_cons.1 hw with rfl|hw
   ·exact⟨w1.symm,w2.symm⟩
   ·rcases List.mem_cons.1 hu with rfl|hu
    ·exact⟨u1,u2⟩
    ·have a:=hQ.head hw
     have b:=hP.head hu
     rw [w1,w2]at a
     rw [u1,u2,zjy]at b
     omega
  have ih:=zig hP.tail hQ.tail fun n r=>by
   constructor
   ·rintro⟨w,hw,w1,w2⟩
    obtain⟨u,hu,u1,u2⟩:=(h n r).1 ⟨w,by simp [hw],w1,w2⟩
    rcases List.mem_cons.1 hu with rfl|hu
    ·have a:=hP.head hw
     rw [w1,w2,<-u1,<-u2,e.1,e.2]at a
     have:poI u.n u.r u.n u.r=0:=po_zero.2 ⟨rfl,rfl⟩
     omega
    ·exact⟨u,hu,u1,u2⟩
   ·rintro⟨w,hw,w1,w2⟩
    obtain⟨u,hu,u1,u2⟩:=(h n r).2 ⟨w,by simp [hw],w1,w2⟩
    rcases List.mem_cons.1 hu with rfl|hu
    ·have a:=hQ.head hw
     rw [w1,w2,<-u1,<-u2,<-e.1,<-e.2]at a
     have:poI u.n u.r u.n u.r=0:=po_zero.2 ⟨rfl,rfl⟩
     omega
    ·exact⟨u,hu,u1,u2⟩
  unfold hns at ih ⊢
  rw [List.map_cons,List.map_cons,ih,e.1,e.2]
theorem zhz{P:List Hdr}{o:Option Nat}(hP:PSort P)(ho:ForkIs P o):o.isSome=true ↔ ∃x ∈ P,∃y ∈ P,x.n=y.n/\ x.r ≠ y.r:=by
 cases o with
 |some j=>
  obtain⟨h1,h2,h3⟩:=ho
  refine⟨fun _=>⟨P[j],List.getElem_mem _,P[j+1],List.getElem_mem _,?_,fun e=> ?_⟩,fun _=>rfl⟩
  ·rw [List.getElem?_eq_getElem (by omega),List.getElem?_eq_getElem h1]at h2
   exact Option.some.inj h2
  ·rw [List.getElem?_eq_getElem (by omega),List.getElem?_eq_getElem h1]at h2
   have h4:P[j].n=P[j+1].n:=Option.some.inj h2
   have:=hP j (j+1) (by omega) h1 (by omega)
   have:=po_zero.2 ⟨h4,e⟩
   omega
 |none=>
  refine⟨fun h=>by simp at h,?_⟩
  rintro⟨x,hx,y,hy,h1,h2⟩
  exfalso
  obtain⟨a,ha,rfl⟩:=List.getElem_of_mem hx
  obtain⟨b,hb,rfl⟩:=List.getElem_of_mem hy
  have key:∀a b (ha:a<P.length) (hb:b<P.length),a<b->P[a].n=P[b].n->False:=by
   intro a b ha hb hab he
   have l1:=hP.le (i:=a) (j:=a+1) (by omega) (by omega)
   have l2:=hP.le (i:=a+1) (j:=b) hb (by omega)
   refine ho a (by omega) ?_
   rw [List.getElem?_eq_getElem ha,List.getElem?_eq_getElem (by omega)]
   simp only [Option.map_some]
   congr 1
   omega
  rcases Nat.lt_trichotomy a b with h|h|h
  ·exact key a b ha hb h h1
  ·subst h;exact h2 rfl
  ·exact key b a hb ha h h1.symm
end
section
set_option maxRecDepth 10000
def q1zr0:yW:=[
 yI 3 (.box (.t 1)),
 yK 4 .i64 0]
def q1zr1:yW:=[
 yM 6 0,
 yC 7 111 6,
 yM 5 7]
def q1zr2:yW:=[
 yK 4 .i64 1]
def q1zc3:yX:=yq q1zr2 .ret
def q1zr4:yW:=[
 yF 9 0 3,
 yL 10 false 1 9,
 yJ 11 .lss 10 .i64 0,
 yM 12 11,
 yT 13 12 false 0 3,
 ⟨some 14,some (12,false),.rd,.load false 1 (.t 13)⟩,
 yV 15 12 false 0,
 yG 16 12 false (.nilc (.t 15)),
 yT 17 12 false 0 16,
 ⟨some 18,some (12,false),.rd,.load false 1 (.t 17)⟩,
 yG 19 12 false (.bin .geq .none (.t 14) (.t 18)),
 yP 20 12 19,
 yM 21 20,
 yT 22 21 false 1 3,
 yU 23 21 false false 1 22,
 yG 24 21 false (.bin .lss .none (.t 23) (.v (.int .i64 0))),
 yP 25 21 24,
 yM 26 25,
 yT 27 26 false 1 3,
 ⟨some 28,some (26,false),.rd,.load false 1 (.t 27)⟩,
 yV 29 26 false 0,
 yG 30 26 false (.nilc (.t 29)),
 yT 31 26 false 0 30,
 ⟨some 32,some (26,false),.rd,.load false 1 (.t 31)⟩,
 yG 33 26 false (.bin .geq .none (.t 28) (.t 32)),
 yP 34 26 33,
 yM 35 34,
 yT 36 35 false 0 3,
 ⟨some 37,some (35,false),.rd,.load false 1 (.t 36)⟩,
 yT 38 35 false 1 3,
 ⟨some 39,some (35,false),.rd,.load false 1 (.t 38)⟩,
 yG 40 35 false (.bin .eql .none (.t 37) (.t 39)),
 yP 41 35 40,
 yM 8 41]
def q1zr5:yW:=[
 yK 4 .i64 2]
def q1zc6:yX:=yq q1zr5 .ret
def q1zr7:yW:=[
 yF 43 2 3,
 yL 44 false 1 43,
 yI 45 (.lenStr (.t 44)),
 yJ 46 .gtr 45 .i64 65536,
 yM 42 46]
def q1zr8:yW:=[
 yK 4 .i64 3]
def q1zc9:yX:=yq q1zr8 .ret
def q1zr10:yW:=[
 yM 48 0,
 yI 49 (.nilc (.t 48)),
 yF 50 1 49,
 yL 51 false 1 50,
 yI 52 (.lenSl (.t 51)),
 yJ 53 .geq 52 .i64 200,
 yM 47 53]
def q1zr11:yW:=[
 yK 4 .i64 60]
def q1zc12:yX:=yq q1zr11 .ret
def q1zc13:yX:=.cond (.t 47) q1zc12 .skip
def q1zc14:yX:=yq q1zr10 q1zc13
def q1zc15:yX:=.cond (.t 42) q1zc9 q1zc14
def q1zc16:yX:=yq q1zr7 q1zc15
def q1zc17:yX:=.cond (.t 8) q1zc6 q1zc16
def q1zc18:yX:=yq q1zr4 q1zc17
def q1zc19:yX:=.cond (.t 5) q1zc3 q1zc18
def q1zc20:yX:=yq q1zr1 q1zc19
def q1zr21:yW:=[
 yM 54 0,
 yM 55 0,
 yI 56 (.nilc (.t 55)),
 yF 57 1 56,
 ⟨some 58,none,.rd,.load false 1 (.t 57)⟩,
 ⟨some 59,none,.rd,.load true 3 (.t 3)⟩,
 yI 60 (.lit 3 [(.t 59)]),
 yI 61 (.app 3 (.t 58) (.t 60)),
 yI 62 (.nilc (.t 54)),
 yF 63 1 62,
 yS 1 63 61]
def q1zr22:yW:=[
 yK 4 .i64 0]
def q1zc23:yX:=yq q1zr22 .ret
def q1zc24:yX:=yq q1zr21 q1zc23
def q1zc25:yX:=.seq (.block 0 q1zc20) q1zc24
def q1zc26:yX:=yq q1zr0 q1zc25
attribute [go_sem] q1zr0 q1zr1 q1zr2 q1zr4 q1zr5 q1zr7 q1zr8 q1zr10 q1zr11 q1zr21 q1zr22
theorem q1zok:cFn TC 66=some (64,[.t 4],q1zc26):=by kernel_rfl
def q20r0:yW:=[
 yI 4 (.alloc [(.int .i64 0),(.int .i64 0),(.str [])]),
 yK 5 .i64 0]
def q20r1:yW:=[
 yM 8 0,
 yM 9 1,
 yD 10 112 8 9,
 yM 6 10]
def q20r2:yW:=[
 yM 11 6,
 yJ 12 .neq 11 .i64 0]
def q20r3:yW:=[
 yI 13 (.build [(.int .i64 0),(.int .i64 0),(.str [])] []),
 yM 14 6,
 yS 3 4 13,
 yM 5 14]
def q20c4:yX:=yq q20r3 .ret
def q20c5:yX:=.cond (.t 12) q20c4 .skip
def q20c6:yX:=yq q20r2 q20c5
def q20c7:yX:=yq q20r1 q20c6
def q20r8:yW:=[
 yM 15 0,
 yI 16 (.nilc (.t 15)),
 yF 17 1 16,
 yL 18 false 1 17,
 yM 19 1,
 yI 20 (.iaSl 3 (.t 18) (.t 19)),
 yL 21 true 3 20,
 yI 7 (.alloc [(.int .i64 0),(.int .i64 0),(.str [])]),
 yS 3 7 21]
def q20r9:yW:=[
 yM 22 0,
 yM 23 0,
 yI 24 (.nilc (.t 23)),
 yF 25 1 24,
 yL 26 false 1 25,
 yM 27 1,
 yM 28 1,
 yJ 29 .add 28 .i64 1,
 yI 30 (.call (.v (.fn 113 [])) [(.t 26),(.t 27),(.t 29)]),
 yI 31 (.nilc (.t 22)),
 yF 32 1 31,
 yS 1 32 30]
def q20r10:yW:=[
 yL 33 true 3 7,
 yS 3 4 33,
 yK 5 .i64 0]
def q20c11:yX:=yq q20r10 .ret
def q20c12:yX:=yq q20r9 q20c11
def q20c13:yX:=yq q20r8 q20c12
def q20c14:yX:=.seq q20c7 q20c13
def q20c15:yX:=yq q20r0 q20c14
attribute [go_sem] q20r0 q20r1 q20r2 q20r3 q20r8 q20r9 q20r10
theorem q20ok:cFn TC 67=some (34,[.c 4 true 3,.t 5],q20c15):=by kernel_rfl
def q21r0:yW:=[
 yI 2 (.mv (.v .nilsl))]
def q21r1:yW:=[
 yM 3 0,
 yC 4 111 3]
def q21r2:yW:=[
 yI 2 (.mv (.v .nilsl))]
def q21c3:yX:=yq q21r2 .ret
def q21c4:yX:=.cond (.t 4) q21c3 .skip
def q21c5:yX:=yq q21r1 q21c4
def q21r6:yW:=[
 yM 5 0,
 yI 6 (.nilc (.t 5)),
 yF 7 1 6,
 yL 8 false 1 7,
 yI 9 (.app 3 (.v .nilsl) (.t 8)),
 yM 2 9]
def q21c7:yX:=yq q21r6 .ret
def q21c8:yX:=.seq q21c5 q21c7
def q21c9:yX:=yq q21r0 q21c8
attribute [go_sem] q21r0 q21r1 q21r2 q21r6
theorem q21ok:cFn TC 71=some (10,[.t 2],q21c9):=by kernel_rfl
def q22r0:yW:=[
 yI 2 (.mv (.v .nilp)),
 yK 3 .i64 0]
def q22r1:yW:=[
 yM 4 0,
 yJ 5 .lss 4 .i64 1,
 yM 6 5,
 yV 7 6 false 0,
 yG 8 6 false (.bin .gtr .none (.t 7) (.v (.int .i64 32))),
 yP 9 6 8]
def q22r2:yW:=[
 yI 2 (.mv (.v .nilp)),
 yK 3 .i64 2]
def q22c3:yX:=yq q22r2 .ret
def q22c4:yX:=.cond (.t 9) q22c3 .skip
def q22c5:yX:=yq q22r1 q22c4
def q22r6:yW:=[
 yM 10 0,
 yI 11 (.build [(.int .i64 0),.nilsl] [(0,1,(.t 10))]),
 yI 12 (.box (.t 11)),
 yM 2 12,
 yK 3 .i64 0]
def q22c7:yX:=yq q22r6 .ret
def q22c8:yX:=.seq q22c5 q22c7
def q22c9:yX:=yq q22r0 q22c8
attribute [go_sem] q22r0 q22r1 q22r2 q22r6
theorem q22ok:cFn TC 72=some (13,[.t 2,.t 3],q22c9):=by kernel_rfl
def q23r0:yW:=[
 yI 2 (.mv (.v (.bool false)))]
def q23r1:yW:=[
 yM 3 0,
 yI 4 (.bin .eql .ptr (.t 3) (.v .nilp)),
 yM 5 4,
 yV 6 5 false 0,
 yG 7 5 false (.nilc (.t 6)),
 yT 8 5 false 0 7,
 yU 9 5 false false 1 8,
 yG 10 5 false (.bin .eql .none (.t 9) (.v (.int .i64 0))),
 yP 11 5 10,
 yM 2 11]
def q23c2:yX:=yq q23r1 .ret
def q23c3:yX:=yq q23r0 q23c2
attribute [go_sem] q23r0 q23r1
theorem q23ok:cFn TC 111=some (12,[.t 2],q23c3):=by kernel_rfl
def q24r0:yW:=[
 yK 4 .i64 0]
def q24r1:yW:=[
 yM 6 0,
 yC 7 111 6,
 yM 5 7]
def q24r2:yW:=[
 yK 4 .i64 1]
def q24c3:yX:=yq q24r2 .ret
def q24r4:yW:=[
 yM 9 1,
 yJ 10 .lss 9 .i64 0,
 yM 11 10,
 yV 12 11 false 1,
 yV 13 11 false 0,
 yG 14 11 false (.nilc (.t 13)),
 yT 15 11 false 1 14,
 yU 16 11 false false 1 15,
 yG 17 11 false (.lenSl (.t 16)),
 yG 18 11 false (.bin .geq .none (.t 12) (.t 17)),
 yP 19 11 18,
 yM 8 19]
def q24r5:yW:=[
 yK 4 .i64 4]
def q24c6:yX:=yq q24r5 .ret
def q24c7:yX:=.cond (.t 8) q24c6 .skip
def q24c8:yX:=yq q24r4 q24c7
def q24c9:yX:=.cond (.t 5) q24c3 q24c8
def q24c10:yX:=yq q24r1 q24c9
def q24r11:yW:=[
 yK 4 .i64 0]
def q24c12:yX:=yq q24r11 .ret
def q24c13:yX:=.seq (.block 0 q24c10) q24c12
def q24c14:yX:=yq q24r0 q24c13
attribute [go_sem] q24r0 q24r1 q24r2 q24r4 q24r5 q24r11
theorem q24ok:cFn TC 112=some (20,[.t 4],q24c14):=by kernel_rfl
def q25r0:yW:=[
 yI 6 (.mv (.v .nilsl))]
def q25r1:yW:=[
 yM 8 0,
 yM 9 1,
 yM 10 2,
 yM 11 0,
 yI 12 (.lenSl (.t 11)),
 yI 13 (.slice (.sl 3) (.t 8) (some (.t 9)) (some (.t 10)) (some (.t 12)))]
def q25r2:yW:=[
 yM 14 1,
 yM 15 2,
 yB 16 .eql 14 15]
def q25r3:yW:=[
 yM 17 0,
 yM 6 17]
def q25c4:yX:=yq q25r3 .ret
def q25c5:yX:=.cond (.t 16) q25c4 .skip
def q25c6:yX:=yq q25r2 q25c5
def q25r7:yW:=[
 yM 18 0,
 yI 19 (.lenSl (.t 18)),
 yM 7 19]
def q25r8:yW:=[
 yM 20 0,
 yM 21 1,
 yI 22 (.slice (.sl 3) (.t 20) none (some (.t 21)) none),
 yM 23 0,
 yM 24 2,
 yI 25 (.slice (.sl 3) (.t 23) (some (.t 24)) none none),
 yI 26 (.app 3 (.t 22) (.t 25)),
 yM 0 26]
def q25r9:yW:=[
 yM 27 0,
 yM 28 0,
 yI 29 (.lenSl (.t 28)),
 yM 30 7,
 yI 31 (.slice (.sl 3) (.t 27) (some (.t 29)) (some (.t 30)) none),
 ⟨none,none,.no,.clear [(.int .i64 0),(.int .i64 0),(.str [])] (.t 31)⟩]
def q25r10:yW:=[
 yM 32 0,
 yM 6 32]
def zbf:ACode:=.seq (.reg q25r10) .ret
def q25c12:yX:=yq q25r9 zbf
def q25c13:yX:=yq q25r8 q25c12
def q25c14:yX:=yq q25r7 q25c13
def q25c15:yX:=.seq q25c6 q25c14
def q25c16:yX:=yq q25r1 q25c15
def q25c17:yX:=yq q25r0 q25c16
attribute [go_sem] q25r0 q25r1 q25r2 q25r3 q25r7 q25r8 q25r9 q25r10
theorem q25ok:cFn TC 113=some (33,[.t 6],q25c17):=by kernel_rfl
end
section
theorem zW.limitR{C:Ctx}{n k:Nat}{ac:ACode}{Q:AExit->Env->Store->Prop}{J:Env}{O:Store}{t r off len esz:Nat}{o:AObj}(ht:J t=.sl r off len none esz)(hr:O[r]? =some (some o))(h:∀c,len<=c->o.length<=off+c->zW C n k ac Q (upd J t (.sl r off len (some c) esz)) O):zW C n k ac Q J O:=by
 intro code hc Z0 w0 hgl hk Z a w hst hR hE hn
 have hv:=hE t
 rw [ht]at hv
 simp only [VR]at hv
 obtain⟨fl,pl,b,p,cap,hpl,he,hval,hso⟩:=hv
 obtain⟨pl',hpl',hok⟩:=hR.alive r o hr
 rw [hpl]at hpl';cases hpl'
 refine h cap hso.le (by rw [hok.len];exact hso.room rfl) code hc Z0 w0 hgl hk Z a w hst hR (hE.upd_ ?_) hn
 rw [hval]
 simp only [VR]
 exact⟨_,pl,b,p,cap,hpl,he,rfl,hso.le,by simp,by simp,hso.inside,hso.at_,hso.blk,hso.ole⟩
end
section
theorem rl_i{k:Nat}{i:IntKind}{n:Int}:RL k (.int i n):=z1c _ rfl
theorem rl_b{k:Nat}{b:Bool}:RL k (.bool b):=z1c _ rfl
theorem zkl{k:Nat}{O:Store}{i:IntKind}{a b:Int}(hw:Wf O.length O)(hk:k=O.length)(h:a=b):DownV k (.int i a) O (.int i b) O:=by subst h;subst hk;exact DownV.same hw rl_i
structure ML where
 f:Int
 t:Int
 x:List UInt8
 deriving DecidableEq
def mailC(m:ML):List AV:=[.int .i64 m.f,.int .i64 m.t,.str m.x]
def slOf(sid:Option Nat)(n esz:Nat):AV:=match sid with
 |none=> .nilsl
 |some s=> .sl s 0 n none esz
def SlIs(O:Store)(sid:Option Nat)(rows:List (List AV)):Prop:=match sid with
 |none=>rows=[]
 |some s=>∃junk,O[s]? =some (some (rows++junk))
structure LkIs(O:Store)(r:Nat)(nodes:Int)(sid:Option Nat)(L:List ML):Prop where
 obj:O[r]? =some (some [[.int .i64 nodes,slOf sid L.length 3]])
 rows:SlIs O sid (L.map mailC)
 apart:sid ≠ some r
structure FrL(O O':Store)(r:Nat)(sid sid':Option Nat):Prop where
 len:O.length<=O'.length
 keep:∀q,q<O.length->q ≠ r->sid ≠ some q->O'[q]? =O[q]?
 new:∀s,sid'=some s->sid=some s \/O.length<=s
theorem LkIs.lt{O:Store}{r:Nat}{nodes:Int}{sid:Option Nat}{L:List ML}(h:LkIs O r nodes sid L):r<O.length/\ ∀s,sid=some s->s<O.length:=by
 refine⟨(List.getElem?_eq_some_iff.1 h.obj).1,fun s hs=> ?_⟩
 have:=h.rows
 subst hs
 obtain⟨junk,hj⟩:=this
 exact(List.getElem?_eq_some_iff.1 hj).1
theorem z2w(O:Store)(r:Nat)(nodes:Int)(sl:AV)(h:O[r]? =some (some [[.int .i64 nodes,sl]])):ACallsTo TC 111 [.ptr r 0 0] O (.bool (decide (nodes=0))) O:=by
 refine ACallsTo.of_body q23ok (by simp) fun hw _=> ?_
 repeat' (first|apply zs_|apply zb_|apply zc_|apply zt_ rfl|apply zf_ rfl|(apply zd_ rfl<;>intro ht<;>try omega)|((first|apply zr_|apply zk_|apply ze_|apply zq_|(apply zG<;>intro ht));all_goals try simp (disch:=first|omega|(simp only [lens];first|done|omega)) only [go_sem,h]))
 exact DownV.same hw rl_b
def atS(nodes:Int)(n:Nat)(i:Int):Int:=if nodes=0 then 1 else if i<0 \/(n:Int)<=i then 4 else 0
theorem zax(O:Store)(r:Nat)(nodes i:Int)(sid:Option Nat)(n:Nat)(h:O[r]? =some (some [[.int .i64 nodes,slOf sid n 3]]))(hn:sid=none->n=0):
  ACallsTo TC 112 [.ptr r 0 0,.int .i64 i] O (.int .i64 (atS nodes n i)) O:=by
 refine ACallsTo.of_body q24ok (by simp) fun hw _=> ?_
 unfold atS
 cases sid with
 |none=>
  have hn:=hn rfl
  repeat' (first|apply zs_|apply zb_|apply zc_|apply zt_ rfl|apply zf_ rfl|(apply zd_ rfl<;>intro ht<;>try omega)|((first|apply zr_|apply zk_|apply ze_|apply zq_|(apply callW.mk_pu;(first|exact(fun _=>z2w _ _ _ _ h)))|(apply callW.za;(first|exact(z2w _ _ _ _ h)))|(apply zG<;>intro ht));all_goals try simp (disch:=first|omega|(simp only [lens];first|done|omega)) only [go_sem,h,slOf]))
  all_goals exact zkl hw rfl (by first|rfl|omega|(repeat' split<;>omega))
 |some s=>
  repeat' (first|apply zs_|apply zb_|apply zc_|apply zt_ rfl|apply zf_ rfl|(apply zd_ rfl<;>intro ht<;>try omega)|((first|apply zr_|apply zk_|apply ze_|apply zq_|(apply callW.mk_pu;(first|exact(fun _=>z2w _ _ _ _ h)))|(apply callW.za;(first|exact(z2w _ _ _ _ h)))|(apply zG<;>intro ht));all_goals try simp (disch:=first|omega|(simp only [lens];first|done|omega)) only [go_sem,h,slOf]))
  all_goals exact zkl hw rfl (by first|rfl|omega|(repeat' split<;>omega))
def z24(nodes:Int)(n:Nat)(m:ML):Int:=
 if nodes=0 then 1 else if m.f<0 \/nodes<=m.f \/m.t<0 \/nodes<=m.t \/m.f=m.t then 2 else if 65536<(m.x.length:Int)then 3 else if 200<=(n:Int)then 60 else 0
theorem LkIs.app{O y:Store}{r:Nat}{nodes:Int}{sid:Option Nat}{L:List ML}(h:LkIs O r nodes sid L):LkIs (O++y) r nodes sid L:=by
 obtain⟨hrl,hsl⟩:=h.lt
 obtain⟨h,hs,hd⟩:=h
 refine⟨by rw [gapp hrl];exact h,?_,hd⟩
 cases sid with
 |none=>exact hs
 |some s=>obtain⟨junk,hj⟩:=hs;exact⟨junk,by rw [gapp (hsl s rfl)];exact hj⟩
theorem FrL.app{O y:Store}{r:Nat}{sid:Option Nat}:FrL O (O++y) r sid sid:=⟨by simp,fun q hq _ _=>gapp hq,fun s hs=> .inl hs⟩
theorem FrL.refl{O:Store}{r:Nat}{sid:Option Nat}:FrL O O r sid sid:=⟨Nat.le_refl _,fun q hq _ _=>rfl,fun s hs=> .inl hs⟩
theorem zrj(O:Store)(r:Nat)(nodes:Int)(m:ML)(h:LkIs O r nodes none []):ACallsP TC 66 [.ptr r 0 0,.agg (mailC m)] O
  (fun v O'=>v=.int .i64 (z24 nodes 0 m)/\ ∃sid',LkIs O' r nodes sid' (if z24 nodes 0 m=0 then [m]else [])/\ FrL O O' r none sid'):=by
 have h0:=h
 obtain⟨hrl,hsl⟩:=h.lt
 obtain⟨h,hs,hd⟩:=h
 refine ACallsP.of_keep q1zok (by simp) ?_
 unfold z24
 repeat' (first|apply zs_|apply zb_|apply zc_|apply zt_ rfl|apply zf_ rfl|(apply zd_ rfl<;>intro ht<;>try omega)|((first|apply zr_|apply zk_|apply ze_|apply zq_|(apply callW.mk_pu;(first|exact(fun _=>z2w _ _ nodes .nilsl (by simp only [gapp,hrl,h,slOf]))))|(apply callW.za;(first|exact(z2w _ _ nodes .nilsl (by simp only [gapp,hrl,h,slOf]))))|(apply zG<;>intro ht));all_goals try simp (disch:=first|omega|(simp only [lens];first|done|omega)) only [go_sem,h,mailC,slOf]))
 all_goals try exact⟨none,h0.app,FrL.app⟩
 refine⟨some (O.length+1),⟨?_,⟨[],?_⟩,?_⟩,⟨?_,?_,?_⟩⟩
 ·simp (disch:=first|omega|(simp only [lens];first|done|omega)) only [go_sem,slOf,List.length_append]
 ·simp (disch:=first|omega|(simp only [lens];first|done|omega)) only [go_sem,mailC,List.append_assoc,z1a]
 ·simp;omega
 ·simp
 ·intro q hq hr _
  have hr':r ≠ q:=fun e=>hr e.symm
  simp (disch:=first|omega|(simp only [lens];first|done|omega)) only [go_sem,List.append_assoc]
 ·intro s hs
  simp at hs;omega
theorem zrk(O:Store)(r s:Nat)(nodes:Int)(L:List ML)(m:ML)(h:LkIs O r nodes (some s) L):ACallsP TC 66 [.ptr r 0 0,.agg (mailC m)] O
  (fun v O'=>v=.int .i64 (z24 nodes L.length m)/\ ∃sid',LkIs O' r nodes sid' (if z24 nodes L.length m=0 then L++ [m]else L)/\ FrL O O' r (some s) sid'):=by
 have h0:=h
 obtain⟨hrl,hsl⟩:=h.lt
 obtain⟨h,hs,hd⟩:=h
 have hsl:=hsl s rfl
 obtain⟨junk,hj⟩:=hs
 have hne:s ≠ r:=fun e=>hd (by rw [e])
 have hne2:r ≠ s:=fun e=>hne e.symm
 refine ACallsP.of_keep q1zok (by simp) ?_
 unfold z24
 have hlen:(L.map mailC++junk).length=L.length+junk.length:=by simp
 have htake:(L.map mailC++junk).take L.length=L.map mailC:=by
  rw [List.take_append_of_le_length (by simp),List.take_of_length_le (by simp)]
 have hdrop:(L.map mailC++junk).drop (L.length+1)=junk.drop 1:=by
  rw [List.drop_append,List.drop_of_length_le (by simp)];simp
 by_cases hjk:junk=[]
 ·subst hjk
  rw [List.append_nil]at hj hlen htake
  repeat' (first|apply zs_|apply zb_|apply zc_|apply zt_ rfl|apply zf_ rfl|(apply zd_ rfl<;>intro ht<;>try omega)|((first|apply zr_|apply zk_|apply ze_|apply zq_|(apply callW.mk_pu;(first|exact(fun _=>z2w _ _ nodes _ (by simp only [gapp,hrl,h,slOf];rfl))))|(apply callW.za;(first|exact(z2w _ _ nodes _ (by simp only [gapp,hrl,h,slOf];rfl))))|(apply zG<;>intro ht));all_goals try simp (disch:=first|omega|(simp only [lens];first|done|omega)) only [go_sem,h,hj,hlen,htake,mailC,slOf]))
  all_goals try exact⟨some s,h0.app,FrL.app⟩
  refine⟨some (O.length+1),⟨?_,⟨[],?_⟩,?_⟩,⟨?_,?_,?_⟩⟩
  ·simp (disch:=first|omega|(simp only [lens];first|done|omega)) only [go_sem,slOf,List.length_append,lQs]
  ·have e:O.length+1=(List.set (O++ [some [mailC m]]) s none).length:=by simp
   simp (disch:=first|omega|(simp only [lens];first|done|omega)) only [go_sem,mailC,List.map_append,List.append_assoc,z1a,lQs,List.length_append,Nat.sub_self]
  ·simp;omega
  ·simp
  ·intro q hq hr hs
   have hr':r ≠ q:=fun e=>hr e.symm
   have hs':s ≠ q:=fun e=>hs (by rw [e])
   simp (disch:=first|omega|(simp only [lens];first|done|omega)) only [go_sem]
  ·intro s' hs
   simp at hs;omega
 ·have hjl:1<=junk.length:=by cases junk<;>simp_all
  repeat' (first|apply zs_|apply zb_|apply zc_|apply zt_ rfl|apply zf_ rfl|(apply zd_ rfl<;>intro ht<;>try omega)|((first|apply zr_|apply zk_|apply ze_|apply zq_|(apply callW.mk_pu;(first|exact(fun _=>z2w _ _ nodes _ (by simp only [gapp,hrl,h,slOf];rfl))))|(apply callW.za;(first|exact(z2w _ _ nodes _ (by simp only [gapp,hrl,h,slOf];rfl))))|(apply zG<;>intro ht));all_goals try simp (disch:=first|omega|(simp only [lens];first|done|omega)) only [go_sem,h,hj,hlen,htake,hdrop,mailC,slOf]))
  all_goals try exact⟨some s,h0.app,FrL.app⟩
  refine⟨some s,⟨?_,⟨junk.drop 1,?_⟩,?_⟩,⟨?_,?_,?_⟩⟩
  ·simp (disch:=first|omega|(simp only [lens];first|done|omega)) only [go_sem,slOf,List.length_append,lQs]
  ·simp (disch:=first|omega|(simp only [lens];first|done|omega)) only [go_sem,mailC,List.map_append,List.append_assoc]
  ·exact hd
  ·simp
  ·intro q hq hr hs
   have hr':r ≠ q:=fun e=>hr e.symm
   have hs':s ≠ q:=fun e=>hs (by rw [e])
   simp (disch:=first|omega|(simp only [lens];first|done|omega)) only [go_sem]
  ·intro s' hs
   exact .inl hs
theorem zj4(O:Store)(r:Nat)(nodes:Int)(sid:Option Nat)(L:List ML)(m:ML)(h:LkIs O r nodes sid L):ACallsP TC 66 [.ptr r 0 0,.agg (mailC m)] O
  (fun v O'=>v=.int .i64 (z24 nodes L.length m)/\ ∃sid',LkIs O' r nodes sid' (if z24 nodes L.length m=0 then L++ [m]else L)/\ FrL O O' r sid sid'):=by
 cases sid with
 |none=>
  have hn:L=[]:=by simpa [SlIs]using h.rows
  subst hn
  exact zrj O r nodes m h
 |some s=>exact zrk O r s nodes L m h
end
section
def z4a:List AV:=[.int .i64 0,.int .i64 0,.str []]
attribute [local irreducible] zbf
theorem zve (O : Store) (s : Nat) (A B junk : List (List AV)) (x : List AV) (h : O[s]? = some (some (A ++ x :: (B ++ junk)))) (hn : A.length + 1 + B.length < 1000000) :
    ACallsTo TC 113 [.sl s 0 (A.length+1+B.length) none 3,.int .i64 A.length,.int .i64 (A.length+1:Nat)] O (.sl s 0 (A.length+B.length) none 3) (O.set s (some (A++(B++z4a::junk)))):=by
  have hs:=(List.getElem?_eq_some_iff.1 h).1
  have hol:(A++x::(B++junk)).length=A.length+1+B.length+junk.length:=by simp;omega
  have n1:A.length+1+B.length-(A.length+1)=B.length:=by omega
  have t1:(A++x::(B++junk)).drop (A.length+1)=B++junk:=by rw [List.drop_append,List.drop_of_length_le (by omega)];simp
  have t2:(B++junk).take B.length=B:=by rw [List.take_append_of_le_length (Nat.le_refl _),List.take_length]
  have t3:(A++x::(B++junk)).take A.length=A:=by rw [List.take_append_of_le_length (Nat.le_refl _),List.take_length]
  obtain⟨y,hy⟩:∃y,(A++x::(B++junk)).drop (A.length+B.length)=y::junk:=by
    have e1:(A++x::(B++junk)).drop (A.length+B.length)=(x::(B++junk)).drop B.length:=by
      rw [List.drop_append,List.drop_of_length_le (by omega)];simp
    rw [e1]
    cases hB:B.reverse with
    | nil => have : B = [] := by simpa using hB
             subst this;exact⟨x,rfl⟩
    |cons b l=>
      have:B=l.reverse++ [b]:=by rw [<-List.reverse_reverse B,hB];simp
      rw [this]
      refine⟨b,?_⟩
      rw [show (l.reverse++ [b]).length=l.reverse.length+1 by simp,List.drop_succ_cons,List.append_assoc,List.drop_left]
      rfl
  have t5:(A++(B++y::junk)).take (A.length+B.length)=A++B:=by rw [<-List.append_assoc,List.take_append_of_le_length (by simp),List.take_of_length_le (by simp)]
  have t6:(A++(B++y::junk)).drop (A.length+B.length+1)=junk:=by
    rw [<-List.append_assoc,List.drop_append,List.drop_of_length_le (by simp)]
    simp
  have l5:(A++(B++y::junk)).length=A.length+B.length+1+junk.length:=by simp;omega
  have fin:∀(c:Nat) (J:Env),A.length+1+B.length+junk.length<=c->J 0=.sl s 0 (A.length+B.length) (some c) 3->zW TC 33 O.length zbf (z69 [.t 6] (.sl s 0 (A.length+B.length) none 3) (O.set s (some (A++(B++z4a::junk))))) J (O.set s (some (A++(B++z4a::junk)))):=by
    intro c J hc q0
    refine zW.unlim (t:=0) (r:=s) (off:=0) (len:=A.length+B.length) (c:=c) (esz:=3) (o:=A++(B++z4a::junk)) q0 (z1y hs) (by simp;omega) ?_
    unfold zbf
    repeat' (first|apply zs_|apply zb_|apply zc_|apply zt_ rfl|apply zf_ rfl|(apply zd_ rfl<;>intro ht<;>try omega)|((first|apply zr_|apply zk_|apply ze_|apply zq_|(apply zG<;>intro ht));all_goals try simp (disch:=first|omega|(simp only [lens];first|done|omega)) only [go_sem]))
  refine ACallsTo.of_body_keep q25ok (by simp) ?_
  refine zW.limitR (t:=0) (r:=s) (off:=0) (len:=A.length+1+B.length) (esz:=3) (by simp (disch:=first|omega|(simp only [lens];first|done|omega)) only [go_sem]) h fun c hc hc2=> ?_
  rw [hol,Nat.zero_add]at hc2
  by_cases hB:B=[]
  · subst hB
    simp only [List.length_nil,Nat.add_zero,List.nil_append]at*
    have n2:A.length+1-A.length=1:=by omega
    repeat' (first|apply zs_|apply zb_|apply zc_|apply zt_ rfl|apply zf_ rfl|(apply zd_ rfl<;>intro ht<;>try omega)|((first|apply zr_|apply zk_|apply ze_|apply zq_|(apply zG<;>intro ht));all_goals try simp (disch:=first|omega|(simp only [lens];first|done|omega)) only [go_sem,h,hol,n1,n2,t1,t2,t3,Nat.sub_zero,Nat.sub_self,z4a,List.replicate_one,List.append_assoc]))
    exact fin c _ (by omega) (by simp (disch:=first|omega|(simp only [lens];first|done|omega)) only [go_sem])
  · have hBl:1<=B.length:=by cases B<;>simp_all
    have n3:A.length+1+B.length-(A.length+B.length)=1:=by omega
    repeat' (first|apply zs_|apply zb_|apply zc_|apply zt_ rfl|apply zf_ rfl|(apply zd_ rfl<;>intro ht<;>try omega)|((first|apply zr_|apply zk_|apply ze_|apply zq_|(apply zG<;>intro ht));all_goals try simp (disch:=first|omega|(simp only [lens];first|done|omega)) only [go_sem,h,hol,n1,n3,t1,t2,t3,hy,t5,t6,l5,Nat.sub_zero,List.set_set,List.append_assoc,z4a,List.replicate_one]))
    exact fin c _ (by omega) (by simp (disch:=first|omega|(simp only [lens];first|done|omega)) only [go_sem])
end
section
theorem zj5{O y:Store}{r s:Nat}{nodes:Int}{sid:Option Nat}{L:List ML}{rows junk:List (List AV)}{n:Nat}(hrl:r<O.length)(hsl:s<O.length)(hne:s ≠ r)(hid:sid=some s)(hr:rows=L.map mailC++junk)(hn:n=L.length):
  LkIs ((O.set s (some rows)).set r (some [[.int .i64 nodes,.sl s 0 n none 3]])++y) r nodes (some s) L/\ FrL O ((O.set s (some rows)).set r (some [[.int .i64 nodes,.sl s 0 n none 3]])++y) r sid (some s):=by
 subst hr;subst hn;subst hid
 refine⟨⟨?_,⟨junk,?_⟩,fun e=>hne (Option.some.inj e)⟩,⟨by simp,fun q hq h1 h2=> ?_,fun q hq=> .inl hq⟩⟩
 ·rw [gapp (by simpa using hrl),z1y (by simpa using hrl)];rfl
 ·rw [gapp (by simpa using hsl),z1g (fun e=>hne e.symm),z1y hsl]
 ·rw [gapp (by simpa using hq),z1g (fun e=>h1 e.symm),z1g (fun e=>h2 (by rw [e]))]
theorem lk_ex{O:Store}{r:Nat}{nodes:Int}{sid:Option Nat}{L:List ML}(h:LkIs O r nodes sid L)(L':List ML)(h0:sid=none->L'=[]):∃O',LkIs O' r nodes sid L'/\ FrL O O' r sid sid:=by
 obtain⟨hrl,hsl⟩:=h.lt
 cases sid with
 |none=>
  have e:L=[]:=by simpa [SlIs]using h.rows
  subst e
  rw [h0 rfl]
  exact⟨O,h,FrL.refl⟩
 |some s=>exact⟨_,zj5 (y:=[]) (junk:=[]) (L:=L') hrl (hsl s rfl) (fun e=>h.apart (by rw [e])) rfl rfl rfl⟩
theorem zn1{nodes:Int}{n:Nat}{i:Int}(h0:nodes ≠ 0)(h1:0<=i)(h2:i<n):atS nodes n i=0:=by
 unfold atS
 rw [if_neg h0,if_neg (by omega)]
theorem zrb(O:Store)(r:Nat)(nodes i:Int)(sid:Option Nat)(L:List ML)(h:LkIs O r nodes sid L)(hb:atS nodes L.length i ≠ 0):
  ACallsP TC 67 [.ptr r 0 0,.int .i64 i] O (fun v O'=>v=.tup [.agg z4a,.int .i64 (atS nodes L.length i)]/\ LkIs O' r nodes sid L/\ FrL O O' r sid sid):=by
 obtain⟨hrl,hsl⟩:=h.lt
 have hn:sid=none->L.length=0:=by
  intro e;subst e
  have:=h.rows
  simp [SlIs]at this
  simp [this]
 have ho:=h.obj
 generalize hc:atS nodes L.length i=c at*
 refine ACallsP.of_keep q20ok (by simp) ?_
 repeat' (first|apply zs_|apply zb_|apply zc_|apply zt_ rfl|apply zf_ rfl|(apply zd_ rfl<;>intro ht<;>try omega)|((first|apply zr_|apply zk_|apply ze_|apply zq_|(apply callW.mk_pu;(first|exact(fun _=>(hc ▸ zax (O++_) r nodes i sid L.length (by rw [gapp hrl];exact ho) hn))))|(apply callW.za;(first|exact((hc ▸ zax (O++_) r nodes i sid L.length (by rw [gapp hrl];exact ho) hn))))|(apply zG<;>intro ht));all_goals try simp (disch:=first|omega|(simp only [lens];first|done|omega)) only [go_sem,z4a]))
 exact⟨h.app,FrL.app⟩
theorem zrd(O:Store)(r s:Nat)(nodes:Int)(A B:List ML)(m:ML)(h:LkIs O r nodes (some s) (A++m::B))(hn:nodes ≠ 0)(hl:A.length+1+B.length<1000000):
  ACallsP TC 67 [.ptr r 0 0,.int .i64 A.length] O (fun v O'=>v=.tup [.agg (mailC m),.int .i64 0]/\ LkIs O' r nodes (some s) (A++B)/\ FrL O O' r (some s) (some s)):=by
 obtain⟨hrl,hsl⟩:=h.lt
 have hsl:=hsl s rfl
 obtain⟨ho,⟨junk,hj⟩,hd⟩:=h
 have hne:s ≠ r:=fun e=>hd (by rw [e])
 have hne2:r ≠ s:=fun e=>hne e.symm
 have hlen:(A++m::B).length=A.length+1+B.length:=by simp;omega
 rw [hlen]at ho
 have hc:atS nodes (A.length+1+B.length) (A.length:Int)=0:=zn1 hn (by omega) (by omega)
 have hrow:(A++m::B).map mailC++junk=A.map mailC++mailC m::(B.map mailC++junk):=by simp
 rw [hrow]at hj
 have hget:(A.map mailC++mailC m::(B.map mailC++junk))[A.length]? =some (mailC m):=by
  rw [List.getElem?_append_right (by simp)];simp
 have e1:(A.length:Int)+1=((A.length+1:Nat):Int):=by omega
 have hj0:=hj
 simp only [mailC]at hj hget
 have hD:∀y:Store,ACallsTo TC 113 [.sl s 0 (A.length+1+B.length) none 3,.int .i64 A.length,.int .i64 (A.length+1:Nat)] (O++y) (.sl s 0 (A.length+B.length) none 3)
   ((O++y).set s (some (A.map mailC++(B.map mailC++z4a::junk)))):=by
  intro y
  have:=zve (O++y) s (A.map mailC) (B.map mailC) junk (mailC m) (by rw [gapp hsl];exact hj0) (by simp;omega)
  simpa only [List.length_map]using this
 refine ACallsP.of_keep q20ok (by simp) ?_
 repeat' (first|apply zs_|apply zb_|apply zc_|apply zt_ rfl|apply zf_ rfl|(apply zd_ rfl<;>intro ht<;>try omega)|((first|apply zr_|apply zk_|apply ze_|apply zq_|(apply callW.mk_pu;(first|exact(fun _=>(hc ▸ zax (O++_) r nodes A.length (some s) (A.length+1+B.length) (by rw [gapp hrl];exact ho) (by simp)))|exact(fun _=>hD _)))|(apply callW.za;(first|exact((hc ▸ zax (O++_) r nodes A.length (some s) (A.length+1+B.length) (by rw [gapp hrl];exact ho) (by simp)))|exact(hD _)))|(apply zG<;>intro ht));all_goals try simp (disch:=first|omega|(simp only [lens];first|done|omega)) only [go_sem,ho,hj,hget,mailC,slOf,e1]))
 exact zj5 (junk:=z4a::junk) hrl hsl hne rfl (by simp) (by simp)
def delM(nodes:Int)(L:List ML)(i:Int):ML:=if atS nodes L.length i=0 then L.getD i.toNat ⟨0,0,[]⟩else⟨0,0,[]⟩
def delV(nodes:Int)(L:List ML)(i:Int):AV:=.tup [.agg (mailC (delM nodes L i)),.int .i64 (atS nodes L.length i)]
def delL(nodes:Int)(L:List ML)(i:Int):List ML:=if atS nodes L.length i=0 then L.eraseIdx i.toNat else L
theorem zgp{nodes:Int}{n:Nat}{i:Int}(h:atS nodes n i=0):nodes ≠ 0/\ 0<=i/\ i<n:=by
 unfold atS at h
 split at h
 ·cases h
 ·split at h
  ·cases h
  ·refine⟨by assumption,?_,?_⟩<;>omega
theorem zxe(L:List ML)(i:Nat)(h:i<L.length):∃A m B,L=A++m::B/\ A.length=i:=by
 refine⟨L.take i,L[i],L.drop (i+1),?_,by simp;omega⟩
 rw [<-List.drop_eq_getElem_cons h,List.take_append_drop]
theorem zre(O:Store)(r:Nat)(nodes i:Int)(sid:Option Nat)(L:List ML)(h:LkIs O r nodes sid L)(hl:L.length<1000000):
  ACallsP TC 67 [.ptr r 0 0,.int .i64 i] O (fun v O'=>v=delV nodes L i/\ LkIs O' r nodes sid (delL nodes L i)/\ FrL O O' r sid sid):=by
 by_cases hb:atS nodes L.length i=0
 ·obtain⟨h0,h1,h2⟩:=zgp hb
  obtain⟨A,m,B,rfl,hA⟩:=zxe L i.toNat (by omega)
  cases sid with
  |none=>have:=h.rows;simp [SlIs]at this
  |some s=>
   have hi:i=A.length:=by omega
   subst hi
   refine(zrd O r s nodes A B m h h0 (by simp at hl;omega)).mono ?_
   rintro v O' ⟨rfl,k1,k2⟩
   refine⟨?_,?_,k2⟩
   ·rw [delV,hb,delM,if_pos hb,Int.toNat_natCast]
    congr 3
    simp
   ·rw [delL,if_pos hb,Int.toNat_natCast]
    have:(A++m::B).eraseIdx A.length=A++B:=by rw [List.eraseIdx_append_of_length_le (Nat.le_refl _)];simp
    rw [this];exact k1
 ·refine(zrb O r nodes i sid L h hb).mono ?_
  rintro v O' ⟨rfl,k1,k2⟩
  exact⟨by rw [delV,delM,if_neg hb];rfl,by rw [delL,if_neg hb];exact k1,k2⟩
theorem zoe{nodes i:Int}{L:List ML}{O:Store}{r:Nat}(h:LkIs O r nodes none L):delL nodes L i=[]:=by
 have e:L=[]:=by simpa [SlIs]using h.rows
 subst e
 unfold delL
 split<;>rfl
theorem zrc{O:Store}{r:Nat}{nodes i:Int}{sid:Option Nat}{L:List ML}(h:LkIs O r nodes sid L):∃v O',v=delV nodes L i/\ LkIs O' r nodes sid (delL nodes L i)/\ FrL O O' r sid sid:=by
 obtain⟨O',h1⟩:=lk_ex h (delL nodes L i) (fun e=>by subst e;exact zoe h)
 exact⟨_,O',rfl,h1⟩
theorem zj3{O:Store}{r:Nat}{nodes:Int}{sid:Option Nat}{L:List ML}{m:ML}(h:LkIs O r nodes sid L):∃v O',v=AV.int .i64 (z24 nodes L.length m)/\ ∃sid',LkIs O' r nodes sid' (if z24 nodes L.length m=0 then L++ [m]else L)/\ FrL O O' r sid sid':=by
 obtain⟨hrl,hsl⟩:=h.lt
 cases sid with
 |some s=>
  obtain⟨O',h1,h2⟩:=lk_ex h (if z24 nodes L.length m=0 then L++ [m]else L) (by simp)
  exact⟨_,O',rfl,_,h1,h2⟩
 |none=>
  have e:L=[]:=by simpa [SlIs]using h.rows
  subst e
  by_cases hc:z24 nodes ([]:List ML).length m=0
  ·refine⟨_,O.set r (some [[.int .i64 nodes,.sl O.length 0 1 none 3]])++ [some [mailC m]],rfl,some O.length,⟨?_,⟨[],?_⟩,?_⟩,⟨by simp,fun q hq h1 _=> ?_,fun s hs=> ?_⟩⟩
   ·rw [if_pos hc,gapp (by simpa using hrl),z1y hrl];rfl
   ·rw [if_pos hc,z1a (by simp)];simp
   ·simp;omega
   ·rw [gapp (by simpa using hq),z1g (fun e=>h1 e.symm)]
   ·right;simp at hs;omega
  ·exact⟨_,O,rfl,none,by rw [if_neg hc];exact h,FrL.refl⟩
end
section
theorem zri(O:Store)(n:Int)(h:1<=n/\ n<=32):
  ACallsTo TC 72 [.int .i64 n] O (.tup [.ptr O.length 0 0,.int .i64 0]) (O++ [some [[.int .i64 n,.nilsl]]]):=by
 refine ACallsTo.of_body_keep q22ok (by simp) ?_
 repeat' (first|apply zs_|apply zb_|apply zc_|apply zt_ rfl|apply zf_ rfl|(apply zd_ rfl<;>intro ht<;>try omega)|((first|apply zr_|apply zk_|apply ze_|apply zq_|(apply zG<;>intro ht));all_goals try simp (disch:=first|omega|(simp only [lens];first|done|omega)) only [go_sem]))
structure Fresh(O O':Store)(sid:Option Nat)(L:List ML):Prop where
 ext:∃y,O'=O++y
 rows:SlIs O' sid (L.map mailC)
 new:∀s,sid=some s->O.length<=s
theorem zrf(O:Store)(r:Nat)(nodes:Int)(h:LkIs O r nodes none []):
  ACallsTo TC 71 [.ptr r 0 0] O .nilsl O:=by
 have ho:=h.obj
 refine ACallsTo.of_body q21ok (by simp) fun hw _=> ?_
 repeat' (first|apply zs_|apply zb_|apply zc_|apply zt_ rfl|apply zf_ rfl|(apply zd_ rfl<;>intro ht<;>try omega)|((first|apply zr_|apply zk_|apply ze_|apply zq_|(apply callW.mk_pu;(first|exact(fun _=>z2w _ _ nodes .nilsl ho)))|(apply callW.za;(first|exact(z2w _ _ nodes .nilsl ho)))|(apply zG<;>intro ht));all_goals try simp (disch:=first|omega|(simp only [lens];first|done|omega)) only [go_sem,ho,slOf]))
 all_goals exact DownV.same hw (z1c _ rfl)
theorem zrg(O:Store)(r s:Nat)(nodes:Int)(L:List ML)(h:LkIs O r nodes (some s) L)(h0:nodes ≠ 0)(hl:L.length<1000000):
  ACallsTo TC 71 [.ptr r 0 0] O (if L=[]then .nilsl else .sl O.length 0 L.length none 3) (if L=[]then O else O++ [some (L.map mailC)]):=by
 have ho:=h.obj
 obtain⟨junk,hj⟩:=h.rows
 have htake:(L.map mailC++junk).take L.length=L.map mailC:=by
  rw [List.take_append_of_le_length (by simp),List.take_of_length_le (by simp)]
 refine ACallsTo.of_body_keep q21ok (by simp) ?_
 by_cases hL:L=[]
 ·subst hL
  simp only [List.length_nil,List.map_nil,List.nil_append]at ho hj htake
  rw [if_pos rfl,if_pos rfl]
  repeat' (first|apply zs_|apply zb_|apply zc_|apply zt_ rfl|apply zf_ rfl|(apply zd_ rfl<;>intro ht<;>try omega)|((first|apply zr_|apply zk_|apply ze_|apply zq_|(apply callW.mk_pu;(first|exact(fun _=>z2w _ _ nodes _ ho)))|(apply callW.za;(first|exact(z2w _ _ nodes _ ho)))|(apply zG<;>intro ht));all_goals try simp (disch:=first|omega|(simp only [lens];first|done|omega)) only [go_sem,ho,hj,slOf,htake,List.length_nil,List.take_zero]))
 ·have hlen:0<L.length:=List.length_pos_iff.2 hL
  rw [if_neg hL,if_neg hL]
  repeat' (first|apply zs_|apply zb_|apply zc_|apply zt_ rfl|apply zf_ rfl|(apply zd_ rfl<;>intro ht<;>try omega)|((first|apply zr_|apply zk_|apply ze_|apply zq_|(apply callW.mk_pu;(first|exact(fun _=>z2w _ _ nodes _ ho)))|(apply callW.za;(first|exact(z2w _ _ nodes _ ho)))|(apply zG<;>intro ht));all_goals try simp (disch:=first|omega|(simp only [lens];first|done|omega)) only [go_sem,ho,hj,slOf,htake,lQm]))
def z6w(O:Store)(L:List ML):Option Nat:=if L=[]then none else some O.length
def zay(L:List ML):Store:=if L=[]then []else [some (L.map mailC)]
theorem zrh(O:Store)(r:Nat)(nodes:Int)(sid:Option Nat)(L:List ML)(h:LkIs O r nodes sid L)(h0:nodes ≠ 0)(hl:L.length<1000000):
  ACallsTo TC 71 [.ptr r 0 0] O (slOf (z6w O L) L.length 3) (O++zay L):=by
 cases sid with
 |none=>
  have e:L=[]:=by simpa [SlIs]using h.rows
  subst e
  simpa [z6w,zay,slOf]using zrf O r nodes h
 |some s=>
  have:=zrg O r s nodes L h h0 hl
  by_cases hL:L=[]
  ·simpa [z6w,zay,slOf,hL]using this
  ·simpa [z6w,zay,slOf,hL]using this
end
section
theorem lk_new{O y:Store}{r q:Nat}{nodes:Int}{sid:Option Nat}{L':List ML}{rows junk:List (List AV)}{n:Nat}(hrl:r<O.length)(hq:O.length<=q)(hy:y[q-O.length]? =some (some rows))(hr:rows=L'.map mailC++junk)(hn:n=L'.length):
  LkIs (O.set r (some [[.int .i64 nodes,.sl q 0 n none 3]])++y) r nodes (some q) L'/\ FrL O (O.set r (some [[.int .i64 nodes,.sl q 0 n none 3]])++y) r sid (some q):=by
 subst hr;subst hn
 refine⟨⟨?_,⟨junk,?_⟩,fun e=>by have:=Option.some.inj e;omega⟩,⟨by simp,fun p hp h1 h2=> ?_,fun s hs=> ?_⟩⟩
 ·rw [gapp (by simpa using hrl),z1y hrl];rfl
 ·rw [z1a (by simpa using hq),List.length_set];exact hy
 ·rw [gapp (by simpa using hp),z1g (fun e=>h1 e.symm)]
 ·right;have:=Option.some.inj hs;omega
end
section

end
section
theorem lk_any{O:Store}{r:Nat}{nodes:Int}{sid:Option Nat}{L:List ML}(h:LkIs O r nodes sid L)(L':List ML):∃O' sid',LkIs O' r nodes sid' L'/\ FrL O O' r sid sid':=by
 obtain⟨hrl,_⟩:=h.lt
 exact⟨_,_,lk_new (y:=[some (L'.map mailC)]) (q:=O.length) (L':=L') (rows:=L'.map mailC) (junk:=[]) hrl (Nat.le_refl _) (by simp) (by simp) rfl⟩
end
section
set_option maxRecDepth 10000
def q26r0:yW:=[
 yI 2 (.mv (.v (.str []))),
 yK 3 .i64 0]
def q26r1:yW:=[
 yM 7 0,
 yI 8 (.lenSl (.t 7)),
 yJ 9 .gtr 8 .i64 64]
def q26r2:yW:=[
 yI 2 (.mv (.v (.str []))),
 yK 3 .i64 2]
def q26c3:yX:=yq q26r2 .ret
def q26c4:yX:=.cond (.t 9) q26c3 .skip
def q26c5:yX:=yq q26r1 q26c4
def q26r6:yW:=[
 yI 4 (.allB)]
def q26r7:yW:=[
 yM 10 0,
 yI 11 (.lenSl (.t 10)),
 yI 12 (.conv (.int .u64) (.t 11)),
 yC 13 109 12,
 yI 14 (.bin .add .none (.v (.str [68])) (.t 13)),
 yD 15 83 4 14]
def q26r8:yW:=[
 yM 16 0,
 yI 17 (.lenSl (.t 16)),
 yK 18 .i64 0]
def q26r9:yW:=[
 yB 19 .lss 18 17]
def q26r10:yW:=[
 yI 20 (.iaSl 33 (.t 16) (.t 18)),
 yL 21 true 33 20,
 yI 6 (.alloc ((.int .i64 0)::zZ0)),
 yS 33 6 21]
def q26r11:yW:=[
 yL 22 true 33 6,
 yC 23 110 22,
 yI 24 (.un .not (.t 23))]
def q26r12:yW:=[
 yI 2 (.mv (.v (.str []))),
 yK 3 .i64 2]
def q26c13:yX:=yq q26r12 .ret
def q26c14:yX:=.cond (.t 24) q26c13 .skip
def q26c15:yX:=yq q26r11 q26c14
def q26r16:yW:=[
 yF 25 0 6,
 ⟨some 26,none,.rd,.load false 1 (.t 25)⟩,
 yI 27 (.conv (.int .u64) (.t 26)),
 ⟨some 28,none,.ef,.call (.v (.fn 109 [])) [(.t 27)]⟩,
 yF 29 1 6,
 ⟨some 30,none,.rd,.load true 32 (.t 29)⟩,
 yC 31 84 30,
 yB 32 .add 28 31,
 yD 33 83 4 32]
def q26c17:yX:=.seq q26c15 (.reg q26r16)
def q26c18:yX:=yq q26r10 q26c17
def q26r19:yW:=[
 yJ 34 .add 18 .i64 1,
 yM 18 34]
def q26c20:yX:=.seq (.block 1 q26c18) (.reg q26r19)
def q26c21:yX:=.seq (.cond (.t 19) .skip (.exit 0)) q26c20
def q26c22:yX:=yq q26r9 q26c21
def q26c23:yX:=.loop q26c22
def q26c24:yX:=.block 0 q26c23
def q26c25:yX:=yq q26r8 q26c24
def q26r26:yW:=[
 yC 35 86 4,
 yM 2 35,
 yK 3 .i64 0]
def q26c27:yX:=yq q26r26 .ret
def q26c28:yX:=.seq q26c25 q26c27
def q26c29:yX:=yq q26r7 q26c28
def q26c30:yX:=yq q26r6 q26c29
def q26c31:yX:=.seq q26c5 q26c30
def q26c32:yX:=yq q26r0 q26c31
attribute [go_sem] q26r0 q26r1 q26r2 q26r6 q26r7 q26r8 q26r9 q26r10 q26r11 q26r12 q26r16 q26r19 q26r26
theorem q26ok:cFn TC 65=some (36,[.t 2,.t 3],q26c32):=by kernel_rfl
def q27r0:yW:=[
 yI 4 (.mv (.v .nilsl))]
def q27r1:yW:=[
 yI 5 (.mv (.v .nilsl))]
def q27r2:yW:=[
 yM 8 0,
 yI 9 (.lenSl (.t 8)),
 yK 10 .i64 0]
def q27r3:yW:=[
 yB 11 .lss 10 9]
def q27r4:yW:=[
 yI 12 (.iaSl 36 (.t 8) (.t 10)),
 yL 13 true 36 12,
 yI 7 (.alloc [(.int .i64 0),(.int .u8 0),(.int .u8 0),(.int .u8 0),(.int .u8 0),(.int .u8 0),(.int .u8 0),(.int .u8 0),(.int .u8 0),(.int .u8 0),(.int .u8 0),(.int .u8 0),(.int .u8 0),(.int .u8 0),(.int .u8 0),(.int .u8 0),(.int .u8 0),(.int .u8 0),(.int .u8 0),(.int .u8 0),(.int .u8 0),(.int .u8 0),(.int .u8 0),(.int .u8 0),(.int .u8 0),(.int .u8 0),(.int .u8 0),(.int .u8 0),(.int .u8 0),(.int .u8 0),(.int .u8 0),(.int .u8 0),(.int .u8 0),(.int .i64 0),(.str []),.nilsl]),
 yS 36 7 13]
def q27r5:yW:=[
 yM 14 5,
 yI 15 (.lenSl (.t 14)),
 yJ 16 .lss 15 .i64 3,
 yM 17 16,
 yU 18 17 true true 36 7,
 yG 19 17 true (.call (.v (.fn 97 [])) [(.t 18)]),
 yQ 20 17 19,
 yM 21 20,
 yV 22 21 true 1,
 yT 23 21 true 0 7,
 yU 24 21 true true 33 23,
 yG 25 21 true (.call (.v (.fn 141 [])) [(.t 22),(.t 24)]),
 yG 26 21 true (.un .not (.t 25)),
 yQ 27 21 26]
def q27r6:yW:=[
 yF 28 33 7,
 yF 29 2 28,
 yL 30 false 1 29,
 yC 31 105 30,
 yF 32 33 7,
 yF 33 2 32,
 yS 1 33 31]
def q27r7:yW:=[
 yM 34 5,
 yL 35 true 36 7,
 yI 36 (.lit 36 [(.t 35)]),
 yI 37 (.app 36 (.t 34) (.t 36)),
 yM 5 37]
def q27c8:yX:=yq q27r6 (.reg q27r7)
def q27c9:yX:=.cond (.t 27) q27c8 .skip
def q27c10:yX:=yq q27r5 q27c9
def q27c11:yX:=yq q27r4 q27c10
def q27r12:yW:=[
 yJ 38 .add 10 .i64 1,
 yM 10 38]
def q27c13:yX:=.seq (.block 1 q27c11) (.reg q27r12)
def q27c14:yX:=.seq (.cond (.t 11) .skip (.exit 0)) q27c13
def q27c15:yX:=yq q27r3 q27c14
def q27c16:yX:=.loop q27c15
def q27c17:yX:=.block 0 q27c16
def q27c18:yX:=yq q27r2 q27c17
def q27r19:yW:=[
 yM 39 5,
 yM 4 39]
def q27c20:yX:=yq q27r19 .ret
def q27c21:yX:=.seq q27c18 q27c20
def q27c22:yX:=yq q27r1 q27c21
def q27c23:yX:=yq q27r0 q27c22
attribute [go_sem] q27r0 q27r1 q27r2 q27r3 q27r4 q27r5 q27r6 q27r7 q27r12 q27r19
theorem q27ok:cFn TC 108=some (40,[.t 4],q27c23):=by kernel_rfl
def q28r0:yW:=[
 yI 1 (.box (.t 0)),
 yI 2 (.mv (.v (.bool false)))]
def q28r1:yW:=[
 yF 3 0 1,
 yL 4 false 1 3,
 yJ 5 .geq 4 .i64 0,
 yM 6 5,
 yT 7 6 true 0 1,
 yU 8 6 true false 1 7,
 yG 9 6 true (.bin .leq .none (.t 8) (.v (.int .i64 4096))),
 yQ 10 6 9,
 yM 2 10]
def q28c2:yX:=yq q28r1 .ret
def q28c3:yX:=yq q28r0 q28c2
attribute [go_sem] q28r0 q28r1
theorem q28ok:cFn TC 110=some (11,[.t 2],q28c3):=by kernel_rfl
def q29r0:yW:=[
 yI 2 (.mv (.v .nilsl)),
 yK 3 .i64 0]
def q29r1:yW:=[
 yM 14 0,
 yI 15 (.call (.v (.fn 142 [])) [(.t 14),(.v (.str [71]))]),
 yM 13 15,
 yE 16 0 13,
 yE 17 1 13,
 yE 18 2 13,
 yM 4 16,
 yM 5 17,
 yM 6 18]
def q29r2:yW:=[
 yM 19 6,
 yI 20 (.un .not (.t 19)),
 yM 21 20,
 yV 22 21 false 4,
 yG 23 21 false (.bin .lss .none (.t 22) (.v (.int .u64 1))),
 yP 24 21 23,
 yM 25 24,
 yV 26 25 false 4,
 yG 27 25 false (.bin .gtr .none (.t 26) (.v (.int .u64 3))),
 yP 28 25 27]
def q29r3:yW:=[
 yI 2 (.mv (.v .nilsl)),
 yK 3 .i64 10]
def q29c4:yX:=yq q29r3 .ret
def q29c5:yX:=.cond (.t 28) q29c4 .skip
def q29c6:yX:=yq q29r2 q29c5
def q29r7:yW:=[
 yI 7 (.mv (.v .nilsl))]
def q29r8:yW:=[
 yM 29 4,
 yK 30 .u64 0]
def q29r9:yW:=[
 yB 31 .lss 30 29]
def q29r10:yW:=[
 yM 33 5,
 yC 34 143 33,
 yM 32 34,
 yE 35 0 32,
 yE 36 1 32,
 yE 37 2 32,
 yM 8 35,
 yM 9 36,
 yM 10 37]
def q29r11:yW:=[
 yM 39 8,
 yC 40 144 39,
 yM 38 40,
 yE 41 0 38,
 yE 42 1 38,
 yI 11 (.alloc [(.int .i64 0),(.int .u8 0),(.int .u8 0),(.int .u8 0),(.int .u8 0),(.int .u8 0),(.int .u8 0),(.int .u8 0),(.int .u8 0),(.int .u8 0),(.int .u8 0),(.int .u8 0),(.int .u8 0),(.int .u8 0),(.int .u8 0),(.int .u8 0),(.int .u8 0),(.int .u8 0),(.int .u8 0),(.int .u8 0),(.int .u8 0),(.int .u8 0),(.int .u8 0),(.int .u8 0),(.int .u8 0),(.int .u8 0),(.int .u8 0),(.int .u8 0),(.int .u8 0),(.int .u8 0),(.int .u8 0),(.int .u8 0),(.int .u8 0),(.int .i64 0),(.str []),.nilsl]),
 yS 36 11 41,
 yM 12 42]
def q29r12:yW:=[
 yM 43 10,
 yI 44 (.un .not (.t 43)),
 yM 45 44,
 yV 46 45 false 12,
 yG 47 45 false (.bin .neq .none (.t 46) (.v (.int .i64 0))),
 yP 48 45 47]
def q29r13:yW:=[
 yI 2 (.mv (.v .nilsl)),
 yK 3 .i64 10]
def q29c14:yX:=yq q29r13 .ret
def q29c15:yX:=.cond (.t 48) q29c14 .skip
def q29c16:yX:=yq q29r12 q29c15
def q29r17:yW:=[
 yM 49 7,
 yL 50 true 36 11,
 yI 51 (.lit 36 [(.t 50)]),
 yI 52 (.app 36 (.t 49) (.t 51)),
 yM 53 9,
 yM 7 52,
 yM 5 53]
def q29c18:yX:=.seq q29c16 (.reg q29r17)
def q29c19:yX:=yq q29r11 q29c18
def q29c20:yX:=yq q29r10 q29c19
def q29r21:yW:=[
 yJ 54 .add 30 .u64 1,
 yM 30 54]
def q29c22:yX:=.seq (.block 1 q29c20) (.reg q29r21)
def q29c23:yX:=.seq (.cond (.t 31) .skip (.exit 0)) q29c22
def q29c24:yX:=yq q29r9 q29c23
def q29c25:yX:=.loop q29c24
def q29c26:yX:=.block 0 q29c25
def q29c27:yX:=yq q29r8 q29c26
def q29r28:yW:=[
 yM 55 5,
 yI 56 (.bin .neq .none (.t 55) (.v (.str [])))]
def q29r29:yW:=[
 yI 2 (.mv (.v .nilsl)),
 yK 3 .i64 10]
def q29c30:yX:=yq q29r29 .ret
def q29c31:yX:=.cond (.t 56) q29c30 .skip
def q29c32:yX:=yq q29r28 q29c31
def q29r33:yW:=[
 yM 57 7,
 yM 2 57,
 yK 3 .i64 0]
def q29c34:yX:=yq q29r33 .ret
def q29c35:yX:=.seq q29c32 q29c34
def q29c36:yX:=.seq q29c27 q29c35
def q29c37:yX:=yq q29r7 q29c36
def q29c38:yX:=.seq q29c6 q29c37
def q29c39:yX:=yq q29r1 q29c38
def q29c40:yX:=yq q29r0 q29c39
attribute [go_sem] q29r0 q29r1 q29r2 q29r3 q29r7 q29r8 q29r9 q29r10 q29r11 q29r12 q29r13 q29r17 q29r21 q29r28 q29r29 q29r33
theorem q29ok:cFn TC 114=some (58,[.t 2,.t 3],q29c40):=by kernel_rfl
def q2ar0:yW:=[
 yI 2 (.mv (.v .nilsl)),
 yK 3 .i64 0]
def q2ar1:yW:=[
 yM 14 0,
 yI 15 (.call (.v (.fn 142 [])) [(.t 14),(.v (.str [68]))]),
 yM 13 15,
 yE 16 0 13,
 yE 17 1 13,
 yE 18 2 13,
 yM 4 16,
 yM 5 17,
 yM 6 18]
def q2ar2:yW:=[
 yM 19 6,
 yI 20 (.un .not (.t 19)),
 yM 21 20,
 yV 22 21 false 4,
 yG 23 21 false (.bin .gtr .none (.t 22) (.v (.int .u64 64))),
 yP 24 21 23]
def q2ar3:yW:=[
 yI 2 (.mv (.v .nilsl)),
 yK 3 .i64 10]
def q2ac4:yX:=yq q2ar3 .ret
def q2ac5:yX:=.cond (.t 24) q2ac4 .skip
def q2ac6:yX:=yq q2ar2 q2ac5
def q2ar7:yW:=[
 yI 7 (.mv (.v .nilsl))]
def q2ar8:yW:=[
 yM 25 4,
 yK 26 .u64 0]
def q2ar9:yW:=[
 yB 27 .lss 26 25]
def q2ar10:yW:=[
 yM 29 5,
 yC 30 145 29,
 yM 28 30,
 yE 31 0 28,
 yE 32 1 28,
 yE 33 2 28,
 yM 8 31,
 yM 9 32,
 yM 10 33]
def q2ar11:yW:=[
 yM 35 9,
 yC 36 146 35,
 yM 34 36,
 yE 37 0 34,
 yE 38 1 34,
 yE 39 2 34,
 yI 11 (.alloc zZ0),
 yS 32 11 37,
 yM 9 38,
 yM 12 39]
def q2ar12:yW:=[
 yM 40 10,
 yI 41 (.un .not (.t 40)),
 yM 42 41,
 yV 43 42 false 12,
 yG 44 42 false (.un .not (.t 43)),
 yP 45 42 44,
 yM 46 45,
 yV 47 46 false 8,
 yG 48 46 false (.bin .gtr .none (.t 47) (.v (.int .u64 4096))),
 yP 49 46 48]
def q2ar13:yW:=[
 yI 2 (.mv (.v .nilsl)),
 yK 3 .i64 10]
def q2ac14:yX:=yq q2ar13 .ret
def q2ac15:yX:=.cond (.t 49) q2ac14 .skip
def q2ac16:yX:=yq q2ar12 q2ac15
def q2ar17:yW:=[
 yM 50 7,
 yM 51 8,
 yI 52 (.conv (.int .i64) (.t 51)),
 yL 53 true 32 11,
 yI 54 (.build ((.int .i64 0)::zZ0) [(0,1,(.t 52)),(1,32,(.t 53))]),
 yI 55 (.lit 33 [(.t 54)]),
 yI 56 (.app 33 (.t 50) (.t 55)),
 yM 57 9,
 yM 7 56,
 yM 5 57]
def q2ac18:yX:=.seq q2ac16 (.reg q2ar17)
def q2ac19:yX:=yq q2ar11 q2ac18
def q2ac20:yX:=yq q2ar10 q2ac19
def q2ar21:yW:=[
 yJ 58 .add 26 .u64 1,
 yM 26 58]
def q2ac22:yX:=.seq (.block 1 q2ac20) (.reg q2ar21)
def q2ac23:yX:=.seq (.cond (.t 27) .skip (.exit 0)) q2ac22
def q2ac24:yX:=yq q2ar9 q2ac23
def q2ac25:yX:=.loop q2ac24
def q2ac26:yX:=.block 0 q2ac25
def q2ac27:yX:=yq q2ar8 q2ac26
def q2ar28:yW:=[
 yM 59 5,
 yI 60 (.bin .neq .none (.t 59) (.v (.str [])))]
def q2ar29:yW:=[
 yI 2 (.mv (.v .nilsl)),
 yK 3 .i64 10]
def q2ac30:yX:=yq q2ar29 .ret
def q2ac31:yX:=.cond (.t 60) q2ac30 .skip
def q2ac32:yX:=yq q2ar28 q2ac31
def q2ar33:yW:=[
 yM 61 7,
 yM 2 61,
 yK 3 .i64 0]
def q2ac34:yX:=yq q2ar33 .ret
def q2ac35:yX:=.seq q2ac32 q2ac34
def q2ac36:yX:=.seq q2ac27 q2ac35
def q2ac37:yX:=yq q2ar7 q2ac36
def q2ac38:yX:=.seq q2ac6 q2ac37
def q2ac39:yX:=yq q2ar1 q2ac38
def q2ac40:yX:=yq q2ar0 q2ac39
attribute [go_sem] q2ar0 q2ar1 q2ar2 q2ar3 q2ar7 q2ar8 q2ar9 q2ar10 q2ar11 q2ar12 q2ar13 q2ar17 q2ar21 q2ar28 q2ar29 q2ar33
theorem q2aok:cFn TC 115=some (62,[.t 2,.t 3],q2ac40):=by kernel_rfl
def q2br0:yW:=[
 yI 2 (.mv (.v (.str []))),
 yK 3 .i64 0]
def q2br1:yW:=[
 yM 9 0,
 yI 10 (.lenSl (.t 9)),
 yJ 11 .eql 10 .i64 0,
 yM 12 11,
 yV 13 12 false 0,
 yG 14 12 false (.lenSl (.t 13)),
 yG 15 12 false (.bin .gtr .none (.t 14) (.v (.int .i64 3))),
 yP 16 12 15]
def q2br2:yW:=[
 yI 2 (.mv (.v (.str []))),
 yK 3 .i64 2]
def q2bc3:yX:=yq q2br2 .ret
def q2bc4:yX:=.cond (.t 16) q2bc3 .skip
def q2bc5:yX:=yq q2br1 q2bc4
def q2br6:yW:=[
 yI 4 (.allB)]
def q2br7:yW:=[
 yM 17 0,
 yI 18 (.lenSl (.t 17)),
 yI 19 (.conv (.int .u64) (.t 18)),
 yC 20 109 19,
 yI 21 (.bin .add .none (.v (.str [71])) (.t 20)),
 yD 22 83 4 21]
def q2br8:yW:=[
 yM 23 0,
 yI 24 (.lenSl (.t 23)),
 yK 25 .i64 0]
def q2br9:yW:=[
 yB 26 .lss 25 24]
def q2br10:yW:=[
 yI 27 (.iaSl 36 (.t 23) (.t 25)),
 yL 28 true 36 27,
 yI 6 (.alloc [(.int .i64 0),(.int .u8 0),(.int .u8 0),(.int .u8 0),(.int .u8 0),(.int .u8 0),(.int .u8 0),(.int .u8 0),(.int .u8 0),(.int .u8 0),(.int .u8 0),(.int .u8 0),(.int .u8 0),(.int .u8 0),(.int .u8 0),(.int .u8 0),(.int .u8 0),(.int .u8 0),(.int .u8 0),(.int .u8 0),(.int .u8 0),(.int .u8 0),(.int .u8 0),(.int .u8 0),(.int .u8 0),(.int .u8 0),(.int .u8 0),(.int .u8 0),(.int .u8 0),(.int .u8 0),(.int .u8 0),(.int .u8 0),(.int .u8 0),(.int .i64 0),(.str []),.nilsl]),
 yS 36 6 28]
def q2br11:yW:=[
 yL 30 true 36 6,
 yC 31 147 30,
 yM 29 31,
 yE 32 0 29,
 yE 33 1 29,
 yM 7 32,
 yM 8 33]
def q2br12:yW:=[
 yM 34 8,
 yJ 35 .neq 34 .i64 0]
def q2br13:yW:=[
 yI 2 (.mv (.v (.str []))),
 yK 3 .i64 2]
def q2bc14:yX:=yq q2br13 .ret
def q2bc15:yX:=.cond (.t 35) q2bc14 .skip
def q2bc16:yX:=yq q2br12 q2bc15
def q2br17:yW:=[
 yM 36 7,
 yC 37 129 36,
 yD 38 83 4 37]
def q2bc18:yX:=.seq q2bc16 (.reg q2br17)
def q2bc19:yX:=yq q2br11 q2bc18
def q2bc20:yX:=yq q2br10 q2bc19
def q2br21:yW:=[
 yJ 39 .add 25 .i64 1,
 yM 25 39]
def q2bc22:yX:=.seq (.block 1 q2bc20) (.reg q2br21)
def q2bc23:yX:=.seq (.cond (.t 26) .skip (.exit 0)) q2bc22
def q2bc24:yX:=yq q2br9 q2bc23
def q2bc25:yX:=.loop q2bc24
def q2bc26:yX:=.block 0 q2bc25
def q2bc27:yX:=yq q2br8 q2bc26
def q2br28:yW:=[
 yC 40 86 4,
 yM 2 40,
 yK 3 .i64 0]
def q2bc29:yX:=yq q2br28 .ret
def q2bc30:yX:=.seq q2bc27 q2bc29
def q2bc31:yX:=yq q2br7 q2bc30
def q2bc32:yX:=yq q2br6 q2bc31
def q2bc33:yX:=.seq q2bc5 q2bc32
def q2bc34:yX:=yq q2br0 q2bc33
attribute [go_sem] q2br0 q2br1 q2br2 q2br6 q2br7 q2br8 q2br9 q2br10 q2br11 q2br12 q2br13 q2br17 q2br21 q2br28
theorem q2bok:cFn TC 116=some (41,[.t 2,.t 3],q2bc34):=by kernel_rfl
def q2cr0:yW:=[
 yI 3 (.box (.t 1)),
 yI 4 (.mv (.v (.bool false)))]
def q2cr1:yW:=[
 yM 5 0,
 yL 6 true 33 3,
 yD 7 159 5 6,
 yJ 8 .geq 7 .i64 0,
 yM 4 8]
def q2cc2:yX:=yq q2cr1 .ret
def q2cc3:yX:=yq q2cr0 q2cc2
attribute [go_sem] q2cr0 q2cr1
theorem q2cok:cFn TC 141=some (9,[.t 4],q2cc3):=by kernel_rfl
def q2dr0:yW:=[
 yK 4 .u64 0,
 yI 5 (.mv (.v (.str []))),
 yI 6 (.mv (.v (.bool false)))]
def q2dr1:yW:=[
 yM 8 0,
 yM 9 1,
 yD 10 160 8 9,
 yM 7 10,
 yE 11 0 7,
 yE 12 1 7,
 yM 5 11,
 yM 6 12]
def q2dr2:yW:=[
 yM 13 6,
 yI 14 (.un .not (.t 13))]
def q2dr3:yW:=[
 yK 4 .u64 0,
 yI 5 (.mv (.v (.str []))),
 yI 6 (.mv (.v (.bool false)))]
def q2dc4:yX:=yq q2dr3 .ret
def q2dc5:yX:=.cond (.t 14) q2dc4 .skip
def q2dc6:yX:=yq q2dr2 q2dc5
def q2dr7:yW:=[
 yM 15 5,
 yC 16 145 15,
 yE 17 0 16,
 yE 18 1 16,
 yE 19 2 16,
 yM 4 17,
 yM 5 18,
 yM 6 19]
def q2dc8:yX:=yq q2dr7 .ret
def q2dc9:yX:=.seq q2dc6 q2dc8
def q2dc10:yX:=yq q2dr1 q2dc9
def q2dc11:yX:=yq q2dr0 q2dc10
attribute [go_sem] q2dr0 q2dr1 q2dr2 q2dr3 q2dr7
theorem q2dok:cFn TC 142=some (20,[.t 4,.t 5,.t 6],q2dc11):=by kernel_rfl
def q2er0:yW:=[
 yI 3 (.box (.t 1)),
 yK 4 .i64 0]
def q2er1:yW:=[
 yM 6 0,
 yI 7 (.lenSl (.t 6)),
 yK 8 .i64 0]
def q2er2:yW:=[
 yB 9 .lss 8 7]
def q2er3:yW:=[
 yM 10 8,
 yM 5 10]
def q2er4:yW:=[
 ⟨some 11,none,.rd,.load true 33 (.t 3)⟩,
 yM 12 0,
 yM 13 5,
 yI 14 (.iaSl 33 (.t 12) (.t 13)),
 ⟨some 15,none,.rd,.load true 33 (.t 14)⟩,
 yI 16 (.bin .eql (.agg ([(.i .i64)]++(List.replicate 32 (.i .u8)++ []))) (.t 11) (.t 15))]
def q2er5:yW:=[
 yM 17 5,
 yM 4 17]
def q2ec6:yX:=yq q2er5 .ret
def q2ec7:yX:=.cond (.t 16) q2ec6 .skip
def q2ec8:yX:=yq q2er4 q2ec7
def q2ec9:yX:=yq q2er3 q2ec8
def q2er10:yW:=[
 yJ 18 .add 8 .i64 1,
 yM 8 18]
def q2ec11:yX:=.seq (.block 1 q2ec9) (.reg q2er10)
def q2ec12:yX:=.seq (.cond (.t 9) .skip (.exit 0)) q2ec11
def q2ec13:yX:=yq q2er2 q2ec12
def q2ec14:yX:=.loop q2ec13
def q2ec15:yX:=.block 0 q2ec14
def q2ec16:yX:=yq q2er1 q2ec15
def q2er17:yW:=[
 yI 4 (.mv (.v (.int .i64 (-1))))]
def q2ec18:yX:=yq q2er17 .ret
def q2ec19:yX:=.seq q2ec16 q2ec18
def q2ec20:yX:=yq q2er0 q2ec19
attribute [go_sem] q2er0 q2er1 q2er2 q2er3 q2er4 q2er5 q2er10 q2er17
theorem q2eok:cFn TC 159=some (19,[.t 4],q2ec20):=by kernel_rfl
def q2fr0:yW:=[
 yI 4 (.mv (.v (.str []))),
 yI 5 (.mv (.v (.bool false)))]
def q2fr1:yW:=[
 yM 6 0,
 yM 7 1,
 yD 8 173 6 7,
 yE 9 0 8,
 yE 10 1 8,
 yM 4 9,
 yM 5 10]
def q2fc2:yX:=yq q2fr1 .ret
def q2fc3:yX:=yq q2fr0 q2fc2
attribute [go_sem] q2fr0 q2fr1
theorem q2fok:cFn TC 160=some (11,[.t 4,.t 5],q2fc3):=by kernel_rfl
def q2gr0:yW:=[
 yI 4 (.mv (.v (.str []))),
 yI 5 (.mv (.v (.bool false)))]
def q2gr1:yW:=[
 yM 6 0,
 yM 7 1,
 yD 8 176 6 7,
 yI 9 (.un .not (.t 8))]
def q2gr2:yW:=[
 yM 10 0,
 yM 4 10,
 yI 5 (.mv (.v (.bool false)))]
def q2gc3:yX:=yq q2gr2 .ret
def q2gc4:yX:=.cond (.t 9) q2gc3 .skip
def q2gc5:yX:=yq q2gr1 q2gc4
def q2gr6:yW:=[
 yM 11 0,
 yM 12 1,
 yI 13 (.lenStr (.t 12)),
 yI 14 (.slice .str (.t 11) (some (.t 13)) none none),
 yM 4 14,
 yI 5 (.mv (.v (.bool true)))]
def q2gc7:yX:=yq q2gr6 .ret
def q2gc8:yX:=.seq q2gc5 q2gc7
def q2gc9:yX:=yq q2gr0 q2gc8
attribute [go_sem] q2gr0 q2gr1 q2gr2 q2gr6
theorem q2gok:cFn TC 173=some (15,[.t 4,.t 5],q2gc9):=by kernel_rfl
end
section
set_option maxRecDepth 10000
def q2hr0:yW:=[
 yI 4 (.mv (.v (.bool false)))]
def q2hr1:yW:=[
 yM 26 1,
 yI 27 (.lenSl (.t 26)),
 yJ 28 .gtr 27 .i64 16]
def q2hr2:yW:=[
 yI 29 (.call (.v (.fn 19 [])) []),
 yM 4 29]
def q2hc3:yX:=yq q2hr2 .ret
def q2hc4:yX:=.cond (.t 28) q2hc3 .skip
def q2hc5:yX:=yq q2hr1 q2hc4
def q2hr6:yW:=[
 yM 30 0,
 yI 31 (.conv (.int .i64) (.t 30)),
 yJ 32 .rem 31 .i64 7,
 yI 33 (.bin .add .none (.v (.int .i64 2)) (.t 32)),
 yM 5 33]
def q2hr7:yW:=[
 yI 34 (.call (.v (.fn 9 [])) [(.v (.str [108,111,103]))]),
 yM 6 34]
def q2hr8:yW:=[
 yM 36 6,
 yC 37 11 36,
 yM 38 5,
 yD 39 28 37 38,
 yM 35 39,
 yE 40 0 35,
 yE 41 1 35,
 yM 7 40,
 yM 8 41]
def q2hr9:yW:=[
 yM 42 6,
 yC 43 11 42,
 yC 44 10 43,
 yM 9 44]
def q2hr10:yW:=[
 yM 45 8,
 yJ 46 .neq 45 .i64 0]
def q2hr11:yW:=[
 yI 4 (.mv (.v (.bool false)))]
def q2hc12:yX:=yq q2hr11 .ret
def q2hc13:yX:=.cond (.t 46) q2hc12 .skip
def q2hc14:yX:=yq q2hr10 q2hc13
def q2hr15:yW:=[
 yK 10 .i64 0]
def q2hr16:yW:=[
 yM 47 10,
 yM 48 1,
 yI 49 (.lenSl (.t 48)),
 yB 50 .lss 47 49]
def q2hc17:yX:=.cond (.t 50) .skip (.exit 0)
def q2hc18:yX:=yq q2hr16 q2hc17
def q2hr19:yW:=[
 yM 53 1,
 yM 54 10,
 yI 55 (.iaSl 4 (.t 53) (.t 54)),
 yL 56 true 4 55,
 yM 57 6,
 yD 58 12 56 57,
 yI 11 (.alloc [(.int .i64 0),(.int .u8 0),(.int .u8 0),(.int .u8 0),(.int .u8 0),(.int .u8 0),(.int .u8 0),(.int .u8 0),(.int .u8 0),(.int .u8 0),(.int .u8 0),(.int .u8 0),(.int .u8 0),(.int .u8 0),(.int .u8 0),(.int .u8 0),(.int .u8 0),(.int .u8 0),(.int .u8 0),(.int .u8 0),(.int .u8 0),(.int .u8 0),(.int .u8 0),(.int .u8 0),(.int .u8 0),(.int .u8 0),(.int .u8 0),(.int .u8 0),(.int .u8 0),(.int .u8 0),(.int .u8 0),(.int .u8 0),(.int .u8 0),(.int .i64 0),(.str []),.nilsl]),
 yS 36 11 58]
def q2hr20:yW:=[
 yM 59 7,
 yM 60 10,
 yJ 61 .mul 60 .i64 5,
 yM 62 0,
 yI 63 (.conv (.int .i64) (.t 62)),
 yB 64 .add 61 63,
 yM 65 5,
 yB 66 .rem 64 65,
 ⟨some 67,none,.rd,.load true 36 (.t 11)⟩,
 ⟨some 68,none,.ef,.call (.v (.fn 21 [])) [(.t 59),(.t 66),(.t 67)]⟩,
 yJ 69 .eql 68 .i64 0,
 yM 70 9,
 ⟨some 71,none,.rd,.load true 36 (.t 11)⟩,
 yD 72 14 70 71,
 yJ 73 .eql 72 .i64 0,
 yI 74 (.bin .neq .bool (.t 69) (.t 73))]
def q2hr21:yW:=[
 yI 4 (.mv (.v (.bool false)))]
def q2hc22:yX:=yq q2hr21 .ret
def q2hc23:yX:=.cond (.t 74) q2hc22 .skip
def q2hc24:yX:=yq q2hr20 q2hc23
def zbg:ACode:=.seq (.reg q2hr19) q2hc24
def q2hr26:yW:=[
 yM 51 10,
 yJ 52 .add 51 .i64 1,
 yM 10 52]
def q2hc27:yX:=.seq (.block 1 zbg) (.reg q2hr26)
def q2hc28:yX:=.seq q2hc18 q2hc27
def q2hc29:yX:=.loop q2hc28
def q2hc30:yX:=.block 0 q2hc29
def q2hc31:yX:=yq q2hr15 q2hc30
def q2hr32:yW:=[
 yK 12 .i64 1]
def q2hr33:yW:=[
 yM 75 12,
 yM 76 5,
 yB 77 .lss 75 76]
def q2hc34:yX:=.cond (.t 77) .skip (.exit 2)
def q2hc35:yX:=yq q2hr33 q2hc34
def q2hr36:yW:=[
 yM 81 7,
 yM 82 12,
 yJ 83 .sub 82 .i64 1,
 yM 84 12,
 yI 85 (.call (.v (.fn 20 [])) [(.t 81),(.t 83),(.t 84)]),
 yM 80 85,
 yE 86 0 80,
 yE 87 1 80,
 yM 13 86,
 yM 14 87]
def q2hr37:yW:=[
 yM 88 14,
 yJ 89 .neq 88 .i64 0]
def q2hr38:yW:=[
 yI 4 (.mv (.v (.bool false)))]
def q2hc39:yX:=yq q2hr38 .ret
def q2hc40:yX:=.cond (.t 89) q2hc39 .skip
def q2hc41:yX:=yq q2hr37 q2hc40
def q2hc42:yX:=yq q2hr36 q2hc41
def q2hr43:yW:=[
 yM 78 12,
 yJ 79 .add 78 .i64 1,
 yM 12 79]
def q2hc44:yX:=.seq (.block 3 q2hc42) (.reg q2hr43)
def q2hc45:yX:=.seq q2hc35 q2hc44
def q2hc46:yX:=.loop q2hc45
def q2hc47:yX:=.block 2 q2hc46
def q2hc48:yX:=yq q2hr32 q2hc47
def q2hr49:yW:=[
 yM 90 5,
 yJ 91 .sub 90 .i64 2,
 yM 15 91]
def q2hr50:yW:=[
 yM 92 15,
 yJ 93 .gtr 92 .i64 0]
def q2hc51:yX:=.cond (.t 93) .skip (.exit 4)
def q2hc52:yX:=yq q2hr50 q2hc51
def q2hr53:yW:=[
 yM 97 7,
 yM 98 15,
 yM 99 15,
 yJ 100 .sub 99 .i64 1,
 yI 101 (.call (.v (.fn 20 [])) [(.t 97),(.t 98),(.t 100)]),
 yM 96 101,
 yE 102 0 96,
 yE 103 1 96,
 yM 16 102,
 yM 17 103]
def q2hr54:yW:=[
 yM 104 17,
 yJ 105 .neq 104 .i64 0]
def q2hr55:yW:=[
 yI 4 (.mv (.v (.bool false)))]
def q2hc56:yX:=yq q2hr55 .ret
def q2hc57:yX:=.cond (.t 105) q2hc56 .skip
def q2hc58:yX:=yq q2hr54 q2hc57
def q2hc59:yX:=yq q2hr53 q2hc58
def q2hr60:yW:=[
 yM 94 15,
 yJ 95 .sub 94 .i64 1,
 yM 15 95]
def q2hc61:yX:=.seq (.block 5 q2hc59) (.reg q2hr60)
def q2hc62:yX:=.seq q2hc52 q2hc61
def q2hc63:yX:=.loop q2hc62
def q2hc64:yX:=.block 4 q2hc63
def q2hc65:yX:=yq q2hr49 q2hc64
def q2hr66:yW:=[
 yM 107 9,
 yC 108 31 107,
 yM 106 108,
 yE 109 0 106,
 yE 110 1 106,
 yE 111 2 106,
 yI 18 (.alloc [(.int .i64 0),(.int .u8 0),(.int .u8 0),(.int .u8 0),(.int .u8 0),(.int .u8 0),(.int .u8 0),(.int .u8 0),(.int .u8 0),(.int .u8 0),(.int .u8 0),(.int .u8 0),(.int .u8 0),(.int .u8 0),(.int .u8 0),(.int .u8 0),(.int .u8 0),(.int .u8 0),(.int .u8 0),(.int .u8 0),(.int .u8 0),(.int .u8 0),(.int .u8 0),(.int .u8 0),(.int .u8 0),(.int .u8 0),(.int .u8 0),(.int .u8 0),(.int .u8 0),(.int .u8 0),(.int .u8 0),(.int .u8 0),(.int .u8 0),(.int .i64 0),(.str []),.nilsl]),
 yI 19 (.alloc [(.int .i64 0),(.int .u8 0),(.int .u8 0),(.int .u8 0),(.int .u8 0),(.int .u8 0),(.int .u8 0),(.int .u8 0),(.int .u8 0),(.int .u8 0),(.int .u8 0),(.int .u8 0),(.int .u8 0),(.int .u8 0),(.int .u8 0),(.int .u8 0),(.int .u8 0),(.int .u8 0),(.int .u8 0),(.int .u8 0),(.int .u8 0),(.int .u8 0),(.int .u8 0),(.int .u8 0),(.int .u8 0),(.int .u8 0),(.int .u8 0),(.int .u8 0),(.int .u8 0),(.int .u8 0),(.int .u8 0),(.int .u8 0),(.int .u8 0),(.int .i64 0),(.str []),.nilsl]),
 yS 36 18 109,
 yS 36 19 110,
 yM 20 111]
def q2hr67:yW:=[
 yK 21 .i64 0]
def q2hr68:yW:=[
 yM 112 21,
 yM 113 5,
 yB 114 .lss 112 113]
def q2hc69:yX:=.cond (.t 114) .skip (.exit 6)
def q2hc70:yX:=yq q2hr68 q2hc69
def q2hr71:yW:=[
 yM 117 7,
 yM 118 21,
 yD 119 27 117 118,
 yM 22 119]
def q2hr72:yW:=[
 yM 121 22,
 yC 122 31 121,
 yM 120 122,
 yE 123 0 120,
 yE 124 1 120,
 yE 125 2 120,
 yI 23 (.alloc [(.int .i64 0),(.int .u8 0),(.int .u8 0),(.int .u8 0),(.int .u8 0),(.int .u8 0),(.int .u8 0),(.int .u8 0),(.int .u8 0),(.int .u8 0),(.int .u8 0),(.int .u8 0),(.int .u8 0),(.int .u8 0),(.int .u8 0),(.int .u8 0),(.int .u8 0),(.int .u8 0),(.int .u8 0),(.int .u8 0),(.int .u8 0),(.int .u8 0),(.int .u8 0),(.int .u8 0),(.int .u8 0),(.int .u8 0),(.int .u8 0),(.int .u8 0),(.int .u8 0),(.int .u8 0),(.int .u8 0),(.int .u8 0),(.int .u8 0),(.int .i64 0),(.str []),.nilsl]),
 yI 24 (.alloc [(.int .i64 0),(.int .u8 0),(.int .u8 0),(.int .u8 0),(.int .u8 0),(.int .u8 0),(.int .u8 0),(.int .u8 0),(.int .u8 0),(.int .u8 0),(.int .u8 0),(.int .u8 0),(.int .u8 0),(.int .u8 0),(.int .u8 0),(.int .u8 0),(.int .u8 0),(.int .u8 0),(.int .u8 0),(.int .u8 0),(.int .u8 0),(.int .u8 0),(.int .u8 0),(.int .u8 0),(.int .u8 0),(.int .u8 0),(.int .u8 0),(.int .u8 0),(.int .u8 0),(.int .u8 0),(.int .u8 0),(.int .u8 0),(.int .u8 0),(.int .i64 0),(.str []),.nilsl]),
 yS 36 23 123,
 yS 36 24 124,
 yM 25 125]
def q2hr73:yW:=[
 yM 126 22,
 yM 127 9,
 yD 128 17 126 127,
 yI 129 (.un .not (.t 128)),
 yM 130 129,
 yV 131 130 false 25,
 yV 132 130 false 20,
 yG 133 130 false (.bin .neq .bool (.t 131) (.t 132)),
 yP 134 130 133]
def q2hr74:yW:=[
 yI 4 (.mv (.v (.bool false)))]
def q2hc75:yX:=yq q2hr74 .ret
def q2hc76:yX:=.cond (.t 134) q2hc75 .skip
def q2hc77:yX:=yq q2hr73 q2hc76
def q2hc78:yX:=yq q2hr72 q2hc77
def q2hc79:yX:=yq q2hr71 q2hc78
def q2hr80:yW:=[
 yM 115 21,
 yJ 116 .add 115 .i64 1,
 yM 21 116]
def q2hc81:yX:=.seq (.block 7 q2hc79) (.reg q2hr80)
def q2hc82:yX:=.seq q2hc70 q2hc81
def q2hc83:yX:=.loop q2hc82
def q2hc84:yX:=.block 6 q2hc83
def q2hc85:yX:=yq q2hr67 q2hc84
def q2hr86:yW:=[
 yI 135 (.call (.v (.fn 19 [])) []),
 yM 4 135]
def q2hc87:yX:=yq q2hr86 .ret
def q2hc88:yX:=.seq q2hc85 q2hc87
def zbh:ACode:=.seq (.reg q2hr66) q2hc88
def zbi:ACode:=.seq q2hc65 zbh
def zbj:ACode:=.seq q2hc48 zbi
def zbk:ACode:=.seq q2hc31 zbj
def q2hc93:yX:=.seq q2hc14 zbk
def q2hc94:yX:=yq q2hr9 q2hc93
def q2hc95:yX:=yq q2hr8 q2hc94
def q2hc96:yX:=yq q2hr7 q2hc95
def q2hc97:yX:=yq q2hr6 q2hc96
def q2hc98:yX:=.seq q2hc5 q2hc97
def q2hc99:yX:=yq q2hr0 q2hc98
attribute [go_sem] q2hr0 q2hr1 q2hr2 q2hr6 q2hr7 q2hr8 q2hr9 q2hr10 q2hr11 q2hr15 q2hr16 q2hr19 q2hr20 q2hr21 q2hr26 q2hr32 q2hr33 q2hr36 q2hr37 q2hr38 q2hr43 q2hr49 q2hr50 q2hr53 q2hr54 q2hr55 q2hr60 q2hr66 q2hr67 q2hr68 q2hr71 q2hr72 q2hr73 q2hr74 q2hr80 q2hr86
theorem q2hok:cFn TC 6=some (136,[.t 4],q2hc99):=by kernel_rfl
def q2ir0:yW:=[
 yI 0 (.mv (.v (.bool false)))]
def q2ir1:yW:=[
 yI 9 (.call (.v (.fn 9 [])) [(.v (.str [107]))]),
 yM 1 9]
def q2ir2:yW:=[
 yM 11 1,
 yC 12 11 11,
 yI 13 (.call (.v (.fn 28 [])) [(.t 12),(.v (.int .i64 3))]),
 yM 10 13,
 yE 14 0 10,
 yE 15 1 10,
 yM 2 14,
 yM 3 15]
def q2ir3:yW:=[
 yI 16 (.build [(.int .u8 0),(.int .u8 0),(.int .u8 0),(.int .u8 0)] [(3,1,(.v (.int .u8 1)))]),
 yM 17 1,
 yD 18 12 16 17,
 yI 4 (.alloc [(.int .i64 0),(.int .u8 0),(.int .u8 0),(.int .u8 0),(.int .u8 0),(.int .u8 0),(.int .u8 0),(.int .u8 0),(.int .u8 0),(.int .u8 0),(.int .u8 0),(.int .u8 0),(.int .u8 0),(.int .u8 0),(.int .u8 0),(.int .u8 0),(.int .u8 0),(.int .u8 0),(.int .u8 0),(.int .u8 0),(.int .u8 0),(.int .u8 0),(.int .u8 0),(.int .u8 0),(.int .u8 0),(.int .u8 0),(.int .u8 0),(.int .u8 0),(.int .u8 0),(.int .u8 0),(.int .u8 0),(.int .u8 0),(.int .u8 0),(.int .i64 0),(.str []),.nilsl]),
 yS 36 4 18]
def q2ir4:yW:=[
 yM 19 3,
 yJ 20 .neq 19 .i64 0,
 yM 21 20,
 yV 22 21 false 2,
 yU 23 21 false true 36 4,
 yG 24 21 false (.call (.v (.fn 21 [])) [(.t 22),(.v (.int .i64 0)),(.t 23)]),
 yG 25 21 false (.bin .neq .none (.t 24) (.v (.int .i64 2))),
 yP 26 21 25,
 yM 27 26,
 yV 28 27 false 2,
 yG 29 27 false (.call (.v (.fn 22 [])) [(.t 28),(.v (.int .i64 1)),(.v (.int .i64 0))]),
 yG 30 27 false (.bin .neq .none (.t 29) (.v (.int .i64 0))),
 yP 31 27 30,
 yM 32 31,
 yV 33 32 false 2,
 yG 34 32 false (.call (.v (.fn 23 [])) [(.t 33),(.v (.int .i64 0))]),
 yG 35 32 false (.bin .neq .none (.t 34) (.v (.int .i64 0))),
 yP 36 32 35,
 yM 37 36,
 yV 38 37 false 2,
 yG 39 37 false (.call (.v (.fn 23 [])) [(.t 38),(.v (.int .i64 0))]),
 yG 40 37 false (.bin .neq .none (.t 39) (.v (.int .i64 0))),
 yP 41 37 40,
 yM 42 41,
 yV 43 42 false 2,
 ⟨some 44,some (42,false),.ef,.call (.v (.fn 27 [])) [(.t 43),(.v (.int .i64 1))]⟩,
 yT 45 42 false 0 4,
 ⟨some 46,some (42,false),.rd,.load true 33 (.t 45)⟩,
 yG 47 42 false (.call (.v (.fn 30 [])) [(.t 44),(.t 46)]),
 yG 48 42 false (.un .not (.t 47)),
 yP 49 42 48,
 yM 50 49,
 yV 51 50 false 2,
 yG 52 50 false (.call (.v (.fn 26 [])) [(.t 51)]),
 yG 53 50 false (.bin .neq .none (.t 52) (.v (.int .i64 0))),
 yP 54 50 53]
def q2ir5:yW:=[
 yI 0 (.mv (.v (.bool false)))]
def q2ic6:yX:=yq q2ir5 .ret
def q2ic7:yX:=.cond (.t 54) q2ic6 .skip
def q2ic8:yX:=yq q2ir4 q2ic7
def q2ir9:yW:=[
 yM 56 2,
 yI 57 (.call (.v (.fn 20 [])) [(.t 56),(.v (.int .i64 1)),(.v (.int .i64 2))]),
 yM 55 57,
 yE 58 0 55,
 yE 59 1 55,
 yM 5 58,
 yM 6 59]
def q2ir10:yW:=[
 yM 61 2,
 yI 62 (.call (.v (.fn 20 [])) [(.t 61),(.v (.int .i64 1)),(.v (.int .i64 2))]),
 yM 60 62,
 yE 63 0 60,
 yE 64 1 60,
 yM 7 63,
 yM 8 64]
def q2ir11:yW:=[
 yM 65 5,
 yJ 66 .eql 65 .i64 4,
 yM 67 66,
 yV 68 67 true 6,
 yG 69 67 true (.bin .eql .none (.t 68) (.v (.int .i64 0))),
 yQ 70 67 69,
 yM 71 70,
 yV 72 71 true 7,
 yG 73 71 true (.bin .eql .none (.t 72) (.v (.int .i64 2))),
 yQ 74 71 73,
 yM 75 74,
 yV 76 75 true 8,
 yG 77 75 true (.bin .eql .none (.t 76) (.v (.int .i64 0))),
 yQ 78 75 77,
 yM 79 78,
 yV 80 79 true 2,
 ⟨some 81,some (79,true),.ef,.call (.v (.fn 27 [])) [(.t 80),(.v (.int .i64 2))]⟩,
 yT 82 79 true 0 4,
 ⟨some 83,some (79,true),.rd,.load true 33 (.t 82)⟩,
 yG 84 79 true (.call (.v (.fn 30 [])) [(.t 81),(.t 83)]),
 yQ 85 79 84,
 yM 0 85]
def q2ic12:yX:=yq q2ir11 .ret
def q2ic13:yX:=yq q2ir10 q2ic12
def q2ic14:yX:=yq q2ir9 q2ic13
def q2ic15:yX:=.seq q2ic8 q2ic14
def q2ic16:yX:=yq q2ir3 q2ic15
def q2ic17:yX:=yq q2ir2 q2ic16
def q2ic18:yX:=yq q2ir1 q2ic17
def q2ic19:yX:=yq q2ir0 q2ic18
attribute [go_sem] q2ir0 q2ir1 q2ir2 q2ir3 q2ir4 q2ir5 q2ir9 q2ir10 q2ir11
theorem q2iok:cFn TC 19=some (86,[.t 0],q2ic19):=by kernel_rfl
def q2jr0:yW:=[
 yK 6 .i64 0,
 yK 7 .i64 0]
def q2jr1:yW:=[
 yM 9 0,
 yC 10 62 9,
 yM 8 10]
def q2jr2:yW:=[
 yK 6 .i64 0,
 yK 7 .i64 1]
def q2jc3:yX:=yq q2jr2 .ret
def q2jr4:yW:=[
 yM 12 0,
 yM 13 1,
 yD 14 63 12 13,
 yI 15 (.un .not (.t 14)),
 yM 16 15,
 yV 17 16 false 0,
 yV 18 16 false 2,
 yG 19 16 false (.call (.v (.fn 63 [])) [(.t 17),(.t 18)]),
 yG 20 16 false (.un .not (.t 19)),
 yP 21 16 20,
 yM 22 21,
 yV 23 22 false 1,
 yV 24 22 false 2,
 yG 25 22 false (.bin .eql .none (.t 23) (.t 24)),
 yP 26 22 25,
 yM 11 26]
def q2jr5:yW:=[
 yK 6 .i64 0,
 yK 7 .i64 2]
def q2jc6:yX:=yq q2jr5 .ret
def q2jc7:yX:=.cond (.t 11) q2jc6 .skip
def q2jc8:yX:=yq q2jr4 q2jc7
def q2jc9:yX:=.cond (.t 8) q2jc3 q2jc8
def q2jc10:yX:=yq q2jr1 q2jc9
def q2jr11:yW:=[
 yM 27 0,
 yM 28 1,
 yM 29 2,
 yI 30 (.call (.v (.fn 64 [])) [(.t 27),(.t 28),(.t 29)]),
 yM 31 0,
 yM 32 2,
 yM 33 1,
 yI 34 (.call (.v (.fn 64 [])) [(.t 31),(.t 32),(.t 33)]),
 yB 35 .add 30 34,
 yM 6 35,
 yK 7 .i64 0]
def q2jc12:yX:=yq q2jr11 .ret
def q2jc13:yX:=.seq (.block 0 q2jc10) q2jc12
def q2jc14:yX:=yq q2jr0 q2jc13
attribute [go_sem] q2jr0 q2jr1 q2jr2 q2jr4 q2jr5 q2jr11
theorem q2jok:cFn TC 20=some (36,[.t 6,.t 7],q2jc14):=by kernel_rfl
def q2kr0:yW:=[
 yI 5 (.box (.t 2)),
 yK 6 .i64 0]
def q2kr1:yW:=[
 yM 7 0,
 yM 8 1,
 yD 9 63 7 8,
 yI 10 (.un .not (.t 9))]
def q2kr2:yW:=[
 yK 6 .i64 0]
def q2kc3:yX:=yq q2kr2 .ret
def q2kc4:yX:=.cond (.t 10) q2kc3 .skip
def q2kc5:yX:=yq q2kr1 q2kc4
def q2kr6:yW:=[
 yM 11 0,
 yI 12 (.nilc (.t 11)),
 yF 13 0 12,
 ⟨some 14,none,.rd,.load false 1 (.t 13)⟩,
 yM 15 1,
 yI 16 (.iaSl 1 (.t 14) (.t 15)),
 ⟨some 17,none,.rd,.load false 1 (.t 16)⟩,
 ⟨some 18,none,.rd,.load true 36 (.t 5)⟩,
 yD 19 14 17 18,
 yM 6 19]
def q2kc7:yX:=yq q2kr6 .ret
def q2kc8:yX:=.seq q2kc5 q2kc7
def q2kc9:yX:=yq q2kr0 q2kc8
attribute [go_sem] q2kr0 q2kr1 q2kr2 q2kr6
theorem q2kok:cFn TC 21=some (20,[.t 6],q2kc9):=by kernel_rfl
def q2lr0:yW:=[
 yK 6 .i64 0]
def q2lr1:yW:=[
 yM 10 0,
 yC 11 62 10,
 yM 9 11]
def q2lr2:yW:=[
 yK 6 .i64 1]
def q2lc3:yX:=yq q2lr2 .ret
def q2lr4:yW:=[
 yM 13 0,
 yM 14 1,
 yD 15 63 13 14,
 yI 16 (.un .not (.t 15)),
 yM 17 16,
 yV 18 17 false 0,
 yV 19 17 false 2,
 yG 20 17 false (.call (.v (.fn 63 [])) [(.t 18),(.t 19)]),
 yG 21 17 false (.un .not (.t 20)),
 yP 22 17 21,
 yM 23 22,
 yV 24 23 false 1,
 yV 25 23 false 2,
 yG 26 23 false (.bin .eql .none (.t 24) (.t 25)),
 yP 27 23 26,
 yM 12 27]
def q2lr5:yW:=[
 yK 6 .i64 2]
def q2lc6:yX:=yq q2lr5 .ret
def q2lc7:yX:=.cond (.t 12) q2lc6 .skip
def q2lc8:yX:=yq q2lr4 q2lc7
def q2lc9:yX:=.cond (.t 9) q2lc3 q2lc8
def q2lc10:yX:=yq q2lr1 q2lc9
def q2lr11:yW:=[
 yM 29 0,
 yI 30 (.nilc (.t 29)),
 yF 31 0 30,
 yL 32 false 1 31,
 yM 33 1,
 yI 34 (.iaSl 1 (.t 32) (.t 33)),
 yL 35 false 1 34,
 yC 36 29 35,
 yC 37 65 36,
 yM 28 37,
 yE 38 0 28,
 yE 39 1 28,
 yM 7 38,
 yM 8 39]
def q2lr12:yW:=[
 yM 40 8,
 yJ 41 .neq 40 .i64 0]
def q2lr13:yW:=[
 yM 42 8,
 yM 6 42]
def q2lc14:yX:=yq q2lr13 .ret
def q2lc15:yX:=.cond (.t 41) q2lc14 .skip
def q2lc16:yX:=yq q2lr12 q2lc15
def q2lr17:yW:=[
 yM 43 0,
 yI 44 (.nilc (.t 43)),
 yF 45 1 44,
 yL 46 false 1 45,
 yM 47 1,
 yM 48 2,
 yM 49 7,
 yI 50 (.build [(.int .i64 0),(.int .i64 0),(.str [])] [(0,1,(.t 47)),(1,1,(.t 48)),(2,1,(.t 49))]),
 yD 51 66 46 50,
 yM 6 51]
def q2lc18:yX:=yq q2lr17 .ret
def q2lc19:yX:=.seq q2lc16 q2lc18
def q2lc20:yX:=yq q2lr11 q2lc19
def q2lc21:yX:=.seq (.block 0 q2lc10) q2lc20
def q2lc22:yX:=yq q2lr0 q2lc21
attribute [go_sem] q2lr0 q2lr1 q2lr2 q2lr4 q2lr5 q2lr11 q2lr12 q2lr13 q2lr17
theorem q2lok:cFn TC 22=some (52,[.t 6],q2lc22):=by kernel_rfl
def q2mr0:yW:=[
 yK 4 .i64 0]
def q2mr1:yW:=[
 yM 7 0,
 yC 8 62 7]
def q2mr2:yW:=[
 yK 4 .i64 1]
def q2mc3:yX:=yq q2mr2 .ret
def q2mc4:yX:=.cond (.t 8) q2mc3 .skip
def q2mc5:yX:=yq q2mr1 q2mc4
def q2mr6:yW:=[
 yM 10 0,
 yI 11 (.nilc (.t 10)),
 yF 12 1 11,
 yL 13 false 1 12,
 yM 14 1,
 yD 15 67 13 14,
 yM 9 15,
 yE 16 0 9,
 yE 17 1 9,
 yI 5 (.alloc [(.int .i64 0),(.int .i64 0),(.str [])]),
 yS 3 5 16,
 yM 6 17]
def q2mr7:yW:=[
 yM 18 6,
 yJ 19 .eql 18 .i64 0]
def q2mr8:yW:=[
 yM 20 0,
 yL 21 true 3 5,
 yD 22 68 20 21]
def q2mc9:yX:=.cond (.t 19) (.reg q2mr8) .skip
def q2mc10:yX:=yq q2mr7 q2mc9
def q2mr11:yW:=[
 yM 23 6,
 yM 4 23]
def q2mc12:yX:=yq q2mr11 .ret
def q2mc13:yX:=.seq q2mc10 q2mc12
def q2mc14:yX:=yq q2mr6 q2mc13
def q2mc15:yX:=.seq q2mc5 q2mc14
def q2mc16:yX:=yq q2mr0 q2mc15
attribute [go_sem] q2mr0 q2mr1 q2mr2 q2mr6 q2mr7 q2mr8 q2mr11
theorem q2mok:cFn TC 23=some (24,[.t 4],q2mc16):=by kernel_rfl
def q2nr0:yW:=[
 yK 2 .i64 0]
def q2nr1:yW:=[
 yM 3 0,
 yC 4 62 3]
def q2nr2:yW:=[
 yK 2 .i64 0]
def q2nc3:yX:=yq q2nr2 .ret
def q2nc4:yX:=.cond (.t 4) q2nc3 .skip
def q2nc5:yX:=yq q2nr1 q2nc4
def q2nr6:yW:=[
 yM 5 0,
 yI 6 (.nilc (.t 5)),
 yF 7 1 6,
 yL 8 false 1 7,
 yC 9 71 8,
 yI 10 (.lenSl (.t 9)),
 yM 2 10]
def q2nc7:yX:=yq q2nr6 .ret
def q2nc8:yX:=.seq q2nc5 q2nc7
def q2nc9:yX:=yq q2nr0 q2nc8
attribute [go_sem] q2nr0 q2nr1 q2nr2 q2nr6
theorem q2nok:cFn TC 26=some (11,[.t 2],q2nc9):=by kernel_rfl
def q2or0:yW:=[
 yI 4 (.mv (.v .nilp))]
def q2or1:yW:=[
 yM 5 0,
 yM 6 1,
 yD 7 63 5 6,
 yI 8 (.un .not (.t 7))]
def q2or2:yW:=[
 yI 4 (.mv (.v .nilp))]
def q2oc3:yX:=yq q2or2 .ret
def q2oc4:yX:=.cond (.t 8) q2oc3 .skip
def q2oc5:yX:=yq q2or1 q2oc4
def q2or6:yW:=[
 yM 9 0,
 yI 10 (.nilc (.t 9)),
 yF 11 0 10,
 yL 12 false 1 11,
 yM 13 1,
 yI 14 (.iaSl 1 (.t 12) (.t 13)),
 yL 15 false 1 14,
 yC 16 13 15,
 yM 4 16]
def q2oc7:yX:=yq q2or6 .ret
def q2oc8:yX:=.seq q2oc5 q2oc7
def q2oc9:yX:=yq q2or0 q2oc8
attribute [go_sem] q2or0 q2or1 q2or2 q2or6
theorem q2ook:cFn TC 27=some (17,[.t 4],q2oc9):=by kernel_rfl
def q2pr0:yW:=[
 yI 2 (.box (.t 0)),
 yI 4 (.mv (.v .nilp)),
 yK 5 .i64 0]
def q2pr1:yW:=[
 yM 9 1,
 yJ 10 .lss 9 .i64 2,
 yM 11 10,
 yV 12 11 false 1,
 yG 13 11 false (.bin .gtr .none (.t 12) (.v (.int .i64 8))),
 yP 14 11 13]
def q2pr2:yW:=[
 yI 4 (.mv (.v .nilp)),
 yK 5 .i64 2]
def q2pc3:yX:=yq q2pr2 .ret
def q2pc4:yX:=.cond (.t 14) q2pc3 .skip
def q2pc5:yX:=yq q2pr1 q2pc4
def q2pr6:yW:=[
 yM 16 1,
 yC 17 72 16,
 yM 15 17,
 yE 18 0 15,
 yE 19 1 15,
 yM 6 18,
 yM 7 19]
def q2pr7:yW:=[
 yM 20 7,
 yJ 21 .neq 20 .i64 0]
def q2pr8:yW:=[
 yM 22 7,
 yI 4 (.mv (.v .nilp)),
 yM 5 22]
def q2pc9:yX:=yq q2pr8 .ret
def q2pc10:yX:=.cond (.t 21) q2pc9 .skip
def q2pc11:yX:=yq q2pr7 q2pc10
def q2pr12:yW:=[
 yM 23 6,
 yI 24 (.build [.nilsl,.nilp] [(1,1,(.t 23))]),
 yI 25 (.box (.t 24)),
 yM 8 25]
def q2pr13:yW:=[
 yM 26 1,
 yK 27 .i64 0]
def q2pr14:yW:=[
 yB 28 .lss 27 26]
def q2pr15:yW:=[
 yM 29 8,
 yM 30 8,
 yI 31 (.nilc (.t 30)),
 yF 32 0 31,
 ⟨some 33,none,.rd,.load false 1 (.t 32)⟩,
 ⟨some 34,none,.rd,.load true 32 (.t 2)⟩,
 ⟨some 35,none,.ef,.call (.v (.fn 10 [])) [(.t 34)]⟩,
 yI 36 (.lit 1 [(.t 35)]),
 yI 37 (.app 1 (.t 33) (.t 36)),
 yI 38 (.nilc (.t 29)),
 yF 39 0 38,
 yS 1 39 37]
def q2pr16:yW:=[
 yJ 40 .add 27 .i64 1,
 yM 27 40]
def q2pc17:yX:=.seq (.block 1 (.reg q2pr15)) (.reg q2pr16)
def q2pc18:yX:=.seq (.cond (.t 28) .skip (.exit 0)) q2pc17
def q2pc19:yX:=yq q2pr14 q2pc18
def q2pc20:yX:=.loop q2pc19
def q2pc21:yX:=.block 0 q2pc20
def q2pc22:yX:=yq q2pr13 q2pc21
def q2pr23:yW:=[
 yM 41 8,
 yM 4 41,
 yK 5 .i64 0]
def q2pc24:yX:=yq q2pr23 .ret
def q2pc25:yX:=.seq q2pc22 q2pc24
def q2pc26:yX:=yq q2pr12 q2pc25
def q2pc27:yX:=.seq q2pc11 q2pc26
def q2pc28:yX:=yq q2pr6 q2pc27
def q2pc29:yX:=.seq q2pc5 q2pc28
def q2pc30:yX:=yq q2pr0 q2pc29
attribute [go_sem] q2pr0 q2pr1 q2pr2 q2pr6 q2pr7 q2pr8 q2pr12 q2pr13 q2pr14 q2pr15 q2pr16 q2pr23
theorem q2pok:cFn TC 28=some (42,[.t 4,.t 5],q2pc30):=by kernel_rfl
def q2qr0:yW:=[
 yI 2 (.mv (.v (.bool false)))]
def q2qr1:yW:=[
 yM 3 0,
 yI 4 (.bin .eql .ptr (.t 3) (.v .nilp)),
 yM 5 4,
 yV 6 5 false 0,
 yG 7 5 false (.nilc (.t 6)),
 yT 8 5 false 0 7,
 yU 9 5 false false 1 8,
 yG 10 5 false (.lenSl (.t 9)),
 yG 11 5 false (.bin .eql .none (.t 10) (.v (.int .i64 0))),
 yP 12 5 11,
 yM 2 12]
def q2qc2:yX:=yq q2qr1 .ret
def q2qc3:yX:=yq q2qr0 q2qc2
attribute [go_sem] q2qr0 q2qr1
theorem q2qok:cFn TC 62=some (13,[.t 2],q2qc3):=by kernel_rfl
def q2rr0:yW:=[
 yI 4 (.mv (.v (.bool false)))]
def q2rr1:yW:=[
 yM 5 0,
 yI 6 (.bin .neq .ptr (.t 5) (.v .nilp)),
 yM 7 6,
 yV 8 7 true 1,
 yG 9 7 true (.bin .geq .none (.t 8) (.v (.int .i64 0))),
 yQ 10 7 9,
 yM 11 10,
 yV 12 11 true 1,
 yV 13 11 true 0,
 yG 14 11 true (.nilc (.t 13)),
 yT 15 11 true 0 14,
 yU 16 11 true false 1 15,
 yG 17 11 true (.lenSl (.t 16)),
 yG 18 11 true (.bin .lss .none (.t 12) (.t 17)),
 yQ 19 11 18,
 yM 4 19]
def q2rc2:yX:=yq q2rr1 .ret
def q2rc3:yX:=yq q2rr0 q2rc2
attribute [go_sem] q2rr0 q2rr1
theorem q2rok:cFn TC 63=some (20,[.t 4],q2rc3):=by kernel_rfl
def q2sr0:yW:=[
 yK 6 .i64 0]
def q2sr1:yW:=[
 yK 7 .i64 1]
def q2sr2:yW:=[
 yM 15 0,
 yI 16 (.nilc (.t 15)),
 yF 17 0 16,
 ⟨some 18,none,.rd,.load false 1 (.t 17)⟩,
 yM 19 2,
 yI 20 (.iaSl 1 (.t 18) (.t 19)),
 ⟨some 21,none,.rd,.load false 1 (.t 20)⟩,
 ⟨some 22,none,.ef,.call (.v (.fn 46 [])) [(.t 21)]⟩,
 yM 23 0,
 yI 24 (.nilc (.t 23)),
 yF 25 0 24,
 ⟨some 26,none,.rd,.load false 1 (.t 25)⟩,
 yM 27 1,
 yI 28 (.iaSl 1 (.t 26) (.t 27)),
 ⟨some 29,none,.rd,.load false 1 (.t 28)⟩,
 yC 30 29 29,
 yD 31 108 22 30,
 yM 8 31]
def q2sr3:yW:=[
 yI 9 (.mv (.v (.bool false)))]
def q2sr4:yW:=[
 yM 32 8,
 yI 33 (.lenSl (.t 32)),
 yK 34 .i64 0]
def q2sr5:yW:=[
 yB 35 .lss 34 33]
def q2sr6:yW:=[
 yI 36 (.iaSl 36 (.t 32) (.t 34)),
 yL 37 true 36 36,
 yI 11 (.alloc [(.int .i64 0),(.int .u8 0),(.int .u8 0),(.int .u8 0),(.int .u8 0),(.int .u8 0),(.int .u8 0),(.int .u8 0),(.int .u8 0),(.int .u8 0),(.int .u8 0),(.int .u8 0),(.int .u8 0),(.int .u8 0),(.int .u8 0),(.int .u8 0),(.int .u8 0),(.int .u8 0),(.int .u8 0),(.int .u8 0),(.int .u8 0),(.int .u8 0),(.int .u8 0),(.int .u8 0),(.int .u8 0),(.int .u8 0),(.int .u8 0),(.int .u8 0),(.int .u8 0),(.int .u8 0),(.int .u8 0),(.int .u8 0),(.int .u8 0),(.int .i64 0),(.str []),.nilsl]),
 yS 36 11 37]
def q2sr7:yW:=[
 yM 38 0,
 yI 39 (.nilc (.t 38)),
 yF 40 0 39,
 ⟨some 41,none,.rd,.load false 1 (.t 40)⟩,
 yM 42 1,
 yI 43 (.iaSl 1 (.t 41) (.t 42)),
 ⟨some 44,none,.rd,.load false 1 (.t 43)⟩,
 ⟨some 45,none,.rd,.load true 36 (.t 11)⟩,
 yD 46 14 44 45,
 yM 12 46]
def q2sr8:yW:=[
 yM 47 9,
 yM 48 47,
 yV 49 48 false 12,
 yG 50 48 false (.bin .eql .none (.t 49) (.v (.int .i64 2))),
 yP 51 48 50,
 yM 52 51,
 yV 53 52 false 12,
 yG 54 52 false (.bin .eql .none (.t 53) (.v (.int .i64 3))),
 yP 55 52 54,
 yM 9 55]
def q2sc9:yX:=yq q2sr7 (.reg q2sr8)
def q2sc10:yX:=yq q2sr6 q2sc9
def q2sr11:yW:=[
 yJ 56 .add 34 .i64 1,
 yM 34 56]
def q2sc12:yX:=.seq (.block 3 q2sc10) (.reg q2sr11)
def q2sc13:yX:=.seq (.cond (.t 35) .skip (.exit 2)) q2sc12
def q2sc14:yX:=yq q2sr5 q2sc13
def q2sc15:yX:=.loop q2sc14
def q2sc16:yX:=.block 2 q2sc15
def q2sc17:yX:=yq q2sr4 q2sc16
def q2sr18:yW:=[
 yM 57 8,
 yI 58 (.lenSl (.t 57)),
 yJ 59 .eql 58 .i64 0]
def q2sr19:yW:=[
 yM 60 7,
 yM 6 60]
def q2sc20:yX:=yq q2sr19 .ret
def q2sc21:yX:=.cond (.t 59) q2sc20 .skip
def q2sc22:yX:=yq q2sr18 q2sc21
def q2sr23:yW:=[
 yM 61 9,
 yI 62 (.un .not (.t 61))]
def q2sr24:yW:=[
 yM 63 7,
 yJ 64 .add 63 .i64 1,
 yM 6 64]
def q2sc25:yX:=yq q2sr24 .ret
def q2sc26:yX:=.cond (.t 62) q2sc25 .skip
def q2sc27:yX:=yq q2sr23 q2sc26
def q2sc28:yX:=.seq q2sc22 q2sc27
def q2sc29:yX:=.seq q2sc17 q2sc28
def q2sc30:yX:=yq q2sr3 q2sc29
def q2sc31:yX:=yq q2sr2 q2sc30
def q2sr32:yW:=[
 yM 13 7,
 yJ 14 .add 13 .i64 2,
 yM 7 14]
def q2sc33:yX:=.seq (.block 1 q2sc31) (.reg q2sr32)
def q2sc34:yX:=.loop q2sc33
def q2sc35:yX:=.block 0 q2sc34
def q2sc36:yX:=yq q2sr1 q2sc35
def q2sc37:yX:=yq q2sr0 q2sc36
attribute [go_sem] q2sr0 q2sr1 q2sr2 q2sr3 q2sr4 q2sr5 q2sr6 q2sr7 q2sr8 q2sr11 q2sr18 q2sr19 q2sr23 q2sr24 q2sr32
theorem q2sok:cFn TC 64=some (65,[.t 6],q2sc37):=by kernel_rfl
def q2tr0:yW:=[
 yI 3 (.box (.t 1))]
def q2tr1:yW:=[
 yF 13 2 3,
 yL 14 false 1 13,
 yC 15 114 14,
 yM 12 15,
 yE 16 0 12,
 yE 17 1 12,
 yM 4 16,
 yM 5 17]
def q2tr2:yW:=[
 yM 18 5,
 yJ 19 .eql 18 .i64 0]
def q2tr3:yW:=[
 yM 20 4,
 yI 21 (.lenSl (.t 20)),
 yK 22 .i64 0]
def q2tr4:yW:=[
 yB 23 .lss 22 21]
def q2tr5:yW:=[
 yI 24 (.iaSl 36 (.t 20) (.t 22)),
 yL 25 true 36 24,
 yI 7 (.alloc [(.int .i64 0),(.int .u8 0),(.int .u8 0),(.int .u8 0),(.int .u8 0),(.int .u8 0),(.int .u8 0),(.int .u8 0),(.int .u8 0),(.int .u8 0),(.int .u8 0),(.int .u8 0),(.int .u8 0),(.int .u8 0),(.int .u8 0),(.int .u8 0),(.int .u8 0),(.int .u8 0),(.int .u8 0),(.int .u8 0),(.int .u8 0),(.int .u8 0),(.int .u8 0),(.int .u8 0),(.int .u8 0),(.int .u8 0),(.int .u8 0),(.int .u8 0),(.int .u8 0),(.int .u8 0),(.int .u8 0),(.int .u8 0),(.int .u8 0),(.int .i64 0),(.str []),.nilsl]),
 yS 36 7 25]
def q2tr6:yW:=[
 yM 26 0,
 yI 27 (.nilc (.t 26)),
 yF 28 0 27,
 ⟨some 29,none,.rd,.load false 1 (.t 28)⟩,
 yF 30 1 3,
 ⟨some 31,none,.rd,.load false 1 (.t 30)⟩,
 yI 32 (.iaSl 1 (.t 29) (.t 31)),
 ⟨some 33,none,.rd,.load false 1 (.t 32)⟩,
 ⟨some 34,none,.rd,.load true 36 (.t 7)⟩,
 yD 35 14 33 34]
def q2tc7:yX:=yq q2tr5 (.reg q2tr6)
def q2tr8:yW:=[
 yJ 36 .add 22 .i64 1,
 yM 22 36]
def q2tc9:yX:=.seq (.block 1 q2tc7) (.reg q2tr8)
def q2tc10:yX:=.seq (.cond (.t 23) .skip (.exit 0)) q2tc9
def q2tc11:yX:=yq q2tr4 q2tc10
def q2tc12:yX:=.loop q2tc11
def q2tc13:yX:=.block 0 q2tc12
def q2tc14:yX:=yq q2tr3 q2tc13
def q2tc15:yX:=.seq q2tc14 .ret
def q2tc16:yX:=.cond (.t 19) q2tc15 .skip
def q2tc17:yX:=yq q2tr2 q2tc16
def q2tc18:yX:=yq q2tr1 q2tc17
def q2tr19:yW:=[
 yF 38 2 3,
 yL 39 false 1 38,
 yC 40 115 39,
 yM 37 40,
 yE 41 0 37,
 yE 42 1 37,
 yM 8 41,
 yM 9 42]
def q2tr20:yW:=[
 yM 43 9,
 yJ 44 .neq 43 .i64 0]
def q2tc21:yX:=.cond (.t 44) .ret .skip
def q2tc22:yX:=yq q2tr20 q2tc21
def q2tr23:yW:=[
 yM 46 0,
 yI 47 (.nilc (.t 46)),
 yF 48 0 47,
 ⟨some 49,none,.rd,.load false 1 (.t 48)⟩,
 yF 50 1 3,
 ⟨some 51,none,.rd,.load false 1 (.t 50)⟩,
 yI 52 (.iaSl 1 (.t 49) (.t 51)),
 yL 53 false 1 52,
 yC 54 46 53,
 yM 55 8,
 yD 56 108 54 55,
 yC 57 116 56,
 yM 45 57,
 yE 58 0 45,
 yE 59 1 45,
 yM 10 58,
 yM 11 59]
def q2tr24:yW:=[
 yM 60 11,
 yJ 61 .eql 60 .i64 0]
def q2tr25:yW:=[
 yM 62 0,
 yI 63 (.nilc (.t 62)),
 yF 64 1 63,
 ⟨some 65,none,.rd,.load false 1 (.t 64)⟩,
 yF 66 1 3,
 ⟨some 67,none,.rd,.load false 1 (.t 66)⟩,
 yF 68 0 3,
 ⟨some 69,none,.rd,.load false 1 (.t 68)⟩,
 yM 70 10,
 yI 71 (.build [(.int .i64 0),(.int .i64 0),(.str [])] [(0,1,(.t 67)),(1,1,(.t 69)),(2,1,(.t 70))]),
 yD 72 66 65 71]
def q2tc26:yX:=.cond (.t 61) (.reg q2tr25) .skip
def q2tc27:yX:=yq q2tr24 q2tc26
def q2tc28:yX:=yq q2tr23 q2tc27
def q2tc29:yX:=.seq q2tc22 q2tc28
def q2tc30:yX:=yq q2tr19 q2tc29
def q2tc31:yX:=.seq q2tc18 q2tc30
def q2tc32:yX:=yq q2tr0 q2tc31
attribute [go_sem] q2tr0 q2tr1 q2tr2 q2tr3 q2tr4 q2tr5 q2tr6 q2tr8 q2tr19 q2tr20 q2tr23 q2tr24 q2tr25
theorem zec:cFn TC 68=some (73,[],q2tc32):=by kernel_rfl
end
section
abbrev NH:=Int × Hash
def knP(l:List NH):List (List AV):=l.map fun p=> .int .i64 p.1::hc p.2
theorem zm(l:List NH):(knP l).length=l.length:=by simp [knP]
theorem ziw{l:List NH}{i:Nat}(h:i<l.length):(knP l)[i]? =some (.int .i64 l[i].1::hc l[i].2):=by simp [knP,List.getElem?_eq_getElem h]
theorem ziy(P:List Hdr):kn P=knP (hns P):=by simp [kn,knP,hns]
def nhS(p:NH):List UInt8:=numS p.1.toNat++p.2.1
def z22(l:List NH):List UInt8:=(l.map nhS).flatten
def knS(l:List NH):List UInt8:=68::(numS l.length++z22 l)
def nhOk(p:NH):Bool:=decide (0<=p.1/\ p.1<=4096)
theorem zs4{l:List NH}{i:Nat}(h:i<l.length):z22 (l.take (i+1))=z22 (l.take i)++nhS l[i]:=by
 unfold z22;rw [List.take_succ_eq_append_getElem h,List.map_append,List.flatten_append];simp
theorem zja(p:NH):(nhS p).length<=43:=by
 unfold nhS;have:=z23 p.1.toNat;have:=p.2.2;rw [List.length_append];omega
theorem nhS_ne(p:NH):nhS p ≠ []:=fun e=>by
 have h1:(nhS p).length=0:=by rw [e];rfl
 have h2:=p.2.2
 unfold nhS at h1
 rw [List.length_append]at h1
 omega
theorem z6x:∀l:List NH,(z22 l).length<=43*l.length
 | []=>by simp [z22]
 |p::l=>by
  have:=z6x l
  have h:=zja p
  unfold z22 at this ⊢
  simp only [List.map_cons,List.flatten_cons,List.length_append,List.length_cons]
  omega
attribute [local irreducible] ACallsTo ACallsP
theorem zpr(O:Store)(p:NH):ACallsTo TC 110 [.agg (.int .i64 p.1::hc p.2)] O (.bool (nhOk p)) O:=by
 have l:=z6 p.2
 unfold nhOk
 refine ACallsTo.of_body q28ok (by simp) fun hw _=> ?_
 by_cases h1:0<=p.1
 ·rw [show decide (0<=p.1/\ p.1<=4096)=decide (p.1<=4096)from decide_eq_decide.2 ⟨fun h=>h.2,fun h=>⟨h1,h⟩⟩]
  have h1':p.1>=0:=h1
  repeat' (first|apply zs_|apply zb_|apply zc_|apply zt_ rfl|apply zf_ rfl|(apply zd_ rfl<;>intro ht<;>try omega)|((first|apply zr_|apply zk_|apply ze_|apply zq_|(apply zG<;>intro ht));all_goals try simp (disch:=first|omega|(simp only [lens,z6,z7,zg,z8,zh,zm,lQt,lQd,List.length_replicate];first|done|omega)) only [go_sem,l,h1']))
  exact DownV.pure hw z2e
 ·rw [decide_eq_false fun h=>h1 h.1]
  have h1':¬p.1>=0:=h1
  repeat' (first|apply zs_|apply zb_|apply zc_|apply zt_ rfl|apply zf_ rfl|(apply zd_ rfl<;>intro ht<;>try omega)|((first|apply zr_|apply zk_|apply ze_|apply zq_|(apply zG<;>intro ht));all_goals try simp (disch:=first|omega|(simp only [lens,z6,z7,zg,z8,zh,zm,lQt,lQd,List.length_replicate];first|done|omega)) only [go_sem,l,h1']))
  exact DownV.pure hw z2e
theorem zmc(O:Store)(l:List NH)(x:AV)(hx:SlV 33 (knP l) x)(hl:l.length<=64)(hok:∀p ∈ l,nhOk p=true):ACallsTo TC 65 [x] O (.tup [.str (knS l),.int .i64 0]) O:=by
 have r1:=hx.len
 rw [zm]at r1
 unfold z1k at r1
 have hN:=fun O=>z6o O l.length (by omega)
 have hNl:=z23 l.length
 have h64:¬(l.length:Int)>64:=by omega
 unfold knS
 generalize numS l.length=N at*
 refine ACallsTo.of_body q26ok (by simp) fun hw _=> ?_
 have b0:BldN O (O++ [some [[.bld O.length,.bnil]]]) O.length []:=BldN.new (Nat.le_refl _) (by simp)
 obtain⟨O1,w1,b1⟩:=b0.write (t:=68::N) (by simp) (by simp;omega)
 rw [List.nil_append]at b1
 repeat' (first|apply zs_|apply zb_|apply zc_|apply zt_ rfl|apply zf_ rfl|(apply zd_ rfl<;>intro ht<;>try omega)|((first|apply zr_|apply zk_|apply ze_|apply zq_|(apply callW.mk_pu;(first|exact(fun _=>hN _)|exact(fun _=>w1)))|(apply callW.za;(first|exact(hN _)|exact(w1)))|(apply zG<;>intro ht));all_goals try simp (disch:=first|omega|(simp only [lens,z6,z7,zg,z8,zh,zm,lQt,lQd,List.length_replicate];first|done|omega)) only [go_sem,r1,h64,List.cons_append,List.nil_append]))
 refine zW.loop (fun m J O'=>∃i:Nat,m+i=l.length/\ BldN O O' O.length (68::N++z22 (l.take i))/\ J 4=.ptr O.length 0 0/\ J 16=x/\ J 17=.int .i64 l.length/\ J 18=.int .i64 i) l.length ?_ ?_
 ·exact⟨0,by omega,by simpa [z22]using b1,by simp (disch:=first|omega|(simp only [lens,z6,z7,zg,z8,zh,zm,lQt,lQd,List.length_replicate];first|done|omega)) only [go_sem],by simp (disch:=first|omega|(simp only [lens,z6,z7,zg,z8,zh,zm,lQt,lQd,List.length_replicate];first|done|omega)) only [go_sem],by simp (disch:=first|omega|(simp only [lens,z6,z7,zg,z8,zh,zm,lQt,lQd,List.length_replicate];first|done|omega)) only [go_sem,r1],by simp (disch:=first|omega|(simp only [lens,z6,z7,zg,z8,zh,zm,lQt,lQd,List.length_replicate];first|done|omega)) only [go_sem];try rfl⟩
 ·clear w1 b1 b0
  rintro m J O' ⟨i,hm,hB,q4,q16,q17,q18⟩
  have hcl:=z6x (l.take i)
  rw [List.length_take]at hcl
  by_cases hi:i<l.length
  ·obtain⟨e1,rfl⟩:=hx.vsl (by rw [zm];omega)
   have gi:=ziw hi
   have sl:=zm l
   have hst:=zs4 hi
   have hk:=hok l[i] (List.getElem_mem hi)
   have hM:=fun O=>zpr O l[i]
   rw [hk]at hM
   have hne:=nhS_ne l[i]
   have hnl:=zja l[i]
   generalize l[i]=p at*
   obtain⟨n,r⟩:=p
   obtain⟨k1,k2⟩:=of_decide_eq_true hk
   dsimp only at k1 k2 gi hM
   obtain⟨K,rfl⟩:∃K:Nat,n=K:=⟨n.toNat,by omega⟩
   have hK:=fun O=>z6o O K (by omega)
   have kl:=z23 K
   have r32:=r.2
   have hH:=fun O=>z4m O r
   have hs:nhS ((K:Int),r)=numS K++r.1:=rfl
   rw [hs]at hst hne hnl
   have rl:=z6 r
   obtain⟨O2,w2,b2⟩:=(hB.more [some [.int .i64 K::hc r]]).write (t:=numS K++r.1) hne (by simp only [List.length_append,List.length_cons]at hnl ⊢;omega)
   repeat' (first|apply zs_|apply zb_|apply zc_|apply zt_ rfl|apply zf_ rfl|(apply zd_ rfl<;>intro ht<;>try omega)|((first|apply zr_|apply zk_|apply ze_|apply zq_|(apply callW.mk_pu;(first|exact(fun _=>hM _)|exact(fun _=>hK _)|exact(fun _=>hH _)|exact(fun _=>w2)))|(apply callW.za;(first|exact(hM _)|exact(hK _)|exact(hH _)|exact(w2)))|(apply zG<;>intro ht));all_goals try simp (disch:=first|omega|(simp only [lens,z6,z7,zg,z8,zh,zm,lQt,lQd,List.length_replicate];first|done|omega)) only [go_sem,q4,q16,q17,q18,gi,sl,rl]))
   refine⟨m-1,by omega,i+1,by omega,?_,by simp⟩
   rw [hst,<-List.append_assoc];exact b2
  ·have e:l.take i=l:=List.take_of_length_le (by omega)
   rw [e]at hB
   have hcl2:=z6x l
   obtain⟨news,w3⟩:=hB.string (by simp) (by simp only [List.length_append,List.length_cons];omega)
   have hi':¬(i:Int)<l.length:=by omega
   repeat' (first|apply zs_|apply zb_|apply zc_|apply zt_ rfl|apply zf_ rfl|(apply zd_ rfl<;>intro ht<;>try omega)|((first|apply zr_|apply zk_|apply ze_|apply zq_|(apply callW.mk_pu;(first|exact(fun _=>w3)))|(apply callW.za;(first|exact(w3)))|(apply zG<;>intro ht));all_goals try simp (disch:=first|omega|(simp only [lens,z6,z7,zg,z8,zh,zm,lQt,lQd,List.length_replicate];first|done|omega)) only [go_sem,q4,q16,q17,q18,hi']))
   exact DownV.pure hw (by simp [RL,RLs])
end
section
def idxK(K:List NH)(p:NH):Int:=if p ∈ K then K.idxOf p else-1
theorem zqk{K:List NH}{p:NH}{i:Nat}(hi:i<K.length)(h:K[i]=p)(hn:p ∉ K.take i):idxK K p=i:=by
 have hm:p ∈ K:=h ▸ List.getElem_mem hi
 have e:K=K.take i++p::K.drop (i+1):=by
  conv=>lhs;rw [<-List.take_append_drop i K,List.drop_eq_getElem_cons hi,h]
 have:K.idxOf p=i:=by
  rw [e,List.idxOf_append,if_neg hn,List.idxOf_cons_self,List.length_take];omega
 unfold idxK
 rw [if_pos hm,this]
theorem zql{K:List NH}{p:NH}(h:p ∉ K):idxK K p= -1:=if_neg h
theorem zqm(K:List NH)(p:NH):decide (idxK K p>=0)=decide (p ∈ K):=by
 unfold idxK
 by_cases h:p ∈ K
 ·rw [if_pos h,decide_eq_true h];exact decide_eq_true (by omega)
 ·rw [if_neg h,decide_eq_false h];exact decide_eq_false (by omega)
theorem zxx{K:List NH}{p:NH}{i:Nat}(hi:i<K.length):p ∈ K.take (i+1) ↔ p ∈ K.take i \/K[i]=p:=by
 rw [List.take_succ_eq_append_getElem hi,List.mem_append,List.mem_singleton]
 exact or_congr_right eq_comm
def z1z(K:List NH)(q:Hdr):Bool:=valH q && !decide ((q.n,q.r) ∈ K)
def z16(P:List Hdr)(K:List NH):List Hdr:=(P.filter (z1z K)).take 3
theorem zdo(P:List Hdr)(K:List NH):(z16 P K).length<=3:=by unfold z16;rw [List.length_take];omega
theorem zrr{P:List Hdr}{K:List NH}{i:Nat}(hi:i<P.length)(h:z1z K P[i]=false \/ ¬(z16 (P.take i) K).length<3):z16 (P.take (i+1)) K=z16 (P.take i) K:=by
 unfold z16 at h ⊢
 rw [List.take_succ_eq_append_getElem hi,List.filter_append]
 rcases h with h|h
 ·simp [List.filter,h]
 ·rw [List.length_take]at h
  rw [List.take_append_of_le_length (by omega)]
theorem zrs{P:List Hdr}{K:List NH}{i:Nat}(hi:i<P.length)(h:z1z K P[i]=true)(h2:(z16 (P.take i) K).length<3):z16 (P.take (i+1)) K=z16 (P.take i) K++ [P[i]]:=by
 unfold z16 at h2 ⊢
 rw [List.take_succ_eq_append_getElem hi,List.filter_append]
 rw [List.length_take]at h2
 have h3:((P.take i).filter (z1z K)).length<3:=by omega
 have e:[P[i]].filter (z1z K)=[P[i]]:=by simp [List.filter,h]
 rw [e]
 generalize (P.take i).filter (z1z K)=A at*
 rw [List.take_of_length_le (l:=A) (by omega)]
 exact List.take_of_length_le (by rw [List.length_append,List.length_singleton];omega)
theorem z7q{P:List Hdr}{K:List NH}{q:Hdr}(h:q ∈ z16 P K):q ∈ P/\ valH q=true/\ (q.n,q.r) ∉ K:=by
 have h1:=List.mem_filter.1 (List.mem_of_mem_take h)
 refine⟨h1.1,?_⟩
 have:=h1.2
 unfold z1z at this
 simpa using this
theorem zq7(u:Hdr):hdrs [u]=[hdrC u]:=rfl
attribute [local irreducible] ACallsTo ACallsP
theorem zm7(O:Store)(K:List NH)(p:NH)(x:AV)(hx:SlV 33 (knP K) x)(hl:K.length<1000000):
  ACallsTo TC 159 [x,.agg (.int .i64 p.1::hc p.2)] O (.int .i64 (idxK K p)) O:=by
 have r1:=hx.len
 rw [zm]at r1
 unfold z1k at r1
 have lp:=z6 p.2
 refine ACallsTo.of_body q2eok (by simp) fun hw _=> ?_
 repeat' (first|apply zs_|apply zb_|apply zc_|apply zt_ rfl|apply zf_ rfl|(apply zd_ rfl<;>intro ht<;>try omega)|((first|apply zr_|apply zk_|apply ze_|apply zq_|(apply zG<;>intro ht));all_goals try simp (disch:=first|omega|(simp only [lens,z6,z7,zg,z8,zh,zm,lQt,lQd,List.length_replicate];first|done|omega)) only [go_sem,r1,lp]))
 refine zW.loop (fun m J O'=>∃i:Nat,m+i=K.length/\ O'=O++ [some [.int .i64 p.1::hc p.2]]/\ p ∉ K.take i/\ J 0=x/\ J 3=.ptr O.length 0 0/\ J 7=.int .i64 K.length/\ J 8=.int .i64 i) K.length ?_ ?_
 ·exact⟨0,by omega,by simp (disch:=first|omega|(simp only [lens,z6,z7,zg,z8,zh,zm,lQt,lQd,List.length_replicate];first|done|omega)) only [go_sem],by simp,by simp (disch:=first|omega|(simp only [lens,z6,z7,zg,z8,zh,zm,lQt,lQd,List.length_replicate];first|done|omega)) only [go_sem],by simp (disch:=first|omega|(simp only [lens,z6,z7,zg,z8,zh,zm,lQt,lQd,List.length_replicate];first|done|omega)) only [go_sem],by simp (disch:=first|omega|(simp only [lens,z6,z7,zg,z8,zh,zm,lQt,lQd,List.length_replicate];first|done|omega)) only [go_sem,r1],by simp (disch:=first|omega|(simp only [lens,z6,z7,zg,z8,zh,zm,lQt,lQd,List.length_replicate];first|done|omega)) only [go_sem];try rfl⟩
 ·rintro m J O' ⟨i,hm,rfl,hN,q0,q3,q7,q8⟩
  by_cases hi:i<K.length
  ·obtain⟨ex,rfl⟩:=hx.vsl (by rw [zm];omega)
   have ga:=ziw hi
   have la:=zm K
   have he:=sg_eq p.1 K[i].1 p.2 K[i].2
   have hka:=z6 K[i].2
   by_cases hh:K[i]=p
   ·rw [zqk hi hh hN]
    rw [decide_eq_true ⟨by rw [hh],by rw [hh]⟩]at he
    generalize K[i]=a at*
    repeat' (first|apply zs_|apply zb_|apply zc_|apply zt_ rfl|apply zf_ rfl|(apply zd_ rfl<;>intro ht<;>try omega)|((first|apply zr_|apply zk_|apply ze_|apply zq_|(apply zG<;>intro ht));all_goals try simp (disch:=first|omega|(simp only [lens,z6,z7,zg,z8,zh,zm,lQt,lQd,List.length_replicate];first|done|omega)) only [go_sem,q0,q3,q7,q8,ga,la,he,hka,lp]))
    exact DownV.pure hw rl_i
   ·rw [decide_eq_false fun h=>hh (Prod.ext h.1.symm h.2.symm)]at he
    have hN2:p ∉ K.take (i+1):=fun h=>((zxx hi).1 h).elim hN hh
    generalize K[i]=a at*
    repeat' (first|apply zs_|apply zb_|apply zc_|apply zt_ rfl|apply zf_ rfl|(apply zd_ rfl<;>intro ht<;>try omega)|((first|apply zr_|apply zk_|apply ze_|apply zq_|(apply zG<;>intro ht));all_goals try simp (disch:=first|omega|(simp only [lens,z6,z7,zg,z8,zh,zm,lQt,lQd,List.length_replicate];first|done|omega)) only [go_sem,q0,q3,q7,q8,ga,la,he,hka,lp]))
    exact⟨m-1,by omega,i+1,by omega,hN2,by simp⟩
  ·rw [List.take_of_length_le (by omega)]at hN
   rw [zql hN]
   have hi':¬(i:Int)<K.length:=by omega
   repeat' (first|apply zs_|apply zb_|apply zc_|apply zt_ rfl|apply zf_ rfl|(apply zd_ rfl<;>intro ht<;>try omega)|((first|apply zr_|apply zk_|apply ze_|apply zq_|(apply zG<;>intro ht));all_goals try simp (disch:=first|omega|(simp only [lens,z6,z7,zg,z8,zh,zm,lQt,lQd,List.length_replicate];first|done|omega)) only [go_sem,q0,q3,q7,q8,hi']))
   exact DownV.pure hw rl_i
theorem zm1(O:Store)(K:List NH)(p:NH)(x:AV)(hx:SlV 33 (knP K) x)(hl:K.length<1000000):
  ACallsTo TC 141 [x,.agg (.int .i64 p.1::hc p.2)] O (.bool (decide (p ∈ K))) O:=by
 have hI:=fun O=>zm7 O K p x hx hl
 have lp:=z6 p.2
 have e:=zqm K p
 refine ACallsTo.of_body q2cok (by simp) fun hw _=> ?_
 by_cases h:p ∈ K
 ·rw [decide_eq_true h]at e ⊢
  have e':=of_decide_eq_true e
  repeat' (first|apply zs_|apply zb_|apply zc_|apply zt_ rfl|apply zf_ rfl|(apply zd_ rfl<;>intro ht<;>try omega)|((first|apply zr_|apply zk_|apply ze_|apply zq_|(apply callW.mk_pu;(first|exact(fun _=>hI _)))|(apply callW.za;(first|exact(hI _)))|(apply zG<;>intro ht));all_goals try simp (disch:=first|omega|(simp only [lens,z6,z7,zg,z8,zh,zm,lQt,lQd,List.length_replicate];first|done|omega)) only [go_sem,lp,e']))
  exact DownV.pure hw rl_b
 ·rw [decide_eq_false h]at e ⊢
  have e':=of_decide_eq_false e
  repeat' (first|apply zs_|apply zb_|apply zc_|apply zt_ rfl|apply zf_ rfl|(apply zd_ rfl<;>intro ht<;>try omega)|((first|apply zr_|apply zk_|apply ze_|apply zq_|(apply callW.mk_pu;(first|exact(fun _=>hI _)))|(apply callW.za;(first|exact(hI _)))|(apply zG<;>intro ht));all_goals try simp (disch:=first|omega|(simp only [lens,z6,z7,zg,z8,zh,zm,lQt,lQd,List.length_replicate];first|done|omega)) only [go_sem,lp,e']))
  exact DownV.pure hw rl_b
theorem zfs(O:Store)(P:List Hdr)(K:List NH)(x y:AV)(hx:SlV 36 (hdrs P) x)(hy:SlV 33 (knP K) y)(hl:P.length<1000000)(hK:K.length<1000000)(hp:∀q ∈ P,q.p.length<1000000):
  ACallsTo TC 108 [x,y] O (zz 36 (hdrs (z16 P K))) O:=by
 have r1:=hx.len
 rw [z8]at r1
 unfold z1k at r1
 refine ACallsTo.of_body q27ok (by simp) fun hw _=> ?_
 repeat' (first|apply zs_|apply zb_|apply zc_|apply zt_ rfl|apply zf_ rfl|(apply zd_ rfl<;>intro ht<;>try omega)|((first|apply zr_|apply zk_|apply ze_|apply zq_|(apply zG<;>intro ht));all_goals try simp (disch:=first|omega|(simp only [lens,z6,z7,zg,z8,zh,zm,lQt,lQd,List.length_replicate];first|done|omega)) only [go_sem,r1]))
 refine zW.loop (fun m J O'=>∃(i:Nat) (w:AV),m+i=P.length/\ OwnN 36 O O' w (hdrs (z16 (P.take i) K))/\ J 1=y/\ J 5=w/\ J 8=x/\ J 9=.int .i64 P.length/\ J 10=.int .i64 i) P.length ?_ ?_
 ·exact⟨0,.nilsl,by omega,⟨[],by simp,.inl ⟨rfl,rfl⟩⟩,by simp (disch:=first|omega|(simp only [lens,z6,z7,zg,z8,zh,zm,lQt,lQd,List.length_replicate];first|done|omega)) only [go_sem],by simp (disch:=first|omega|(simp only [lens,z6,z7,zg,z8,zh,zm,lQt,lQd,List.length_replicate];first|done|omega)) only [go_sem],by simp (disch:=first|omega|(simp only [lens,z6,z7,zg,z8,zh,zm,lQt,lQd,List.length_replicate];first|done|omega)) only [go_sem],by simp (disch:=first|omega|(simp only [lens,z6,z7,zg,z8,zh,zm,lQt,lQd,List.length_replicate];first|done|omega)) only [go_sem,r1],by simp (disch:=first|omega|(simp only [lens,z6,z7,zg,z8,zh,zm,lQt,lQd,List.length_replicate];first|done|omega)) only [go_sem];try rfl⟩
 ·rintro m J O' ⟨i,w,hm,hO,q1,q5,q8,q9,q10⟩
  have hOl:=hO.len
  rw [z8]at hOl
  unfold z1k at hOl
  by_cases hi:i<P.length
  ·obtain⟨ex,rfl⟩:=hx.vsl (by rw [z8];omega)
   have hgi:=z6t hi
   have hdl:=z8 P
   have hph:=hp P[i] (List.getElem_mem hi)
   have hno:=zrr (K:=K) hi
   have hyes:=zrs (K:=K) hi
   have hml:=zdo (P.take i) K
   have hV:=fun O=>z86 O P[i].n P[i].i P[i].r P[i].s P[i].p _ (.of (z1v 32 (hr P[i].p)))
   rw [show sgC P[i].n P[i].r P[i].i P[i].s (zz 32 (hr P[i].p))=hdrC P[i]from rfl,show z29 P[i].n P[i].i P[i].s P[i].p=valH P[i]from rfl]at hV
   have hC:=fun O=>zm1 O K (P[i].n,P[i].r) y hy hK
   have hlk:z1z K P[i]=(valH P[i] && !decide ((P[i].n,P[i].r) ∈ K)):=rfl
   generalize P[i]=u at*
   have hcl:=zg u
   have hhd:=zid u
   have ua:(hdrC u).take 36=hdrC u:=z6s u
   by_cases h3:(z16 (P.take i) K).length<3
   ·have h3':((z16 (P.take i) K).length:Int)<3:=by omega
    cases hv:valH u
    ·rw [hv]at hV hlk
     have e:=hno (.inl (by rw [hlk];rfl))
     repeat' (first|apply zs_|apply zb_|apply zc_|apply zt_ rfl|apply zf_ rfl|(apply zd_ rfl<;>intro ht<;>try omega)|((first|apply zr_|apply zk_|apply ze_|apply zq_|(apply callW.mk_pu;(first|exact(fun _=>hV _)|exact(fun _=>hC _)))|(apply callW.za;(first|exact(hV _)|exact(hC _)))|(apply zG<;>intro ht));all_goals try simp (disch:=first|omega|(simp only [lens,z6,z7,zg,z8,zh,zm,lQt,lQd,List.length_replicate];first|done|omega)) only [go_sem,q1,q5,q8,q9,q10,hgi,hdl,hcl,hhd,ua,hOl,h3']))
     exact⟨m-1,by omega,i+1,w,by omega,by rw [e];exact hO.more _,by simp⟩
    ·rw [hv]at hV hlk
     by_cases hc:(u.n,u.r) ∈ K
     ·rw [decide_eq_true hc]at hC hlk
      have e:=hno (.inl (by rw [hlk];rfl))
      repeat' (first|apply zs_|apply zb_|apply zc_|apply zt_ rfl|apply zf_ rfl|(apply zd_ rfl<;>intro ht<;>try omega)|((first|apply zr_|apply zk_|apply ze_|apply zq_|(apply callW.mk_pu;(first|exact(fun _=>hV _)|exact(fun _=>hC _)))|(apply callW.za;(first|exact(hV _)|exact(hC _)))|(apply zG<;>intro ht));all_goals try simp (disch:=first|omega|(simp only [lens,z6,z7,zg,z8,zh,zm,lQt,lQd,List.length_replicate];first|done|omega)) only [go_sem,q1,q5,q8,q9,q10,hgi,hdl,hcl,hhd,ua,hOl,h3']))
      exact⟨m-1,by omega,i+1,w,by omega,by rw [e];exact hO.more _,by simp⟩
     ·rw [decide_eq_false hc]at hC hlk
      have e:=hyes (by rw [hlk];rfl) h3
      have hCl:=fun O=>zfq O u.p (zz 32 (hr u.p)) (.of (z1v 32 (hr u.p))) hph
      rw [zaw]at hCl
      obtain⟨w',O2,ha,hO2⟩:=(hO.more [some [hdrC u]]).app (ys:=[hdrC u]) (by simp) (by rw [z8];simp;omega)
      rw [<-zq7 u,<-zq4,<-e]at hO2
      have hst:=fun x v=>zku u.n u.r u.i u.s x v
      have sl:=fun v=>z7 u.n u.r u.i u.s v
      have xc:=(z1v 32 (hr u.p)).cells
      unfold cellsOf at xc
      rw [show hdrC u=sgC u.n u.r u.i u.s (zz 32 (hr u.p))from rfl]at hgi ha hV ua hhd
      generalize zz 32 (hr u.p)=xp at*
      repeat' (first|apply zs_|apply zb_|apply zc_|apply zt_ rfl|apply zf_ rfl|(apply zd_ rfl<;>intro ht<;>try omega)|((first|apply zr_|apply zk_|apply ze_|apply zq_|(apply callW.mk_pu;(first|exact(fun _=>hV _)|exact(fun _=>hC _)|exact(fun _=>hCl _)))|(apply callW.za;(first|exact(hV _)|exact(hC _)|exact(hCl _)))|(apply zG<;>intro ht));all_goals try simp (disch:=first|omega|(simp only [lens,z6,z7,zg,z8,zh,zm,lQt,lQd,List.length_replicate];first|done|omega)) only [go_sem,q1,q5,q8,q9,q10,hgi,hdl,hhd,ua,hOl,h3',sl,hst,xc,ha]))
      exact⟨m-1,by omega,i+1,w',by omega,hO2,by simp⟩
   ·have h3':¬((z16 (P.take i) K).length:Int)<3:=by omega
    have e:=hno (.inr h3)
    repeat' (first|apply zs_|apply zb_|apply zc_|apply zt_ rfl|apply zf_ rfl|(apply zd_ rfl<;>intro ht<;>try omega)|((first|apply zr_|apply zk_|apply ze_|apply zq_|(apply zG<;>intro ht));all_goals try simp (disch:=first|omega|(simp only [lens,z6,z7,zg,z8,zh,zm,lQt,lQd,List.length_replicate];first|done|omega)) only [go_sem,q1,q5,q8,q9,q10,hgi,hdl,hcl,hhd,ua,hOl,h3']))
    exact⟨m-1,by omega,i+1,w,by omega,by rw [e];exact hO.more _,by simp⟩
  ·obtain rfl:i=P.length:=by omega
   rw [List.take_of_length_le (Nat.le_refl _)]at hO
   repeat' (first|apply zs_|apply zb_|apply zc_|apply zt_ rfl|apply zf_ rfl|(apply zd_ rfl<;>intro ht<;>try omega)|((first|apply zr_|apply zk_|apply ze_|apply zq_|(apply zG<;>intro ht));all_goals try simp (disch:=first|omega|(simp only [lens,z6,z7,zg,z8,zh,zm,lQt,lQd,List.length_replicate];first|done|omega)) only [go_sem,q1,q5,q8,q9,q10]))
   exact hO.froze hw (z98 _)
end
section
attribute [local irreducible] ACallsTo ACallsP
end
section
theorem zd8{h:Hdr}(hv:valH h=true):(z28 (z2d h)).length<2000000:=by
 have h1:=ze8 hv
 have h2:=z23 (z2d h).length
 unfold z28
 rw [List.length_append];omega
theorem zps{h:Hdr}(hv:valH h=true):putV h.n h.i h.r h.s h.p=.tup [.str (z2d h),.int .i64 0]:=by
 unfold putV
 rw [if_pos (show z29 h.n h.i h.s h.p=true from hv)]
 rfl
def z2a(P:List Hdr):List UInt8:=(P.map fun q=>z28 (z2d q)).flatten
def gtS(P:List Hdr):List UInt8:=71::(numS P.length++z2a P)
theorem zpu{P:List Hdr}{i:Nat}(h:i<P.length):z2a (P.take (i+1))=z2a (P.take i)++z28 (z2d P[i]):=by
 unfold z2a;rw [List.take_succ_eq_append_getElem h,List.map_append,List.flatten_append];simp
theorem z8s:∀{P:List Hdr},(∀q ∈ P,valH q=true)->(z2a P).length<=2000000*P.length
 | [],_=>by simp [z2a]
 |q::P,h=>by
  have h1:=z8s (P:=P) fun q hq=>h q (List.mem_cons_of_mem _ hq)
  have h2:=zd8 (h q (by simp))
  unfold z2a at h1 ⊢
  simp only [List.map_cons,List.flatten_cons,List.length_append,List.length_cons]
  omega
theorem zy0(s:List UInt8):z28 s ≠ []:=by unfold z28;simp [zjd]
def ze7(P:List Hdr):AV:=if P=[] \/P.all valH=false then .tup [.str [],.int .i64 2]else .tup [.str (gtS P),.int .i64 0]
theorem zk1:ze7 []=.tup [.str [],.int .i64 2]:=if_pos (.inl rfl)
theorem zk2{P:List Hdr}(h0:P ≠ [])(hv:∀q ∈ P,valH q=true):ze7 P=.tup [.str (gtS P),.int .i64 0]:=if_neg fun h=>h.elim h0 fun h=>by
 rw [List.all_eq_true.2 hv]at h;cases h
attribute [local irreducible] ACallsTo ACallsP
theorem zpl(O:Store)(P:List Hdr)(x:AV)(hx:SlV 36 (hdrs P) x)(hl:P.length<=3)(hv:∀q ∈ P,valH q=true):ACallsTo TC 116 [x] O (ze7 P) O:=by
 have r1:=hx.len
 rw [z8]at r1
 unfold z1k at r1
 refine ACallsTo.of_body q2bok (by simp) fun hw _=> ?_
 by_cases h0:P=[]
 ·rw [h0,zk1]
  have h0':P.length=0:=by rw [h0];rfl
  rw [h0']at r1
  repeat' (first|apply zs_|apply zb_|apply zc_|apply zt_ rfl|apply zf_ rfl|(apply zd_ rfl<;>intro ht<;>try omega)|((first|apply zr_|apply zk_|apply ze_|apply zq_|(apply zG<;>intro ht));all_goals try simp (disch:=first|omega|(simp only [lens,z6,z7,zg,z8,zh,zm,lQt,lQd,List.length_replicate];first|done|omega)) only [go_sem,r1]))
  exact DownV.same hw (by simp [RL,RLs])
 ·rw [zk2 h0 hv]
  have hP0:0<P.length:=List.length_pos_iff.2 h0
  have hN:=fun O=>z6o O P.length (by omega)
  have hNl:=z23 P.length
  have h3:¬(P.length:Int)>3:=by omega
  have h1:((P.length:Int)==0)=false:=beq_eq_false_iff_ne.2 (by omega)
  unfold gtS
  generalize numS P.length=N at*
  have b0:BldN O (O++ [some [[.bld O.length,.bnil]]]) O.length []:=BldN.new (Nat.le_refl _) (by simp)
  obtain⟨O1,w1,b1⟩:=b0.write (t:=71::N) (by simp) (by simp;omega)
  rw [List.nil_append]at b1
  repeat' (first|apply zs_|apply zb_|apply zc_|apply zt_ rfl|apply zf_ rfl|(apply zd_ rfl<;>intro ht<;>try omega)|((first|apply zr_|apply zk_|apply ze_|apply zq_|(apply callW.mk_pu;(first|exact(fun _=>hN _)|exact(fun _=>w1)))|(apply callW.za;(first|exact(hN _)|exact(w1)))|(apply zG<;>intro ht));all_goals try simp (disch:=first|omega|(simp only [lens,z6,z7,zg,z8,zh,zm,lQt,lQd,List.length_replicate];first|done|omega)) only [go_sem,r1,h3,h1,List.cons_append,List.nil_append]))
  refine zW.loop (fun m J O'=>∃i:Nat,m+i=P.length/\ BldN O O' O.length (71::N++z2a (P.take i))/\ J 4=.ptr O.length 0 0/\ J 23=x/\ J 24=.int .i64 P.length/\ J 25=.int .i64 i) P.length ?_ ?_
  ·exact⟨0,by omega,by simpa [z2a]using b1,by simp (disch:=first|omega|(simp only [lens,z6,z7,zg,z8,zh,zm,lQt,lQd,List.length_replicate];first|done|omega)) only [go_sem],by simp (disch:=first|omega|(simp only [lens,z6,z7,zg,z8,zh,zm,lQt,lQd,List.length_replicate];first|done|omega)) only [go_sem],by simp (disch:=first|omega|(simp only [lens,z6,z7,zg,z8,zh,zm,lQt,lQd,List.length_replicate];first|done|omega)) only [go_sem,r1],by simp (disch:=first|omega|(simp only [lens,z6,z7,zg,z8,zh,zm,lQt,lQd,List.length_replicate];first|done|omega)) only [go_sem];try rfl⟩
  ·clear w1 b1 b0
   rintro m J O' ⟨i,hm,hB,q4,q23,q24,q25⟩
   have hcl:=z8s (P:=P.take i) fun q hq=>hv q (List.mem_of_mem_take hq)
   rw [List.length_take]at hcl
   by_cases hi:i<P.length
   ·obtain⟨e1,rfl⟩:=hx.vsl (by rw [z8];omega)
    have gi:=z6t hi
    have sl:=z8 P
    have hst:=zpu hi
    have hk:=hv P[i] (List.getElem_mem hi)
    have hM:=fun O=>Put_to O P[i].n P[i].i P[i].r P[i].s P[i].p _ (.of (z1v 32 (hr P[i].p)))
    rw [show sgC P[i].n P[i].r P[i].i P[i].s (zz 32 (hr P[i].p))=hdrC P[i]from rfl,zps hk]at hM
    generalize P[i]=u at*
    have hpl:=ze8 hk
    have htl:=zd8 hk
    have hT:=fun O=>zcv O (z2d u) (by omega)
    have hne:=zy0 (z2d u)
    have hul:=zg u
    have ua:(hdrC u).take 36=hdrC u:=z6s u
    generalize z28 (z2d u)=T at*
    obtain⟨O2,w2,b2⟩:=(hB.more [some [hdrC u]]).write (t:=T) hne (by simp only [List.length_append,List.length_cons];omega)
    repeat' (first|apply zs_|apply zb_|apply zc_|apply zt_ rfl|apply zf_ rfl|(apply zd_ rfl<;>intro ht<;>try omega)|((first|apply zr_|apply zk_|apply ze_|apply zq_|(apply callW.mk_pu;(first|exact(fun _=>hM _)|exact(fun _=>hT _)|exact(fun _=>w2)))|(apply callW.za;(first|exact(hM _)|exact(hT _)|exact(w2)))|(apply zG<;>intro ht));all_goals try simp (disch:=first|omega|(simp only [lens,z6,z7,zg,z8,zh,zm,lQt,lQd,List.length_replicate];first|done|omega)) only [go_sem,q4,q23,q24,q25,gi,sl,hul,ua]))
    refine⟨m-1,by omega,i+1,by omega,?_,by simp⟩
    rw [hst,<-List.append_assoc];exact b2
   ·have e:P.take i=P:=List.take_of_length_le (by omega)
    rw [e]at hB
    have hcl2:=z8s hv
    obtain⟨news,w3⟩:=hB.string (by simp) (by simp only [List.length_append,List.length_cons];omega)
    have hi':¬(i:Int)<P.length:=by omega
    repeat' (first|apply zs_|apply zb_|apply zc_|apply zt_ rfl|apply zf_ rfl|(apply zd_ rfl<;>intro ht<;>try omega)|((first|apply zr_|apply zk_|apply ze_|apply zq_|(apply callW.mk_pu;(first|exact(fun _=>w3)))|(apply callW.za;(first|exact(w3)))|(apply zG<;>intro ht));all_goals try simp (disch:=first|omega|(simp only [lens,z6,z7,zg,z8,zh,zm,lQt,lQd,List.length_replicate];first|done|omega)) only [go_sem,q4,q23,q24,q25,hi']))
    exact DownV.pure hw (by simp [RL,RLs])
end
section
theorem zpt{P:List Hdr}{i:Nat}(h:i<P.length):z2a (P.drop i)=z28 (z2d P[i])++z2a (P.drop (i+1)):=by
 rw [List.drop_eq_getElem_cons h];rfl
theorem zs3{l:List NH}{i:Nat}(h:i<l.length):z22 (l.drop i)=nhS l[i]++z22 (l.drop (i+1)):=by
 rw [List.drop_eq_getElem_cons h];rfl
theorem zpp{h:Hdr}(hv:valH h=true):getV (getH (z2d h))=.tup [.agg (hdrC h),.int .i64 0]:=by
 obtain⟨d,e1,e2,e3⟩:=val_of hv
 have:=zpo e2 []
 rw [List.append_nil,if_pos rfl,<-e3]at this
 rw [this,e1];rfl
theorem zr5{l:List NH}{i:Nat}(h:i<l.length):knP (l.take i)++ [.int .i64 l[i].1::hc l[i].2]=knP (l.take (i+1)):=by
 unfold knP;rw [List.take_succ_eq_append_getElem h,List.map_append];rfl
theorem zud{k:Nat}(l:List NH):RLss k (knP l):=by
 induction l with
 |nil=>simp [knP,RLss]
 |cons q l ih=>
  show RLss k ((.int .i64 q.1::hc q.2)::knP l)
  simp only [RLss]
  exact⟨by simp only [RLs,RL];exact⟨trivial,z6z q.2⟩,ih⟩
attribute [local irreducible] ACallsTo ACallsP
theorem zm6(O:Store)(a b:UInt8)(t:List UInt8):ACallsTo TC 176 [.str (a::t),.str [b]] O (.bool (decide (a=b))) O:=by
 refine ACallsTo.of_body qsok (by simp) fun hw _=> ?_
 have h1:((t.length+1:Nat):Int)>=1:=by omega
 by_cases h:a=b
 ·subst h
  rw [decide_eq_true rfl]
  have e:([a]==[a])=true:=by simp
  repeat' (first|apply zs_|apply zb_|apply zc_|apply zt_ rfl|apply zf_ rfl|(apply zd_ rfl<;>intro ht<;>try omega)|((first|apply zr_|apply zk_|apply ze_|apply zq_|(apply zG<;>intro ht));all_goals try simp (disch:=first|omega|(simp only [lens,z6,z7,zg,z8,zh,zm,lQt,lQd,List.length_replicate];first|done|omega)) only [go_sem,e,h1,List.length_cons,List.length_nil,List.take_succ_cons,List.take_zero]))
  exact DownV.same hw rl_b
 ·rw [decide_eq_false h]
  have e:([a]==[b])=false:=by simp [h]
  repeat' (first|apply zs_|apply zb_|apply zc_|apply zt_ rfl|apply zf_ rfl|(apply zd_ rfl<;>intro ht<;>try omega)|((first|apply zr_|apply zk_|apply ze_|apply zq_|(apply zG<;>intro ht));all_goals try simp (disch:=first|omega|(simp only [lens,z6,z7,zg,z8,zh,zm,lQt,lQd,List.length_replicate];first|done|omega)) only [go_sem,e,h1,List.length_cons,List.length_nil,List.take_succ_cons,List.take_zero]))
  exact DownV.same hw rl_b
theorem zm2(O:Store)(a b:UInt8)(t:List UInt8):ACallsTo TC 173 [.str (a::t),.str [b]] O (if a=b then .tup [.str t,.bool true]else .tup [.str (a::t),.bool false]) O:=by
 have hH:=fun O=>zm6 O a b t
 refine ACallsTo.of_body q2gok (by simp) fun hw _=> ?_
 by_cases h:a=b
 ·rw [if_pos h]
  rw [decide_eq_true h]at hH
  repeat' (first|apply zs_|apply zb_|apply zc_|apply zt_ rfl|apply zf_ rfl|(apply zd_ rfl<;>intro ht<;>try omega)|((first|apply zr_|apply zk_|apply ze_|apply zq_|(apply callW.mk_pu;(first|exact(fun _=>hH _)))|(apply callW.za;(first|exact(hH _)))|(apply zG<;>intro ht));all_goals try simp (disch:=first|omega|(simp only [lens,z6,z7,zg,z8,zh,zm,lQt,lQd,List.length_replicate];first|done|omega)) only [go_sem,List.length_cons,List.length_nil,List.drop_succ_cons,List.drop_zero]))
  exact DownV.same hw (by simp [RL,RLs])
 ·rw [if_neg h]
  rw [decide_eq_false h]at hH
  repeat' (first|apply zs_|apply zb_|apply zc_|apply zt_ rfl|apply zf_ rfl|(apply zd_ rfl<;>intro ht<;>try omega)|((first|apply zr_|apply zk_|apply ze_|apply zq_|(apply callW.mk_pu;(first|exact(fun _=>hH _)))|(apply callW.za;(first|exact(hH _)))|(apply zG<;>intro ht));all_goals try simp (disch:=first|omega|(simp only [lens,z6,z7,zg,z8,zh,zm,lQt,lQd,List.length_replicate];first|done|omega)) only [go_sem,List.length_cons,List.length_nil]))
  exact DownV.same hw (by simp [RL,RLs])
theorem zm3(O:Store)(a b:UInt8)(t:List UInt8):ACallsTo TC 160 [.str (a::t),.str [b]] O (if a=b then .tup [.str t,.bool true]else .tup [.str (a::t),.bool false]) O:=by
 have hH:=fun O=>zm2 O a b t
 refine ACallsTo.of_body q2fok (by simp) fun hw _=> ?_
 by_cases h:a=b
 ·rw [if_pos h]at hH ⊢
  repeat' (first|apply zs_|apply zb_|apply zc_|apply zt_ rfl|apply zf_ rfl|(apply zd_ rfl<;>intro ht<;>try omega)|((first|apply zr_|apply zk_|apply ze_|apply zq_|(apply callW.mk_pu;(first|exact(fun _=>hH _)))|(apply callW.za;(first|exact(hH _)))|(apply zG<;>intro ht));all_goals try simp (disch:=first|omega|(simp only [lens,z6,z7,zg,z8,zh,zm,lQt,lQd,List.length_replicate];first|done|omega)) only [go_sem,Nat.add_zero]))
  exact DownV.same hw (by simp [RL,RLs])
 ·rw [if_neg h]at hH ⊢
  repeat' (first|apply zs_|apply zb_|apply zc_|apply zt_ rfl|apply zf_ rfl|(apply zd_ rfl<;>intro ht<;>try omega)|((first|apply zr_|apply zk_|apply ze_|apply zq_|(apply callW.mk_pu;(first|exact(fun _=>hH _)))|(apply callW.za;(first|exact(hH _)))|(apply zG<;>intro ht));all_goals try simp (disch:=first|omega|(simp only [lens,z6,z7,zg,z8,zh,zm,lQt,lQd,List.length_replicate];first|done|omega)) only [go_sem,Nat.add_zero]))
  exact DownV.same hw (by simp [RL,RLs])
theorem zd6(O:Store)(a b:UInt8)(t:List UInt8)(ht:t.length<1000000000):ACallsTo TC 142 [.str (a::t),.str [b]] O (if a=b then rdV (z2i t)else .tup [.int .u64 0,.str [],.bool false]) O:=by
 have hH:=fun O=>zm3 O a b t
 have hR:=fun O=>z6p O t ht
 refine ACallsTo.of_body q2dok (by simp) fun hw _=> ?_
 by_cases h:a=b
 ·rw [if_pos h]at hH ⊢
  rw [rdV_D]at hR ⊢
  repeat' (first|apply zs_|apply zb_|apply zc_|apply zt_ rfl|apply zf_ rfl|(apply zd_ rfl<;>intro ht<;>try omega)|((first|apply zr_|apply zk_|apply ze_|apply zq_|(apply callW.mk_pu;(first|exact(fun _=>hH _)|exact(fun _=>hR _)))|(apply callW.za;(first|exact(hH _)|exact(hR _)))|(apply zG<;>intro ht));all_goals try simp (disch:=first|omega|(simp only [lens,z6,z7,zg,z8,zh,zm,lQt,lQd,List.length_replicate];first|done|omega)) only [go_sem,Nat.add_zero]))
  exact DownV.same hw (by simp [RL,RLs])
 ·rw [if_neg h]at hH ⊢
  repeat' (first|apply zs_|apply zb_|apply zc_|apply zt_ rfl|apply zf_ rfl|(apply zd_ rfl<;>intro ht<;>try omega)|((first|apply zr_|apply zk_|apply ze_|apply zq_|(apply callW.mk_pu;(first|exact(fun _=>hH _)))|(apply callW.za;(first|exact(hH _)))|(apply zG<;>intro ht));all_goals try simp (disch:=first|omega|(simp only [lens,z6,z7,zg,z8,zh,zm,lQt,lQd,List.length_replicate];first|done|omega)) only [go_sem,Nat.add_zero]))
  exact DownV.same hw (by simp [RL,RLs])
theorem zpj(O:Store)(t:List UInt8)(ht:t.length<1000000000):ACallsTo TC 114 [.str (68::t)] O (.tup [.nilsl,.int .i64 10]) O:=by
 have hC:=fun O=>zd6 O 68 71 t ht
 rw [if_neg (by decide)]at hC
 refine ACallsTo.of_body q29ok (by simp) fun hw _=> ?_
 repeat' (first|apply zs_|apply zb_|apply zc_|apply zt_ rfl|apply zf_ rfl|(apply zd_ rfl<;>intro ht<;>try omega)|((first|apply zr_|apply zk_|apply ze_|apply zq_|(apply callW.mk_pu;(first|exact(fun _=>hC _)))|(apply callW.za;(first|exact(hC _)))|(apply zG<;>intro ht));all_goals try simp (disch:=first|omega|(simp only [lens,z6,z7,zg,z8,zh,zm,lQt,lQd,List.length_replicate];first|done|omega)) only [go_sem,Nat.add_zero]))
 exact DownV.same hw (by simp [RL,RLs])
theorem zpk(O:Store)(P:List Hdr)(h0:P ≠ [])(hl:P.length<=3)(hv:∀q ∈ P,valH q=true):ACallsTo TC 114 [.str (gtS P)] O (.tup [zz 36 (hdrs P),.int .i64 0]) O:=by
 have hP0:0<P.length:=List.length_pos_iff.2 h0
 have hcl:=z8s hv
 have hnl:=z23 P.length
 have hC:=fun O=>zd6 O 71 71 (numS P.length++z2a P) (by rw [List.length_append];omega)
 rw [if_pos rfl,z6y (by omega)]at hC
 rw [show rdV (some (P.length,z2a P))=.tup [.int .u64 P.length,.str (z2a P),.bool true]from rfl]at hC
 unfold gtS
 have h1:¬(P.length:Int)<1:=by omega
 have h3:¬(P.length:Int)>3:=by omega
 refine ACallsTo.of_body q29ok (by simp) fun hw _=> ?_
 repeat' (first|apply zs_|apply zb_|apply zc_|apply zt_ rfl|apply zf_ rfl|(apply zd_ rfl<;>intro ht<;>try omega)|((first|apply zr_|apply zk_|apply ze_|apply zq_|(apply callW.mk_pu;(first|exact(fun _=>hC _)))|(apply callW.za;(first|exact(hC _)))|(apply zG<;>intro ht));all_goals try simp (disch:=first|omega|(simp only [lens,z6,z7,zg,z8,zh,zm,lQt,lQd,List.length_replicate];first|done|omega)) only [go_sem,h1,h3]))
 refine zW.loop (fun m J O'=>∃(i:Nat) (w:AV),m+i=P.length/\ OwnN 36 O O' w (hdrs (P.take i))/\ J 5=.str (z2a (P.drop i))/\ J 7=w/\ J 29=.int .u64 P.length/\ J 30=.int .u64 i) P.length ?_ ?_
 ·exact⟨0,.nilsl,by omega,⟨[],by simp,.inl ⟨rfl,rfl⟩⟩,by rw [List.drop_zero];simp (disch:=first|omega|(simp only [lens,z6,z7,zg,z8,zh,zm,lQt,lQd,List.length_replicate];first|done|omega)) only [go_sem],by simp (disch:=first|omega|(simp only [lens,z6,z7,zg,z8,zh,zm,lQt,lQd,List.length_replicate];first|done|omega)) only [go_sem],by simp (disch:=first|omega|(simp only [lens,z6,z7,zg,z8,zh,zm,lQt,lQd,List.length_replicate];first|done|omega)) only [go_sem],by simp (disch:=first|omega|(simp only [lens,z6,z7,zg,z8,zh,zm,lQt,lQd,List.length_replicate];first|done|omega)) only [go_sem];try rfl⟩
 ·rintro m J O' ⟨i,w,hm,hO,q5,q7,q29,q30⟩
  by_cases hi:i<P.length
  ·have hst:=zif hi
   have hdr:=zpt hi
   have hcl2:=z8s (P:=P.drop (i+1)) fun q hq=>hv q (List.mem_of_mem_drop hq)
   rw [List.length_drop]at hcl2
   have hk:=hv P[i] (List.getElem_mem hi)
   generalize P[i]=u at*
   have hpl:=ze8 hk
   have htl:=zd8 hk
   have hCt:=fun O=>zcu O (z28 (z2d u)++z2a (P.drop (i+1))) (by rw [List.length_append];omega)
   rw [zhg (by omega)]at hCt
   rw [show stV (some (z2d u,z2a (P.drop (i+1))))=.tup [.str (z2d u),.str (z2a (P.drop (i+1))),.bool true]from rfl]at hCt
   have hG:=fun O=>Get_to O (z2d u) (by omega)
   rw [zpp hk]at hG
   rw [hdr]at q5
   have hul:=zg u
   have ua:(hdrC u).take 36=hdrC u:=z6s u
   obtain⟨w',O2,ha,hO2⟩:=(hO.more [some [hdrC u]]).app (ys:=[hdrC u]) (by simp) (by rw [z8,List.length_take];simp;omega)
   rw [hst]at hO2
   have hi':(i:Int)<P.length:=by omega
   repeat' (first|apply zs_|apply zb_|apply zc_|apply zt_ rfl|apply zf_ rfl|(apply zd_ rfl<;>intro ht<;>try omega)|((first|apply zr_|apply zk_|apply ze_|apply zq_|(apply callW.mk_pu;(first|exact(fun _=>hCt _)|exact(fun _=>hG _)))|(apply callW.za;(first|exact(hCt _)|exact(hG _)))|(apply zG<;>intro ht));all_goals try simp (disch:=first|omega|(simp only [lens,z6,z7,zg,z8,zh,zm,lQt,lQd,List.length_replicate];first|done|omega)) only [go_sem,q5,q7,q29,q30,hul,ua,ha,hi']))
   exact⟨m-1,by omega,i+1,w',by omega,hO2,by simp⟩
  ·obtain rfl:i=P.length:=by omega
   rw [List.take_of_length_le (Nat.le_refl _)]at hO
   rw [List.drop_of_length_le (Nat.le_refl _),show z2a []=[]from rfl]at q5
   repeat' (first|apply zs_|apply zb_|apply zc_|apply zt_ rfl|apply zf_ rfl|(apply zd_ rfl<;>intro ht<;>try omega)|((first|apply zr_|apply zk_|apply ze_|apply zq_|(apply zG<;>intro ht));all_goals try simp (disch:=first|omega|(simp only [lens,z6,z7,zg,z8,zh,zm,lQt,lQd,List.length_replicate];first|done|omega)) only [go_sem,q5,q7,q29,q30]))
   exact(hO.froze hw (z98 _)).tup2
theorem zpi(O:Store)(l:List NH)(hl:l.length<=64)(hok:∀p ∈ l,nhOk p=true):ACallsTo TC 115 [.str (knS l)] O (.tup [zz 33 (knP l),.int .i64 0]) O:=by
 have hcl:=z6x l
 have hnl:=z23 l.length
 have hC:=fun O=>zd6 O 68 68 (numS l.length++z22 l) (by rw [List.length_append];omega)
 rw [if_pos rfl,z6y (by omega)]at hC
 rw [show rdV (some (l.length,z22 l))=.tup [.int .u64 l.length,.str (z22 l),.bool true]from rfl]at hC
 unfold knS
 have h3:¬(l.length:Int)>64:=by omega
 refine ACallsTo.of_body q2aok (by simp) fun hw _=> ?_
 repeat' (first|apply zs_|apply zb_|apply zc_|apply zt_ rfl|apply zf_ rfl|(apply zd_ rfl<;>intro ht<;>try omega)|((first|apply zr_|apply zk_|apply ze_|apply zq_|(apply callW.mk_pu;(first|exact(fun _=>hC _)))|(apply callW.za;(first|exact(hC _)))|(apply zG<;>intro ht));all_goals try simp (disch:=first|omega|(simp only [lens,z6,z7,zg,z8,zh,zm,lQt,lQd,List.length_replicate];first|done|omega)) only [go_sem,h3]))
 refine zW.loop (fun m J O'=>∃(i:Nat) (w:AV),m+i=l.length/\ OwnN 33 O O' w (knP (l.take i))/\ J 5=.str (z22 (l.drop i))/\ J 7=w/\ J 25=.int .u64 l.length/\ J 26=.int .u64 i) l.length ?_ ?_
 ·exact⟨0,.nilsl,by omega,⟨[],by simp,.inl ⟨rfl,rfl⟩⟩,by rw [List.drop_zero];simp (disch:=first|omega|(simp only [lens,z6,z7,zg,z8,zh,zm,lQt,lQd,List.length_replicate];first|done|omega)) only [go_sem],by simp (disch:=first|omega|(simp only [lens,z6,z7,zg,z8,zh,zm,lQt,lQd,List.length_replicate];first|done|omega)) only [go_sem],by simp (disch:=first|omega|(simp only [lens,z6,z7,zg,z8,zh,zm,lQt,lQd,List.length_replicate];first|done|omega)) only [go_sem],by simp (disch:=first|omega|(simp only [lens,z6,z7,zg,z8,zh,zm,lQt,lQd,List.length_replicate];first|done|omega)) only [go_sem];try rfl⟩
 ·rintro m J O' ⟨i,w,hm,hO,q5,q7,q25,q26⟩
  by_cases hi:i<l.length
  ·have hst:=zr5 hi
   have hdr:=zs3 hi
   have hcl2:=z6x (l.drop (i+1))
   rw [List.length_drop]at hcl2
   have hk:=hok l[i] (List.getElem_mem hi)
   generalize l[i]=p at*
   obtain⟨n,r⟩:=p
   obtain⟨k1,k2⟩:=of_decide_eq_true hk
   dsimp only at k1 k2 hst
   obtain⟨K,rfl⟩:∃K:Nat,n=K:=⟨n.toNat,by omega⟩
   have kl:=z23 K
   have r32:=r.2
   rw [show nhS ((K:Int),r)=numS K++r.1 from rfl,List.append_assoc]at hdr
   have hRd:=fun O=>z6p O (numS K++(r.1++z22 (l.drop (i+1)))) (by simp only [List.length_append];omega)
   rw [z6y (by omega)]at hRd
   rw [show rdV (some (K,r.1++z22 (l.drop (i+1))))=.tup [.int .u64 K,.str (r.1++z22 (l.drop (i+1))),.bool true]from rfl]at hRd
   have hU:=fun O=>z7j O (r.1++z22 (l.drop (i+1))) (by simp only [List.length_append];omega)
   rw [zlm]at hU
   rw [show unV (some (r,z22 (l.drop (i+1))))=.tup [.agg (hc r),.str (z22 (l.drop (i+1))),.bool true]from rfl]at hU
   rw [hdr]at q5
   have rl:=z6 r
   have ra:(hc r).take 32=hc r:=List.take_of_length_le (by omega)
   have k4:¬(K:Int)>4096:=by omega
   obtain⟨w',O2,ha,hO2⟩:=(hO.more [some [hc r]]).app (ys:=[.int .i64 (K:Int)::hc r]) (by simp) (by rw [zm,List.length_take];simp;omega)
   rw [hst]at hO2
   have hi':(i:Int)<l.length:=by omega
   repeat' (first|apply zs_|apply zb_|apply zc_|apply zt_ rfl|apply zf_ rfl|(apply zd_ rfl<;>intro ht<;>try omega)|((first|apply zr_|apply zk_|apply ze_|apply zq_|(apply callW.mk_pu;(first|exact(fun _=>hRd _)|exact(fun _=>hU _)))|(apply callW.za;(first|exact(hRd _)|exact(hU _)))|(apply zG<;>intro ht));all_goals try simp (disch:=first|omega|(simp only [lens,z6,z7,zg,z8,zh,zm,lQt,lQd,List.length_replicate];first|done|omega)) only [go_sem,q5,q7,q25,q26,rl,ra,ha,hi',k4]))
   exact⟨m-1,by omega,i+1,w',by omega,hO2,by simp⟩
  ·obtain rfl:i=l.length:=by omega
   rw [List.take_of_length_le (Nat.le_refl _)]at hO
   rw [List.drop_of_length_le (Nat.le_refl _),show z22 []=[]from rfl]at q5
   repeat' (first|apply zs_|apply zb_|apply zc_|apply zt_ rfl|apply zf_ rfl|(apply zd_ rfl<;>intro ht<;>try omega)|((first|apply zr_|apply zk_|apply ze_|apply zq_|(apply zG<;>intro ht));all_goals try simp (disch:=first|omega|(simp only [lens,z6,z7,zg,z8,zh,zm,lQt,lQd,List.length_replicate];first|done|omega)) only [go_sem,q5,q7,q25,q26]))
   exact(hO.froze hw (zud _)).tup2
end
section
attribute [local irreducible] ACallsTo ACallsP
end
section
attribute [local irreducible] ACallsTo ACallsP
end
section
inductive MT where
 |gt (P:List Hdr)
 |kn (l:List NH)
structure MM where
 f:Nat
 t:Nat
 k:MT
def MT.txt:MT->List UInt8| .gt P=>gtS P| .kn l=>knS l
def MM.ml(m:MM):ML:=⟨m.f,m.t,m.k.txt⟩
def MT.Ok:MT->Prop
 | .gt P=>P ≠ []/\ P.length<=3/\ ∀q ∈ P,valH q=true
 | .kn l=>l.length<=64/\ ∀p ∈ l,nhOk p=true
structure MM.Ok(n:Nat)(m:MM):Prop where
 f:m.f<n
 t:m.t<n
 ne:m.f ≠ m.t
 k:m.k.Ok
theorem FrL.fr{O O':Store}{r:Nat}{sid sid':Option Nat}(h:FrL O O' r sid sid'):Fr O O' (r::sid.toList) (r::sid'.toList) where
 st j hj hn:=h.keep j hj (fun e=>hn (e ▸ List.mem_cons_self ..)) fun e=>hn (by rw [e];simp)
 new j hj:=by
  rcases List.mem_cons.1 hj with rfl|h2
  ·exact .inl (List.mem_cons_self ..)
  ·have:sid'=some j:=by cases sid'<;>simp_all
   rcases h.new j this with h3|h3
   ·exact .inl (by rw [h3];simp)
   ·exact .inr h3
 le:=h.len
theorem LkIs.lt2{O:Store}{r:Nat}{nodes:Int}{sid:Option Nat}{L:List ML}(h:LkIs O r nodes sid L):∀x ∈ r::sid.toList,x<O.length:=by
 intro x hx
 obtain⟨h1,h2⟩:=h.lt
 rcases List.mem_cons.1 hx with rfl|h3
 ·exact h1
 ·exact h2 x (by cases sid<;>simp_all)
theorem LkIs.keep{O O':Store}{r:Nat}{nodes:Int}{sid:Option Nat}{L:List ML}(h:LkIs O r nodes sid L)(hk:∀x ∈ r::sid.toList,O'[x]? =O[x]?):LkIs O' r nodes sid L:=by
 refine⟨by rw [hk r (List.mem_cons_self ..)];exact h.obj,?_,h.apart⟩
 have:=h.rows
 cases sid with
 |none=>exact this
 |some s=>obtain⟨junk,hj⟩:=this;exact⟨junk,by rw [hk s (by simp)];exact hj⟩
def z9r(N:Nat)(ow:Nat->List Nat):Prop:=∀i j,i<N->j<N->i ≠ j->∀x ∈ ow i,x ∉ ow j
def z2q(N:Nat)(ow:Nat->List Nat):List Nat:=(List.range N).flatMap ow
theorem mem_allOw{N:Nat}{ow:Nat->List Nat}{x:Nat}:x ∈ z2q N ow ↔ ∃i,i<N/\ x ∈ ow i:=by simp [z2q,List.mem_flatMap]
def updO(ow:Nat->List Nat)(m:Nat)(o:List Nat):Nat->List Nat:=fun j=>if j=m then o else ow j
theorem z9n{ow:Nat->List Nat}{m:Nat}{o:List Nat}:updO ow m o m=o:=if_pos rfl
theorem z5z{ow:Nat->List Nat}{m j:Nat}{o:List Nat}(h:j ≠ m):updO ow m o j=ow j:=if_neg h
theorem zjp{O O':Store}{N m:Nat}{ow:Nat->List Nat}{o:List Nat}(hm:m<N)(hlt:∀i,i<N->∀x ∈ ow i,x<O.length)(hd:z9r N ow)(hf:Fr O O' (ow m) o):
  z9r N (updO ow m o)/\ Fr O O' (z2q N ow) (z2q N (updO ow m o))/\ ∀j,j<N->j ≠ m->∀x ∈ ow j,O'[x]? =O[x]?:=by
 have hk:∀j,j<N->j ≠ m->∀x ∈ o,x ∉ ow j:=fun j hj hne x hx h2=>by
  rcases hf.new x hx with h3|h3
  ·exact hd m j hm hj (fun e=>hne e.symm) x h3 h2
  ·have:=hlt j hj x h2;omega
 refine⟨fun i j hi hj hne x hx h2=> ?_,⟨fun j hj hn=>hf.st j hj fun h=>hn (mem_allOw.2 ⟨m,hm,h⟩),fun x hx=> ?_,hf.le⟩,fun j hj hne x hx=>hf.st x (hlt j hj x hx) fun h=>hd j m hj hm hne x hx h⟩
 ·by_cases h1:i=m
  ·subst h1
   rw [z9n]at hx
   rw [z5z (fun e=>hne e.symm)]at h2
   exact hk j hj (fun e=>hne e.symm) x hx h2
  ·rw [z5z h1]at hx
   by_cases h3:j=m
   ·subst h3;rw [z9n]at h2;exact hk i hi h1 x h2 hx
   ·rw [z5z h3]at h2;exact hd i j hi hj hne x hx h2
 ·obtain⟨i,hi,h2⟩:=mem_allOw.1 hx
  by_cases h1:i=m
  ·subst h1;rw [z9n]at h2
   exact(hf.new x h2).imp_left fun h=>mem_allOw.2 ⟨i,hm,h⟩
  ·rw [z5z h1]at h2;exact .inl (mem_allOw.2 ⟨i,hi,h2⟩)
abbrev PI:=Store->Nat->Hash->List Hdr->List Nat->Prop
structure PLoc(I:PI):Prop where
 lt:∀{O p key P own},I O p key P own->∀j ∈ own,j<O.length
 keep:∀{O O' p key P own},I O p key P own->(∀j,j ∈ own->O'[j]? =O[j]?)->I O' p key P own
theorem ploc_is:PLoc PoIs:=⟨fun h _ hj=>h.lt hj,fun h hk=>h.keep hk⟩
structure CirO(I:PI)(O:Store)(c q l:Nat)(sid:Option Nat)(pp:List Nat)(ow:Nat->List Nat)(key:Hash)(PS:List (List Hdr))(M:List MM):Prop where
 o0:ow 0=[c,q]
 o1:ow 1=l::sid.toList
 len:pp.length=PS.length
 obj:O[c]? =some (some [[.sl q 0 PS.length none 1,.ptr l 0 0]])
 row:O[q]? =some (some (pp.map fun p=>[.ptr p 0 0]))
 lk:LkIs O l PS.length sid (M.map MM.ml)
 pool:∀i,i<PS.length->I O (pp.getD i 0) key (PS.getD i []) (ow (i+2))
 apart:z9r (PS.length+2) ow
def CirS(I:PI)(O:Store)(c:Nat)(key:Hash)(PS:List (List Hdr))(M:List MM)(own:List Nat):Prop:=
 ∃q l sid pp ow,own=z2q (PS.length+2) ow/\ CirO I O c q l sid pp ow key PS M
section
variable {I:PI} (hI:PLoc I) {O O':Store} {c q l:Nat} {sid:Option Nat} {pp:List Nat} {ow:Nat->List Nat} {key:Hash} {PS:List (List Hdr)} {M:List MM} {own:List Nat}
include hI
theorem CirO.lt(h:CirO I O c q l sid pp ow key PS M):∀i,i<PS.length+2->∀x ∈ ow i,x<O.length:=by
 intro i hi x hx
 match i,hi,hx with
 | 0,_,hx=>
  rw [h.o0]at hx
  rcases List.mem_cons.1 hx with rfl|h2
  ·exact slen h.obj
  ·rw [List.mem_singleton.1 h2];exact slen h.row
 | 1,_,hx=>rw [h.o1]at hx;exact h.lk.lt2 x hx
 |i+2,hi,hx=>exact hI.lt (h.pool i (by omega)) x hx
theorem CirO.keep(h:CirO I O c q l sid pp ow key PS M)(hk:∀i,i<PS.length+2->∀x ∈ ow i,O'[x]? =O[x]?):CirO I O' c q l sid pp ow key PS M where
 o0:=h.o0
 o1:=h.o1
 len:=h.len
 obj:=by rw [hk 0 (by omega) c (by rw [h.o0];simp)];exact h.obj
 row:=by rw [hk 0 (by omega) q (by rw [h.o0];simp)];exact h.row
 lk:=h.lk.keep fun x hx=>hk 1 (by omega) x (by rw [h.o1];exact hx)
 pool i hi:=hI.keep (h.pool i hi) fun j hj=>hk (i+2) (by omega) j hj
 apart:=h.apart
theorem CirS.lt(h:CirS I O c key PS M own):∀x ∈ own,x<O.length:=by
 obtain⟨q,l,sid,pp,ow,rfl,h⟩:=h
 intro x hx
 obtain⟨i,hi,h2⟩:=mem_allOw.1 hx
 exact h.lt hI i hi x h2
theorem CirS.keep(h:CirS I O c key PS M own)(hk:∀x ∈ own,O'[x]? =O[x]?):CirS I O' c key PS M own:=by
 obtain⟨q,l,sid,pp,ow,rfl,h⟩:=h
 exact⟨q,l,sid,pp,ow,rfl,h.keep hI fun i hi x hx=>hk x (mem_allOw.2 ⟨i,hi,hx⟩)⟩
theorem CirS.ext(h:CirS I O c key PS M own)(he:Ext O O'):CirS I O' c key PS M own:=h.keep hI fun x hx=>by
 have:=h.lt hI x hx
 obtain⟨y,rfl⟩:=he
 exact gapp this
theorem CirS.fr{o o':List Nat}(h:CirS I O c key PS M own)(hf:Fr O O' o o')(hd:∀x ∈ o,x ∉ own):CirS I O' c key PS M own:=
 h.keep hI fun x hx=>hf.st x (h.lt hI x hx) fun h2=>hd x h2 hx
theorem CirO.pool'(h:CirO I O c q l sid pp ow key PS M){i:Nat}(hi:i<PS.length){P:List Hdr}{o:List Nat}(hf:Fr O O' (ow (i+2)) o)(hp:I O' (pp.getD i 0) key P o):
  CirO I O' c q l sid pp (updO ow (i+2) o) key (PS.set i P) M/\ Fr O O' (z2q (PS.length+2) ow) (z2q (PS.length+2) (updO ow (i+2) o)):=by
 obtain⟨h1,h2,h3⟩:=zjp (by omega) (h.lt hI) h.apart hf
 refine⟨?_,h2⟩
 have k0:=h3 0 (by omega) (by omega)
 have k1:=h3 1 (by omega) (by omega)
 exact {
  o0:=by rw [z5z (by omega)];exact h.o0
  o1:=by rw [z5z (by omega)];exact h.o1
  len:=by rw [List.length_set];exact h.len
  obj:=by rw [List.length_set,k0 c (by rw [h.o0];simp)];exact h.obj
  row:=by rw [k0 q (by rw [h.o0];simp)];exact h.row
  lk:=by rw [List.length_set];exact h.lk.keep fun x hx=>k1 x (by rw [h.o1];exact hx)
  pool:=fun j hj=>by
   rw [List.length_set]at hj
   by_cases e:j=i
   ·subst e
    rw [z9n,show (PS.set j P).getD j []=P by simp [List.getD,hj]]
    exact hp
   ·rw [z5z (by omega),show (PS.set i P).getD j []=PS.getD j []by simp [List.getD,List.getElem?_set_ne (fun e2=>e e2.symm)]]
    exact hI.keep (h.pool j hj) (h3 (j+2) (by omega) (by omega))
  apart:=by rw [List.length_set];exact h1 }
theorem CirO.links'(h:CirO I O c q l sid pp ow key PS M){sid':Option Nat}{M':List MM}(hf:FrL O O' l sid sid')(hl:LkIs O' l PS.length sid' (M'.map MM.ml)):
  CirO I O' c q l sid' pp (updO ow 1 (l::sid'.toList)) key PS M'/\ Fr O O' (z2q (PS.length+2) ow) (z2q (PS.length+2) (updO ow 1 (l::sid'.toList))):=by
 obtain⟨h1,h2,h3⟩:=zjp (m:=1) (o:=l::sid'.toList) (by omega) (h.lt hI) h.apart (by rw [h.o1];exact hf.fr)
 refine⟨?_,h2⟩
 have k0:=h3 0 (by omega) (by omega)
 exact {
  o0:=by rw [z5z (by omega)];exact h.o0
  o1:=z9n
  len:=h.len
  obj:=by rw [k0 c (by rw [h.o0];simp)];exact h.obj
  row:=by rw [k0 q (by rw [h.o0];simp)];exact h.row
  lk:=hl
  pool:=fun j hj=>by
   rw [z5z (by omega)]
   exact hI.keep (h.pool j hj) (h3 (j+2) (by omega) (by omega))
  apart:=h1 }
end
end
section
theorem ztp{mk:AV->List AV}{O:Store}{p:Nat}{v:AV}{sid:Option Nat}(P:List Hdr)(hp:O[p]? =some (some [mk v])):
  ∃O' v' sid',O'[p]? =some (some [mk v'])/\ RowAt 36 O' sid' v' (hdrs P)/\ sid' ≠ some p/\ Fr O O' (p::sid.toList) (p::sid'.toList):=by
 have hl:=slen hp
 by_cases h0:P=[]
 ·refine⟨O.set p (some [mk .nilsl]),.nilsl,none,z1y hl,.inl ⟨rfl,by rw [h0];rfl,rfl⟩,by simp,⟨fun j hj hn=>z1g fun e=>hn (by rw [e];simp),fun j hj=> ?_,by simp⟩⟩
  simp at hj;subst hj;exact .inl (List.mem_cons_self ..)
 ·refine⟨O.set p (some [mk (.sl O.length 0 (hdrs P).length none 36)])++ [some (hdrs P)],_,some O.length,?_,.inr ⟨O.length,rfl,?_,rfl,?_⟩,?_,⟨fun j hj hn=> ?_,fun j hj=> ?_,by simp⟩⟩
  ·rw [gapp (by simpa using hl),z1y hl]
  ·intro e;have:=congrArg List.length e;rw [z8]at this;exact h0 (List.length_eq_zero_iff.1 this)
  ·rw [z1a (by simp)];simp
  ·intro e;injection e with e;omega
  ·rw [gapp (by simpa using hj)];exact z1g fun e=>hn (by rw [e];simp)
  ·simp at hj
   rcases hj with rfl|rfl
   ·exact .inl (List.mem_cons_self ..)
   ·exact .inr (Nat.le_refl _)
def PAny(I:PI):Prop:=∀{O p key P own},I O p key P own->∀P',∃O' own',I O' p key P' own'/\ Fr O O' own own'
theorem z3q:PAny PoIs:=fun {O p key P own} h P'=>by
 obtain⟨v,sid,rfl,hp,hr,hn⟩:=h
 obtain⟨O',v',sid',h1,h2,h3,h4⟩:=ztp (mk:=poC key) (sid:=sid) P' hp
 exact⟨O',_,⟨v',sid',rfl,h1,h2,h3⟩,h4⟩
theorem Fr.trans{O O2 O3:Store}{a b c:List Nat}(h:Fr O O2 a b)(h2:Fr O2 O3 b c):Fr O O3 a c:=by
 refine⟨fun j hj hn=> ?_,fun j hj=> ?_,Nat.le_trans h.le h2.le⟩
 ·rw [h2.st j (by have:=h.le;omega) fun h3=> ?_,h.st j hj hn]
  rcases h.new j h3 with h4|h4
  ·exact hn h4
  ·omega
 ·rcases h2.new j hj with h3|h3
  ·exact h.new j h3
  ·exact .inr (by have:=h.le;omega)
section
variable {I:PI} (hI:PLoc I) (hA:PAny I) {O:Store} {c:Nat} {key:Hash} {PS:List (List Hdr)} {M:List MM} {own:List Nat}
include hI hA
theorem CirS.pools(h:CirS I O c key PS M own)(PS':List (List Hdr))(hl:PS'.length=PS.length):∀n,n<=PS.length->∃O' own',CirS I O' c key (PS'.take n++PS.drop n) M own'/\ Fr O O' own own'
 | 0,_=>⟨O,own,by simpa using h,⟨fun _ _ _=>rfl,fun _ h=> .inl h,Nat.le_refl _⟩⟩
 |n+1,hn=>by
  obtain⟨O1,own1,⟨q,l,sid,pp,ow,rfl,h1⟩,f1⟩:=CirS.pools h PS' hl n (by omega)
  have hlen:(PS'.take n++PS.drop n).length=PS.length:=by simp;omega
  obtain⟨O2,o,h2,f2⟩:=hA (h1.pool n (by omega)) (PS'.getD n [])
  obtain⟨h3,f3⟩:=h1.pool' hI (i:=n) (by omega) f2 h2
  have e:(PS'.take n++PS.drop n).set n (PS'.getD n [])=PS'.take (n+1)++PS.drop (n+1):=by
   rw [List.set_append_right _ _ (by simp;omega),List.length_take,show n-min n PS'.length=0 by omega,List.drop_eq_getElem_cons (by omega),List.set_cons_zero,List.take_succ_eq_append_getElem (show n<PS'.length by omega),List.append_assoc,show PS'.getD n []=PS'[n]'(by omega)by simp [List.getD,List.getElem?_eq_getElem (show n<PS'.length by omega)]]
   rfl
  rw [e]at h3
  exact⟨O2,_,⟨q,l,sid,pp,_,by rw [show (PS'.take (n+1)++PS.drop (n+1)).length=(PS'.take n++PS.drop n).length by simp;omega],h3⟩,f1.trans f3⟩
theorem CirS.any(h:CirS I O c key PS M own)(PS':List (List Hdr))(M':List MM)(hl:PS'.length=PS.length):∃O' own',CirS I O' c key PS' M' own'/\ Fr O O' own own':=by
 obtain⟨O1,own1,h1,f1⟩:=CirS.pools hI hA h PS' hl PS.length (Nat.le_refl _)
 rw [List.drop_length,List.append_nil,<-hl,List.take_length]at h1
 obtain⟨q,l,sid,pp,ow,rfl,h1⟩:=h1
 obtain⟨O2,sid',h2,f2⟩:=lk_any h1.lk (M'.map MM.ml)
 obtain⟨h3,f3⟩:=h1.links' hI f2 h2
 exact⟨O2,_,⟨q,l,sid',pp,_,rfl,h3⟩,f1.trans f3⟩
end
def CirP(I:PI)(O:Store)(c:Nat)(key:Hash)(own:List Nat)(v:AV)(PS:List (List Hdr))(M:List MM)(a:AV)(O':Store):Prop:=a=v/\ ∃own',CirS I O' c key PS M own'/\ Fr O O' own own'
theorem CirP.is{I:PI}(hI:PLoc I)(hA:PAny I){O:Store}{c:Nat}{key:Hash}{PS PS':List (List Hdr)}{M M':List MM}{own:List Nat}(h:CirS I O c key PS M own)(v:AV)(hl:PS'.length=PS.length):∃a O',CirP I O c key own v PS' M' a O':=by
 obtain⟨O',own',h1,h2⟩:=h.any hI hA PS' M' hl
 exact⟨v,O',rfl,own',h1,h2⟩
def isN(n:Nat)(i:Int):Bool:=decide (0<=i/\ i<n)
attribute [local irreducible] ACallsTo ACallsP
theorem z6n(O:Store)(c q l n:Nat)(i:Int)(h:O[c]? =some (some [[.sl q 0 n none 1,.ptr l 0 0]])):ACallsTo TC 63 [.ptr c 0 0,.int .i64 i] O (.bool (isN n i)) O:=by
 refine ACallsTo.of_body q2rok (by simp) fun hw _=> ?_
 unfold isN
 by_cases h1:0<=i
 ·have h1':i>=0:=h1
  by_cases h2:i<n
  ·rw [decide_eq_true ⟨h1,h2⟩]
   repeat' (first|apply zs_|apply zb_|apply zc_|apply zt_ rfl|apply zf_ rfl|(apply zd_ rfl<;>intro ht<;>try omega)|((first|apply zr_|apply zk_|apply ze_|apply zq_|(apply zG<;>intro ht));all_goals try simp (disch:=first|omega|(simp only [lens,z6,z7,zg,z8,zh,zm,lQt,lQd,List.length_replicate,lQm];first|done|omega)) only [go_sem,h,h1',h2]))
   exact DownV.same hw rl_b
  ·rw [decide_eq_false fun h=>h2 h.2]
   repeat' (first|apply zs_|apply zb_|apply zc_|apply zt_ rfl|apply zf_ rfl|(apply zd_ rfl<;>intro ht<;>try omega)|((first|apply zr_|apply zk_|apply ze_|apply zq_|(apply zG<;>intro ht));all_goals try simp (disch:=first|omega|(simp only [lens,z6,z7,zg,z8,zh,zm,lQt,lQd,List.length_replicate,lQm];first|done|omega)) only [go_sem,h,h1',h2]))
   exact DownV.same hw rl_b
 ·have h1':¬i>=0:=h1
  rw [decide_eq_false fun h=>h1 h.1]
  repeat' (first|apply zs_|apply zb_|apply zc_|apply zt_ rfl|apply zf_ rfl|(apply zd_ rfl<;>intro ht<;>try omega)|((first|apply zr_|apply zk_|apply ze_|apply zq_|(apply zG<;>intro ht));all_goals try simp (disch:=first|omega|(simp only [lens,z6,z7,zg,z8,zh,zm,lQt,lQd,List.length_replicate,lQm];first|done|omega)) only [go_sem,h,h1']))
  exact DownV.same hw rl_b
theorem zal(O:Store)(c q l n:Nat)(h:O[c]? =some (some [[.sl q 0 n none 1,.ptr l 0 0]]))(hn:0<n):ACallsTo TC 62 [.ptr c 0 0] O (.bool false) O:=by
 have h1:((n:Int)==0)=false:=beq_eq_false_iff_ne.2 (by omega)
 refine ACallsTo.of_body q2qok (by simp) fun hw _=> ?_
 repeat' (first|apply zs_|apply zb_|apply zc_|apply zt_ rfl|apply zf_ rfl|(apply zd_ rfl<;>intro ht<;>try omega)|((first|apply zr_|apply zk_|apply ze_|apply zq_|(apply zG<;>intro ht));all_goals try simp (disch:=first|omega|(simp only [lens,z6,z7,zg,z8,zh,zm,lQt,lQd,List.length_replicate,lQm];first|done|omega)) only [go_sem,h,h1]))
 exact DownV.same hw rl_b
section
variable {O:Store} {c:Nat} {key:Hash} {PS:List (List Hdr)} {M:List MM} {own:List Nat}
theorem znq(h:CirS PoIs O c key PS M own)(hn:0<PS.length)(hl:M.length<1000000):ACallsTo TC 26 [.ptr c 0 0] O (.int .i64 M.length) O:=by
 obtain⟨q,l,sid,pp,ow,rfl,h⟩:=h
 have hN:=zal O c q l _ h.obj hn
 have hM:=zrh O l PS.length sid (M.map MM.ml) h.lk (by omega) (by simpa using hl)
 have ho:=h.obj
 have hln:(M.map MM.ml).length=M.length:=List.length_map ..
 have hsl:z1k (slOf (z6w O (M.map MM.ml)) (M.map MM.ml).length 3)=some (.int .i64 M.length):=by
  unfold z6w
  split
  ·rename_i h0
   have:M.length=0:=by rw [<-hln,h0];rfl
   rw [this];rfl
  ·rw [hln];rfl
 unfold z1k at hsl
 generalize slOf (z6w O (M.map MM.ml)) (M.map MM.ml).length 3=x at*
 refine ACallsTo.of_body q2nok (by simp) fun hw _=> ?_
 repeat' (first|apply zs_|apply zb_|apply zc_|apply zt_ rfl|apply zf_ rfl|(apply zd_ rfl<;>intro ht<;>try omega)|((first|apply zr_|apply zk_|apply ze_|apply zq_|(apply callW.mk_pu;(first|exact(fun _=>hN)|exact(fun _=>hM)))|(apply callW.za;(first|exact(hN)|exact(hM)))|(apply zG<;>intro ht));all_goals try simp (disch:=first|omega|(simp only [lens,z6,z7,zg,z8,zh,zm,lQt,lQd,List.length_replicate,lQm];first|done|omega)) only [go_sem,ho,hsl]))
 exact DownV.pure hw rl_i
def z8n(n:Nat)(M:List MM)(i:Int):List MM:=if atS n M.length i=0 then M.eraseIdx i.toNat else M
theorem zod(n:Nat)(M:List MM)(i:Int):(z8n n M i).map MM.ml=delL n (M.map MM.ml) i:=by
 unfold z8n delL
 rw [List.length_map]
 split
 ·rw [List.eraseIdx_eq_take_drop_succ,List.eraseIdx_eq_take_drop_succ,List.map_append,List.map_take,List.map_drop]
 ·rfl
theorem zpn(M:List MM)(i:Nat)(h:i<M.length):(M.map MM.ml).getD i ⟨0,0,[]⟩=(M.getD i ⟨0,0,.kn []⟩).ml:=by
 simp [List.getD,h]
end
end
section
theorem POk.val{key:Hash}{P:List Hdr}(h:POk key P):∀q ∈ P,valH q=true:=fun q hq=>by
 have:=h.chk q hq
 unfold z1i at this
 cases e:z29 q.n q.i q.s q.p
 ·rw [if_pos e]at this;cases this
 ·exact e
theorem val_nh{q:Hdr}(h:valH q=true):nhOk (q.n,q.r)=true:=by
 obtain⟨h1,h2,_⟩:=of_decide_eq_true h
 exact decide_eq_true ⟨h1,h2⟩
theorem POk.nh{key:Hash}{P:List Hdr}(h:POk key P):∀p ∈ hns P,nhOk p=true:=fun p hp=>by
 obtain⟨q,hq,rfl⟩:=List.mem_map.1 hp
 exact val_nh (h.val q hq)
def POks(key:Hash)(PS:List (List Hdr)):Prop:=∀i,i<PS.length->POk key (PS.getD i [])
theorem POks.set{key:Hash}{PS:List (List Hdr)}(h:POks key PS)(i:Nat){P:List Hdr}(hP:POk key P):POks key (PS.set i P):=fun j hj=>by
 rw [List.length_set]at hj
 by_cases e:i=j
 ·subst e;rw [show (PS.set i P).getD i []=P by simp [List.getD,hj]];exact hP
 ·rw [show (PS.set i P).getD j []=PS.getD j []by simp [List.getD,List.getElem?_set_ne e]];exact h j hj
def lrnC(key:Hash)(PS:List (List Hdr))(i:Int)(q:Hdr):Int:=if isN PS.length i=true then addC key (PS.getD i.toNat []) q else 0
def lrnS(key:Hash)(PS:List (List Hdr))(i:Int)(q:Hdr):List (List Hdr):=if isN PS.length i=true then PS.set i.toNat (addL key (PS.getD i.toNat []) q)else PS
theorem zj7(key:Hash)(PS:List (List Hdr))(i:Int)(q:Hdr):(lrnS key PS i q).length=PS.length:=by unfold lrnS;split<;>simp
theorem zrl{key:Hash}{PS:List (List Hdr)}(h:POks key PS)(i:Int)(q:Hdr):POks key (lrnS key PS i q):=by
 unfold lrnS
 split
 ·rename_i hn
  obtain⟨h1,h2⟩:=of_decide_eq_true hn
  exact h.set _ ((h i.toNat (by omega)).add q)
 ·exact h
theorem z6u{n:Nat}{i:Int}(h:isN n i=true):∃k:Nat,i=k/\ k<n:=by
 obtain⟨h1,h2⟩:=of_decide_eq_true h
 exact⟨i.toNat,by omega,by omega⟩
theorem z6c{pp:List Nat}{i:Nat}(h:i<pp.length):(pp.map fun p=>[AV.ptr p 0 0])[i]? =some [.ptr (pp.getD i 0) 0 0]:=by
 simp [h,List.getD]
def twoN(n:Nat)(i k:Int):Bool:=isN n i && isN n k && !decide (i=k)
def tlkM(PS:List (List Hdr))(i k:Int):MM:=⟨i.toNat,k.toNat,.kn (hns (PS.getD i.toNat []))⟩
def tlkI(PS:List (List Hdr))(M:List MM)(i k:Int):Int:=if twoN PS.length i k=true then z24 PS.length M.length (tlkM PS i k).ml else 2
def zfc(PS:List (List Hdr))(M:List MM)(i k:Int):List MM:=if tlkI PS M i k=0 then M++ [tlkM PS i k]else M
attribute [local irreducible] ACallsTo ACallsP
section
variable {O:Store} {c:Nat} {key:Hash} {PS:List (List Hdr)} {M:List MM} {own:List Nat}
theorem zh2(h:CirS PoIs O c key PS M own)(hok:POks key PS)(i:Int)(q:Hdr)(x:AV)(hx:SlV 32 (hr q.p) x)(hxl:q.p.length<1000000):ACallsP TC 21 [.ptr c 0 0,.int .i64 i,.agg (sgC q.n q.r q.i q.s x)] O (CirP PoIs O c key own (.int .i64 (lrnC key PS i q)) (lrnS key PS i q) M):=by
 have hfin:=h
 obtain⟨Q,l,sid,pp,ow,rfl,h⟩:=h
 have hb:=fun y=>z6n (O++y) c Q l PS.length i (by rw [gapp (slen h.obj)];exact h.obj)
 have hb0:=z6n O c Q l PS.length i h.obj
 have ho:=h.obj
 have lq:=z7 q.n q.r q.i q.s x
 have hco:=slen h.obj
 refine ACallsP.of_keep q2kok (by simp) ?_
 unfold lrnC lrnS
 by_cases hi:isN PS.length i=true
 ·rw [if_pos hi,if_pos hi]
  obtain⟨k,rfl,hk⟩:=z6u hi
  rw [hi]at hb hb0
  have hr:=h.row
  have hrl:=slen hr
  have hpp:=z6c (pp:=pp) (i:=k) (by rw [h.len];exact hk)
  have hpl:(pp.map fun p=>[AV.ptr p 0 0]).length=PS.length:=by rw [List.length_map,h.len]
  have E:Ext O (O++ [some [sgC q.n q.r q.i q.s x]]):=⟨_,rfl⟩
  have tq:(sgC q.n q.r q.i q.s x).take 36=sgC q.n q.r q.i q.s x:=List.take_of_length_le (by omega)
  have hk':(k:Int)<PS.length:=by omega
  repeat' (first|apply zs_|apply zb_|apply zc_|apply zt_ rfl|apply zf_ rfl|(apply zd_ rfl<;>intro ht<;>try omega)|((first|apply zr_|apply zk_|apply ze_|apply zq_|(apply callW.mk_pu;(first|exact(fun _=>hb _)))|(apply callW.za;(first|exact(hb _)))|(apply zG<;>intro ht));all_goals try simp (disch:=first|omega|(simp only [lens,z6,z7,zg,z8,zh,zm,lQt,lQd,List.length_replicate,lQm];first|done|omega)) only [go_sem,ho,hr,hpp,hpl,lq,tq,hk']))
  have hP:=ploc_is.keep (h.pool k hk) (O':=O++ [some [sgC q.n q.r q.i q.s x]]) fun j hj=>gapp (ploc_is.lt (h.pool k hk) j hj)
  refine callW.mkP (caps:=[]) (zb3 _ (pp.getD k 0) key _ _ q x hP (hok k hk).sort (hok k hk).len hx hxl (fun e=>zak e)) (PoAddP.is hP) ?_
  rintro v O' ⟨rfl,o,f1,P1⟩
  have f2:Fr O O' (ow (k+2)) o:=(Fr.ext E).trans f1
  obtain⟨h1,h2⟩:=h.pool' ploc_is hk f2 P1
  simp (disch:=first|omega|(simp only [lens,z6,z7,zg,z8,zh,zm,lQt,lQd,List.length_replicate,lQm];first|done|omega)) only [go_sem]
  repeat' (first|apply zs_|apply zb_|apply zc_|apply zt_ rfl|apply zf_ rfl|(apply zd_ rfl<;>intro ht<;>try omega)|((first|apply zr_|apply zk_|apply ze_|apply zq_|(apply zG<;>intro ht));all_goals try simp (disch:=first|omega|(simp only [lens,z6,z7,zg,z8,zh,zm,lQt,lQd,List.length_replicate,lQm];first|done|omega)) only [go_sem]))
  exact⟨rfl,_,⟨Q,l,sid,pp,_,by rw [List.length_set],h1⟩,h2⟩
 ·rw [if_neg hi,if_neg hi]
  rw [Bool.eq_false_iff.2 hi]at hb hb0
  repeat' (first|apply zs_|apply zb_|apply zc_|apply zt_ rfl|apply zf_ rfl|(apply zd_ rfl<;>intro ht<;>try omega)|((first|apply zr_|apply zk_|apply ze_|apply zq_|(apply callW.mk_pu;(first|exact(fun _=>hb _)))|(apply callW.za;(first|exact(hb _)))|(apply zG<;>intro ht));all_goals try simp (disch:=first|omega|(simp only [lens,z6,z7,zg,z8,zh,zm,lQt,lQd,List.length_replicate,lQm];first|done|omega)) only [go_sem,lq]))
  exact⟨rfl,_,hfin.ext ploc_is ⟨_,rfl⟩,Fr.ext ⟨_,rfl⟩⟩
theorem zcn(h:CirS PoIs O c key PS M own)(hok:POks key PS)(k:Nat)(hk:k<PS.length):ACallsP TC 27 [.ptr c 0 0,.int .i64 k] O (PoCopyP O key (PS.getD k [])):=by
 obtain⟨Q,l,sid,pp,ow,rfl,h⟩:=h
 have hb:=z6n O c Q l PS.length k h.obj
 rw [show isN PS.length k=true from decide_eq_true ⟨by omega,by omega⟩]at hb
 have ho:=h.obj
 have hr:=h.row
 have hpp:=z6c (pp:=pp) (i:=k) (by rw [h.len];exact hk)
 have hpl:(pp.map fun p=>[AV.ptr p 0 0]).length=PS.length:=by rw [List.length_map,h.len]
 have hk':(k:Int)<PS.length:=by omega
 have hl:=(hok k hk).len
 refine ACallsP.of_keep q2ook (by simp) ?_
 repeat' (first|apply zs_|apply zb_|apply zc_|apply zt_ rfl|apply zf_ rfl|(apply zd_ rfl<;>intro ht<;>try omega)|((first|apply zr_|apply zk_|apply ze_|apply zq_|(apply callW.mk_pu;(first|exact(fun _=>hb)))|(apply callW.za;(first|exact(hb)))|(apply zG<;>intro ht));all_goals try simp (disch:=first|omega|(simp only [lens,z6,z7,zg,z8,zh,zm,lQt,lQd,List.length_replicate,lQm];first|done|omega)) only [go_sem,ho,hr,hpp,hpl,hk']))
 refine callW.mkP (caps:=[]) (ztl O (pp.getD k 0) key _ _ (h.pool k hk) (by omega) (hok k hk).path) (PoCopyP.is _ _ _) ?_
 rintro v O' ⟨p,o,rfl,hE,hP,ho⟩
 simp (disch:=first|omega|(simp only [lens,z6,z7,zg,z8,zh,zm,lQt,lQd,List.length_replicate,lQm];first|done|omega)) only [go_sem]
 repeat' (first|apply zs_|apply zb_|apply zc_|apply zt_ rfl|apply zf_ rfl|(apply zd_ rfl<;>intro ht<;>try omega)|((first|apply zr_|apply zk_|apply ze_|apply zq_|(apply zG<;>intro ht));all_goals try simp (disch:=first|omega|(simp only [lens,z6,z7,zg,z8,zh,zm,lQt,lQd,List.length_replicate,lQm];first|done|omega)) only [go_sem]))
 exact⟨p,o,rfl,hE,hP,ho⟩
theorem znt(h:CirS PoIs O c key PS M own)(hok:POks key PS)(hn:0<PS.length)(hl:M.length<1000000)(i k:Int):ACallsP TC 22 [.ptr c 0 0,.int .i64 i,.int .i64 k] O (CirP PoIs O c key own (.int .i64 (tlkI PS M i k)) PS (zfc PS M i k)):=by
 have hfin:=h
 obtain⟨Q,l,sid,pp,ow,rfl,h⟩:=h
 have hN:=zal O c Q l _ h.obj hn
 have hbi:=z6n O c Q l PS.length i h.obj
 have hbk:=z6n O c Q l PS.length k h.obj
 have ho:=h.obj
 refine ACallsP.of_keep q2lok (by simp) ?_
 unfold zfc
 unfold tlkI
 by_cases ht:twoN PS.length i k=true
 ·rw [if_pos ht]
  unfold twoN at ht
  simp only [Bool.and_eq_true,Bool.not_eq_true',decide_eq_false_iff_not]at ht
  obtain⟨⟨hi,hk⟩,hne⟩:=ht
  rw [hi]at hbi
  rw [hk]at hbk
  obtain⟨a,rfl,ha⟩:=z6u hi
  obtain⟨b,rfl,hb⟩:=z6u hk
  have hne':((a:Int)==b)=false:=beq_eq_false_iff_ne.2 hne
  have hr:=h.row
  have hpp:=z6c (pp:=pp) (i:=a) (by rw [h.len];exact ha)
  have hpl:(pp.map fun p=>[AV.ptr p 0 0]).length=PS.length:=by rw [List.length_map,h.len]
  have ha':(a:Int)<PS.length:=by omega
  have hpo:=hok a ha
  have hpol:=hpo.len
  have hK:=zb5 O (pp.getD a 0) key _ _ (h.pool a ha) (by omega)
  have hPK:=zmc O (hns (PS.getD a [])) (zz 33 (kn (PS.getD a []))) (by rw [<-ziy];exact z1v _ _) (by rw [z68];omega) hpo.nh
  have hS:=zj4 O l PS.length sid (M.map MM.ml) (tlkM PS a b).ml h.lk
  have hE:=zj3 (m:=(tlkM PS a b).ml) h.lk
  rw [List.length_map]at hS hE
  have hml:(tlkM PS a b).ml=⟨(a:Int),(b:Int),knS (hns (PS.getD a []))⟩:=rfl
  have hargs:mailC (tlkM PS a b).ml=[.int .i64 (a:Int),.int .i64 (b:Int),.str (knS (hns (PS.getD a [])))]:=by rw [hml];rfl
  rw [hargs]at hS
  have hmm:(if z24 PS.length M.length (tlkM PS a b).ml=0 then M.map MM.ml++ [(tlkM PS a b).ml]else M.map MM.ml)=(if z24 PS.length M.length (tlkM PS a b).ml=0 then M++ [tlkM PS a b]else M).map MM.ml:=by
   split
   ·rw [List.map_append];rfl
   ·rfl
  generalize z24 PS.length M.length (tlkM PS a b).ml=e at*
  generalize tlkM PS a b=m at*
  generalize knS (hns (PS.getD a []))=txt at*
  repeat' (first|apply zs_|apply zb_|apply zc_|apply zt_ rfl|apply zf_ rfl|(apply zd_ rfl<;>intro ht<;>try omega)|((first|apply zr_|apply zk_|apply ze_|apply zq_|(apply callW.mk_pu;(first|exact(fun _=>hN)|exact(fun _=>hbi)|exact(fun _=>hbk)|exact(fun _=>hK)|exact(fun _=>hPK)))|(apply callW.za;(first|exact(hN)|exact(hbi)|exact(hbk)|exact(hK)|exact(hPK)))|(apply zG<;>intro ht));all_goals try simp (disch:=first|omega|(simp only [lens,z6,z7,zg,z8,zh,zm,lQt,lQd,List.length_replicate,lQm];first|done|omega)) only [go_sem,ho,hr,hpp,hpl,ha',hne']))
  refine callW.mkP (caps:=[]) hS hE ?_
  rintro v O' ⟨rfl,sid',k1,k2⟩
  rw [hmm]at k1
  obtain⟨h1,h2⟩:=h.links' ploc_is k2 k1
  simp (disch:=first|omega|(simp only [lens,z6,z7,zg,z8,zh,zm,lQt,lQd,List.length_replicate,lQm];first|done|omega)) only [go_sem]
  repeat' (first|apply zs_|apply zb_|apply zc_|apply zt_ rfl|apply zf_ rfl|(apply zd_ rfl<;>intro ht<;>try omega)|((first|apply zr_|apply zk_|apply ze_|apply zq_|(apply zG<;>intro ht));all_goals try simp (disch:=first|omega|(simp only [lens,z6,z7,zg,z8,zh,zm,lQt,lQd,List.length_replicate,lQm];first|done|omega)) only [go_sem]))
  exact⟨rfl,_,⟨Q,l,sid',pp,_,rfl,h1⟩,h2⟩
 ·rw [if_neg ht]
  rw [if_neg (by decide)]
  have hres:CirP PoIs O c key (z2q (PS.length+2) ow) (.int .i64 2) PS M (.int .i64 2) O:=⟨rfl,_,hfin,⟨fun _ _ _=>rfl,fun _ h=> .inl h,Nat.le_refl _⟩⟩
  cases hi:isN PS.length i
  ·rw [hi]at hbi
   repeat' (first|apply zs_|apply zb_|apply zc_|apply zt_ rfl|apply zf_ rfl|(apply zd_ rfl<;>intro ht<;>try omega)|((first|apply zr_|apply zk_|apply ze_|apply zq_|(apply callW.mk_pu;(first|exact(fun _=>hN)|exact(fun _=>hbi)))|(apply callW.za;(first|exact(hN)|exact(hbi)))|(apply zG<;>intro ht));all_goals try simp (disch:=first|omega|(simp only [lens,z6,z7,zg,z8,zh,zm,lQt,lQd,List.length_replicate,lQm];first|done|omega)) only [go_sem]))
   exact hres
  ·rw [hi]at hbi
   cases hk:isN PS.length k
   ·rw [hk]at hbk
    repeat' (first|apply zs_|apply zb_|apply zc_|apply zt_ rfl|apply zf_ rfl|(apply zd_ rfl<;>intro ht<;>try omega)|((first|apply zr_|apply zk_|apply ze_|apply zq_|(apply callW.mk_pu;(first|exact(fun _=>hN)|exact(fun _=>hbi)|exact(fun _=>hbk)))|(apply callW.za;(first|exact(hN)|exact(hbi)|exact(hbk)))|(apply zG<;>intro ht));all_goals try simp (disch:=first|omega|(simp only [lens,z6,z7,zg,z8,zh,zm,lQt,lQd,List.length_replicate,lQm];first|done|omega)) only [go_sem]))
    exact hres
   ·rw [hk]at hbk
    have hik:i=k:=by
     unfold twoN at ht
     rw [hi,hk]at ht
     simpa using ht
    subst hik
    have hee:((i:Int)==i)=true:=by simp
    repeat' (first|apply zs_|apply zb_|apply zc_|apply zt_ rfl|apply zf_ rfl|(apply zd_ rfl<;>intro ht<;>try omega)|((first|apply zr_|apply zk_|apply ze_|apply zq_|(apply callW.mk_pu;(first|exact(fun _=>hN)|exact(fun _=>hbi)))|(apply callW.za;(first|exact(hN)|exact(hbi)))|(apply zG<;>intro ht));all_goals try simp (disch:=first|omega|(simp only [lens,z6,z7,zg,z8,zh,zm,lQt,lQd,List.length_replicate,lQm];first|done|omega)) only [go_sem,hee]))
    exact hres
end
end
section
def z1e(key:Hash)(P:List Hdr)(l:List Hdr):List Hdr:=l.foldl (addL key) P
theorem z7e{key:Hash}{P:List Hdr}(h:POk key P):∀l,POk key (z1e key P l):=fun l=>by
 induction l generalizing P with
 |nil=>exact h
 |cons q l ih=>exact ih (h.add q)
theorem zgk{key:Hash}{P l:List Hdr}{i:Nat}(h:i<l.length):z1e key P (l.take (i+1))=addL key (z1e key P (l.take i)) l[i]:=by
 unfold z1e;rw [List.take_succ_eq_append_getElem h,List.foldl_append];rfl
def zbx(key:Hash)(PS:List (List Hdr))(m:MM):List (List Hdr):=match m.k with| .gt l=>PS.set m.t (z1e key (PS.getD m.t []) l)| .kn _=>PS
def repM(PS:List (List Hdr))(m:MM)(l:List NH):MM:=⟨m.t,m.f,.gt (z16 (PS.getD m.t []) l)⟩
def zbw(PS:List (List Hdr))(M:List MM)(m:MM):List MM:=match m.k with
 | .gt _=>M
 | .kn l=>if z16 (PS.getD m.t []) l ≠ []/\ z24 PS.length M.length (repM PS m l).ml=0 then M++ [repM PS m l]else M
theorem zxw(key:Hash)(PS:List (List Hdr))(m:MM):(zbx key PS m).length=PS.length:=by unfold zbx;split<;>simp
theorem z7l{PS:List (List Hdr)}{i:Nat}(h:i<PS.length)(P:List Hdr):(PS.set i P).getD i []=P:=by simp [List.getD,h]
theorem zlp{q:Hdr}(h:valH q=true):q.p.length=3:=(of_decide_eq_true h).2.2.2.2.2
attribute [local irreducible] ACallsTo ACallsP
section
variable {O:Store} {c:Nat} {key:Hash} {PS:List (List Hdr)} {M:List MM} {own:List Nat}
theorem zo9(h:CirS PoIs O c key PS M own)(hok:POks key PS)(f t:Nat)(l:List Hdr)(ht:t<PS.length)(hk:(MT.gt l).Ok):
  ACallsP TC 68 [.ptr c 0 0,.agg [.int .i64 f,.int .i64 t,.str (gtS l)]] O (CirP PoIs O c key own (.tup []) (PS.set t (z1e key (PS.getD t []) l)) M):=by
 obtain⟨k0,k3,kv⟩:=hk
 have hG:=fun O=>zpk O l k0 k3 kv
 have hsv:=z1v 36 (hdrs l)
 have r1:=hsv.len
 rw [z8]at r1
 unfold z1k at r1
 generalize zz 36 (hdrs l)=X at*
 generalize gtS l=txt at*
 have hcl:=h.lt ploc_is
 refine ACallsP.of_keep zec (by simp) ?_
 repeat' (first|apply zs_|apply zb_|apply zc_|apply zt_ rfl|apply zf_ rfl|(apply zd_ rfl<;>intro ht<;>try omega)|((first|apply zr_|apply zk_|apply ze_|apply zq_|(apply callW.mk_pu;(first|exact(fun _=>hG _)))|(apply callW.za;(first|exact(hG _)))|(apply zG<;>intro ht));all_goals try simp (disch:=first|omega|(simp only [lens,z6,z7,zg,z8,zh,zm,lQt,lQd,List.length_replicate,lQm];first|done|omega)) only [go_sem,r1]))
 refine zW.loop (fun m J O'=>∃(i:Nat) (own':List Nat),m+i=l.length/\ CirS PoIs O' c key (PS.set t (z1e key (PS.getD t []) (l.take i))) M own'/\ Fr O O' own own'/\ O'[O.length]? =some (some [[.int .i64 (f:Int),.int .i64 (t:Int),.str txt]])/\ O.length ∉ own'/\ J 0=.ptr c 0 0/\ J 3=.ptr O.length 0 0/\ J 20=X/\ J 21=.int .i64 l.length/\ J 22=.int .i64 i) l.length ?_ ?_
 ·refine⟨0,own,by omega,?_,Fr.ext ⟨_,rfl⟩,by rw [z1a (Nat.le_refl _),Nat.sub_self];rfl,fun e=>by have:=hcl _ e;omega,by simp (disch:=first|omega|(simp only [lens,z6,z7,zg,z8,zh,zm,lQt,lQd,List.length_replicate,lQm];first|done|omega)) only [go_sem],by simp (disch:=first|omega|(simp only [lens,z6,z7,zg,z8,zh,zm,lQt,lQd,List.length_replicate,lQm];first|done|omega)) only [go_sem],by simp (disch:=first|omega|(simp only [lens,z6,z7,zg,z8,zh,zm,lQt,lQd,List.length_replicate,lQm];first|done|omega)) only [go_sem],by simp (disch:=first|omega|(simp only [lens,z6,z7,zg,z8,zh,zm,lQt,lQd,List.length_replicate,lQm];first|done|omega)) only [go_sem,r1],by simp (disch:=first|omega|(simp only [lens,z6,z7,zg,z8,zh,zm,lQt,lQd,List.length_replicate,lQm];first|done|omega)) only [go_sem];try rfl⟩
  rw [show PS.set t (z1e key (PS.getD t []) (l.take 0))=PS by
   rw [show z1e key (PS.getD t []) (l.take 0)=PS.getD t []from rfl]
   apply List.ext_getElem?
   intro j
   by_cases e:t=j
   ·subst e;simp [List.getD,ht]
   ·rw [List.getElem?_set_ne e]]
  exact h.ext ploc_is ⟨_,rfl⟩
 ·rintro m J O' ⟨i,own',hm,hS,hF,hB,hnB,q0,q3,q20,q21,q22⟩
  by_cases hi:i<l.length
  ·obtain⟨ex,rfl⟩:=hsv.vsl (by rw [z8];omega)
   have hgi:=z6t hi
   have hst:=zgk (key:=key) (P:=PS.getD t []) hi
   have hvu:=kv l[i] (List.getElem_mem hi)
   have hdl:=z8 l
   generalize l[i]=u at*
   have hup:=zlp hvu
   have hul:=zg u
   have ua:(hdrC u).take 36=hdrC u:=z6s u
   have hi':(i:Int)<l.length:=by omega
   obtain⟨Q,lk,sid,pp,ow,rfl,hC⟩:=hS
   have hlen:(PS.set t (z1e key (PS.getD t []) (l.take i))).length=PS.length:=List.length_set ..
   have htt:t<(PS.set t (z1e key (PS.getD t []) (l.take i))).length:=by omega
   have hpoolI:=hC.pool t htt
   rw [z7l ht]at hpoolI
   have hpok:=z7e (hok t ht) (l.take i)
   have ho:=hC.obj
   have hrw:=hC.row
   rw [hlen]at ho
   have hppl:pp.length=PS.length:=by rw [hC.len,hlen]
   have hpp:=z6c (pp:=pp) (i:=t) (by omega)
   have hpl:(pp.map fun p=>[AV.ptr p 0 0]).length=PS.length:=by rw [List.length_map,hppl]
   have ht':(t:Int)<PS.length:=by omega
   have dB:=slen hB
   have dc:=slen ho
   have dq:=slen hrw
   have E:Ext O' (O'++ [some [hdrC u]]):=⟨_,rfl⟩
   repeat' (first|apply zs_|apply zb_|apply zc_|apply zt_ rfl|apply zf_ rfl|(apply zd_ rfl<;>intro ht<;>try omega)|((first|apply zr_|apply zk_|apply ze_|apply zq_|(apply zG<;>intro ht));all_goals try simp (disch:=first|omega|(simp only [lens,z6,z7,zg,z8,zh,zm,lQt,lQd,List.length_replicate,lQm];first|done|omega)) only [go_sem,q0,q3,q20,q21,q22,hgi,hdl,hul,ua,hi',ho,hrw,hpp,hpl,ht',hB]))
   have hP:=ploc_is.keep hpoolI (O':=O'++ [some [hdrC u]]) fun j hj=>gapp (ploc_is.lt hpoolI j hj)
   have hAdd:=zb3 _ (pp.getD t 0) key _ _ u _ hP hpok.sort hpok.len (z1v _ _) (by omega) (fun e=>zak e)
   rw [show sgC u.n u.r u.i u.s (zz 32 (hr u.p))=hdrC u from rfl]at hAdd
   refine callW.mkP (caps:=[]) hAdd (PoAddP.is hP) ?_
   rintro v O2 ⟨rfl,o,f1,P1⟩
   have f2:Fr O' O2 (ow (t+2)) o:=(Fr.ext E).trans f1
   obtain⟨h1,h2⟩:=hC.pool' ploc_is htt f2 P1
   rw [List.set_set,<-hst]at h1
   have hnB2:=h2.nin dB hnB
   have hB2:=h2.get hB hnB
   have hF2:=hF.trans h2
   have hS2:CirS PoIs O2 c key (PS.set t (z1e key (PS.getD t []) (l.take (i+1)))) M (z2q ((PS.set t (z1e key (PS.getD t []) (l.take i))).length+2) (updO ow (t+2) o)):=⟨Q,lk,sid,pp,_,by rw [List.length_set,List.length_set],h1⟩
   generalize z2q ((PS.set t (z1e key (PS.getD t []) (l.take i))).length+2) (updO ow (t+2) o)=own2 at*
   simp (disch:=first|omega|(simp only [lens,z6,z7,zg,z8,zh,zm,lQt,lQd,List.length_replicate,lQm];first|done|omega)) only [go_sem,q0,q3,q20,q21,q22]
   repeat' (first|apply zs_|apply zb_|apply zc_|apply zt_ rfl|apply zf_ rfl|(apply zd_ rfl<;>intro ht<;>try omega)|((first|apply zr_|apply zk_|apply ze_|apply zq_|(apply zG<;>intro ht));all_goals try simp (disch:=first|omega|(simp only [lens,z6,z7,zg,z8,zh,zm,lQt,lQd,List.length_replicate,lQm];first|done|omega)) only [go_sem,q0,q3,q20,q21,q22]))
   exact⟨m-1,by omega,i+1,own2,by omega,hS2,hF2,hB2,hnB2,by simp⟩
  ·rw [List.take_of_length_le (by omega)]at hS
   have hi':¬(i:Int)<l.length:=by omega
   repeat' (first|apply zs_|apply zb_|apply zc_|apply zt_ rfl|apply zf_ rfl|(apply zd_ rfl<;>intro ht<;>try omega)|((first|apply zr_|apply zk_|apply ze_|apply zq_|(apply zG<;>intro ht));all_goals try simp (disch:=first|omega|(simp only [lens,z6,z7,zg,z8,zh,zm,lQt,lQd,List.length_replicate,lQm];first|done|omega)) only [go_sem,q0,q3,q20,q21,q22,hi']))
   exact⟨rfl,own',hS,hF⟩
theorem zoa(h:CirS PoIs O c key PS M own)(hok:POks key PS)(f t:Nat)(l:List NH)(ht:t<PS.length)(hk:(MT.kn l).Ok):
  ACallsP TC 68 [.ptr c 0 0,.agg [.int .i64 f,.int .i64 t,.str (knS l)]] O (CirP PoIs O c key own (.tup []) PS (zbw PS M ⟨f,t,.kn l⟩)):=by
 have hfin:=h
 obtain⟨Q,lk,sid,pp,ow,rfl,hC⟩:=h
 obtain⟨k1,k2⟩:=hk
 have hG:=fun O=>zpj O (numS l.length++z22 l) (by have:=z23 l.length;have:=z6x l;rw [List.length_append];omega)
 rw [show 68::(numS l.length++z22 l)=knS l from rfl]at hG
 have hGK:=fun O=>zpi O l k1 k2
 have hcl:=hC.lt ploc_is
 have ho:=hC.obj
 have hrw:=hC.row
 have dc:=slen ho
 have dq:=slen hrw
 have hpo:=hok t ht
 have hpol:=hpo.len
 have hpp:=z6c (pp:=pp) (i:=t) (by rw [hC.len];exact ht)
 have hpl:(pp.map fun p=>[AV.ptr p 0 0]).length=PS.length:=by rw [List.length_map,hC.len]
 have ht':(t:Int)<PS.length:=by omega
 have E:Ext O (O++ [some [[.int .i64 (f:Int),.int .i64 (t:Int),.str (knS l)]]]):=⟨_,rfl⟩
 have hB:(O++ [some [[.int .i64 (f:Int),.int .i64 (t:Int),.str (knS l)]]])[O.length]? =some (some [[.int .i64 (f:Int),.int .i64 (t:Int),.str (knS l)]]):=by rw [z1a (Nat.le_refl _),Nat.sub_self];rfl
 have hP:=ploc_is.keep (hC.pool t ht) (O':=O++ [some [[.int .i64 (f:Int),.int .i64 (t:Int),.str (knS l)]]]) fun j hj=>gapp (ploc_is.lt (hC.pool t ht) j hj)
 have hH:=zjx _ (pp.getD t 0) key _ _ hP (by omega) hpo.path
 have hM:=fun O=>zfs O (PS.getD t []) l (zz 36 (hdrs (PS.getD t []))) (zz 33 (knP l)) (z1v _ _) (z1v _ _) (by omega) (by omega) hpo.path
 have hPt:=fun O=>zpl O (z16 (PS.getD t []) l) _ (z1v _ _) (zdo _ _) fun q hq=>(z7q hq).2.1
 unfold zbw
 dsimp only
 have hrm:(repM PS ⟨f,t,.kn l⟩ l).ml=⟨(t:Int),(f:Int),gtS (z16 (PS.getD t []) l)⟩:=rfl
 by_cases h0:z16 (PS.getD t []) l=[]
 ·rw [if_neg fun h=>h.1 h0]
  rw [h0,zk1]at hPt
  rw [h0]at hM
  refine ACallsP.of_keep zec (by simp) ?_
  repeat' (first|apply zs_|apply zb_|apply zc_|apply zt_ rfl|apply zf_ rfl|(apply zd_ rfl<;>intro ht<;>try omega)|((first|apply zr_|apply zk_|apply ze_|apply zq_|(apply callW.mk_pu;(first|exact(fun _=>hG _)|exact(fun _=>hGK _)|exact(fun _=>hH)|exact(fun _=>hM _)|exact(fun _=>hPt _)))|(apply callW.za;(first|exact(hG _)|exact(hGK _)|exact(hH)|exact(hM _)|exact(hPt _)))|(apply zG<;>intro ht));all_goals try simp (disch:=first|omega|(simp only [lens,z6,z7,zg,z8,zh,zm,lQt,lQd,List.length_replicate,lQm];first|done|omega)) only [go_sem,ho,hrw,hpp,hpl,ht',hB]))
  exact⟨rfl,_,hfin.ext ploc_is E,Fr.ext E⟩
 ·rw [zk2 h0 fun q hq=>(z7q hq).2.1]at hPt
  have hlk:=hC.lk.keep (O':=O++ [some [[.int .i64 (f:Int),.int .i64 (t:Int),.str (knS l)]]]) fun x hx=>gapp (hC.lk.lt2 x hx)
  have hS:=zj4 _ lk PS.length sid (M.map MM.ml) (repM PS ⟨f,t,.kn l⟩ l).ml hlk
  have hE:=zj3 (m:=(repM PS ⟨f,t,.kn l⟩ l).ml) hlk
  rw [List.length_map]at hS hE
  have hargs:mailC (repM PS ⟨f,t,.kn l⟩ l).ml=[.int .i64 (t:Int),.int .i64 (f:Int),.str (gtS (z16 (PS.getD t []) l))]:=by rw [hrm];rfl
  rw [hargs]at hS
  have hmm:(if z24 PS.length M.length (repM PS ⟨f,t,.kn l⟩ l).ml=0 then M.map MM.ml++ [(repM PS ⟨f,t,.kn l⟩ l).ml]else M.map MM.ml)=(if z16 (PS.getD t []) l ≠ []/\ z24 PS.length M.length (repM PS ⟨f,t,.kn l⟩ l).ml=0 then M++ [repM PS ⟨f,t,.kn l⟩ l]else M).map MM.ml:=by
   by_cases e:z24 PS.length M.length (repM PS ⟨f,t,.kn l⟩ l).ml=0
   ·rw [if_pos e,if_pos ⟨h0,e⟩,List.map_append];rfl
   ·rw [if_neg e,if_neg fun h=>e h.2]
  generalize z24 PS.length M.length (repM PS ⟨f,t,.kn l⟩ l).ml=e at*
  generalize repM PS ⟨f,t,.kn l⟩ l=m at*
  generalize gtS (z16 (PS.getD t []) l)=txt at*
  generalize knS l=txt2 at*
  refine ACallsP.of_keep zec (by simp) ?_
  repeat' (first|apply zs_|apply zb_|apply zc_|apply zt_ rfl|apply zf_ rfl|(apply zd_ rfl<;>intro ht<;>try omega)|((first|apply zr_|apply zk_|apply ze_|apply zq_|(apply callW.mk_pu;(first|exact(fun _=>hG _)|exact(fun _=>hGK _)|exact(fun _=>hH)|exact(fun _=>hM _)|exact(fun _=>hPt _)))|(apply callW.za;(first|exact(hG _)|exact(hGK _)|exact(hH)|exact(hM _)|exact(hPt _)))|(apply zG<;>intro ht));all_goals try simp (disch:=first|omega|(simp only [lens,z6,z7,zg,z8,zh,zm,lQt,lQd,List.length_replicate,lQm];first|done|omega)) only [go_sem,ho,hrw,hpp,hpl,ht',hB]))
  refine callW.mkP (caps:=[]) hS hE ?_
  rintro v O' ⟨rfl,sid',k1,k2⟩
  rw [hmm]at k1
  obtain⟨h1,h2⟩:=(hC.keep ploc_is (O':=O++ [some [[.int .i64 (f:Int),.int .i64 (t:Int),.str txt2]]]) fun i hi x hx=>gapp (hcl i hi x hx)).links' ploc_is k2 k1
  simp (disch:=first|omega|(simp only [lens,z6,z7,zg,z8,zh,zm,lQt,lQd,List.length_replicate,lQm];first|done|omega)) only [go_sem]
  repeat' (first|apply zs_|apply zb_|apply zc_|apply zt_ rfl|apply zf_ rfl|(apply zd_ rfl<;>intro ht<;>try omega)|((first|apply zr_|apply zk_|apply ze_|apply zq_|(apply zG<;>intro ht));all_goals try simp (disch:=first|omega|(simp only [lens,z6,z7,zg,z8,zh,zm,lQt,lQd,List.length_replicate,lQm];first|done|omega)) only [go_sem]))
  exact⟨rfl,_,⟨Q,lk,sid',pp,_,rfl,h1⟩,(Fr.ext E).trans h2⟩
theorem zob(h:CirS PoIs O c key PS M own)(hok:POks key PS)(m:MM)(hm:m.Ok PS.length):
  ACallsP TC 68 [.ptr c 0 0,.agg (mailC m.ml)] O (CirP PoIs O c key own (.tup []) (zbx key PS m) (zbw PS M m)):=by
 obtain⟨f,t,k⟩:=m
 cases k with
 |gt l=>exact zo9 h hok f t l hm.t hm.k
 |kn l=>exact zoa h hok f t l hm.t hm.k
end
end
section
def mm0:MM:=⟨0,0,.kn []⟩
def MOks(n:Nat)(M:List MM):Prop:=∀m ∈ M,m.Ok n
def zan(key:Hash)(PS:List (List Hdr))(M:List MM)(i:Int):List (List Hdr):=if atS PS.length M.length i=0 then zbx key PS (M.getD i.toNat mm0)else PS
def zam(PS:List (List Hdr))(M:List MM)(i:Int):List MM:=if atS PS.length M.length i=0 then zbw PS (M.eraseIdx i.toNat) (M.getD i.toNat mm0)else M
theorem zpm{M:List MM}{i:Nat}(h:i<M.length):M.getD i mm0 ∈ M:=by
 rw [show M.getD i mm0=M[i]by simp [List.getD,h]];exact List.getElem_mem h
theorem MOks.erase{n:Nat}{M:List MM}(h:MOks n M)(i:Nat):MOks n (M.eraseIdx i):=fun m hm=>h m (List.mem_of_mem_eraseIdx hm)
attribute [local irreducible] ACallsTo ACallsP
section
variable {O:Store} {c:Nat} {key:Hash} {PS:List (List Hdr)} {M:List MM} {own:List Nat}
theorem zgz(h:CirS PoIs O c key PS M own)(hok:POks key PS)(hM:MOks PS.length M)(hn:0<PS.length)(hl:M.length<1000000)(i:Int):
  ACallsP TC 23 [.ptr c 0 0,.int .i64 i] O (CirP PoIs O c key own (.int .i64 (atS PS.length M.length i)) (zan key PS M i) (zam PS M i)):=by
 have hfin:=h
 obtain⟨Q,lk,sid,pp,ow,rfl,hC⟩:=h
 have hN:=zal O c Q lk _ hC.obj hn
 have ho:=hC.obj
 have hD:=zre O lk PS.length i sid (M.map MM.ml) hC.lk (by simpa using hl)
 have hE:=zrc (i:=i) hC.lk
 unfold zan zam
 refine ACallsP.of_keep q2mok (by simp) ?_
 repeat' (first|apply zs_|apply zb_|apply zc_|apply zt_ rfl|apply zf_ rfl|(apply zd_ rfl<;>intro ht<;>try omega)|((first|apply zr_|apply zk_|apply ze_|apply zq_|(apply callW.mk_pu;(first|exact(fun _=>hN)))|(apply callW.za;(first|exact(hN)))|(apply zG<;>intro ht));all_goals try simp (disch:=first|omega|(simp only [lens,z6,z7,zg,z8,zh,zm,lQt,lQd,List.length_replicate,lQm];first|done|omega)) only [go_sem,ho]))
 refine callW.mkP (caps:=[]) hD hE ?_
 rintro v O' ⟨rfl,k1,k2⟩
 rw [<-zod]at k1
 obtain⟨h1,h2⟩:=hC.links' ploc_is k2 k1
 have S1:CirS PoIs O' c key PS (z8n PS.length M i) (z2q (PS.length+2) (updO ow 1 (lk::sid.toList))):=⟨Q,lk,sid,pp,_,rfl,h1⟩
 generalize z2q (PS.length+2) (updO ow 1 (lk::sid.toList))=own1 at*
 unfold delV delM
 rw [List.length_map]
 by_cases ha:atS PS.length M.length i=0
 ·obtain⟨_,h3,h4⟩:=zgp ha
  rw [if_pos ha,if_pos ha,if_pos ha,ha]
  unfold z8n at S1
  rw [if_pos ha]at S1
  rw [zpn M _ (by omega)]
  rw [show M.getD i.toNat ⟨0,0,.kn []⟩=M.getD i.toNat mm0 from rfl]
  have hm:=hM _ (zpm (M:=M) (i:=i.toNat) (by omega))
  generalize M.getD i.toNat mm0=m at*
  have hml:(mailC m.ml).length=3:=rfl
  have hmt:(mailC m.ml).take 3=mailC m.ml:=rfl
  have E:Ext O' (O'++ [some [mailC m.ml]]):=⟨_,rfl⟩
  have S2:=S1.ext ploc_is E
  generalize hmc:mailC m.ml=mc at*
  simp (disch:=first|omega|(simp only [lens,z6,z7,zg,z8,zh,zm,lQt,lQd,List.length_replicate,lQm];first|done|omega)) only [go_sem,hml,hmt]
  repeat' (first|apply zs_|apply zb_|apply zc_|apply zt_ rfl|apply zf_ rfl|(apply zd_ rfl<;>intro ht<;>try omega)|((first|apply zr_|apply zk_|apply ze_|apply zq_|(apply zG<;>intro ht));all_goals try simp (disch:=first|omega|(simp only [lens,z6,z7,zg,z8,zh,zm,lQt,lQd,List.length_replicate,lQm];first|done|omega)) only [go_sem,hml,hmt]))
  have hT:=zob S2 hok m hm
  rw [hmc]at hT
  refine callW.mkP (caps:=[]) hT (CirP.is ploc_is z3q S2 _ (zxw ..)) ?_
  rintro v O3 ⟨rfl,own3,S3,f3⟩
  simp (disch:=first|omega|(simp only [lens,z6,z7,zg,z8,zh,zm,lQt,lQd,List.length_replicate,lQm];first|done|omega)) only [go_sem]
  repeat' (first|apply zs_|apply zb_|apply zc_|apply zt_ rfl|apply zf_ rfl|(apply zd_ rfl<;>intro ht<;>try omega)|((first|apply zr_|apply zk_|apply ze_|apply zq_|(apply zG<;>intro ht));all_goals try simp (disch:=first|omega|(simp only [lens,z6,z7,zg,z8,zh,zm,lQt,lQd,List.length_replicate,lQm];first|done|omega)) only [go_sem]))
  exact⟨rfl,own3,S3,(h2.trans (Fr.ext E)).trans f3⟩
 ·rw [if_neg ha,if_neg ha,if_neg ha]
  unfold z8n at S1
  rw [if_neg ha]at S1
  have ha':(atS PS.length M.length i==0)=false:=beq_eq_false_iff_ne.2 ha
  generalize atS PS.length M.length i=e at*
  simp (disch:=first|omega|(simp only [lens,z6,z7,zg,z8,zh,zm,lQt,lQd,List.length_replicate,lQm];first|done|omega)) only [go_sem,mailC]
  repeat' (first|apply zs_|apply zb_|apply zc_|apply zt_ rfl|apply zf_ rfl|(apply zd_ rfl<;>intro ht<;>try omega)|((first|apply zr_|apply zk_|apply ze_|apply zq_|(apply zG<;>intro ht));all_goals try simp (disch:=first|omega|(simp only [lens,z6,z7,zg,z8,zh,zm,lQt,lQd,List.length_replicate,lQm];first|done|omega)) only [go_sem,ha']))
  exact⟨rfl,own1,S1.ext ploc_is ⟨_,rfl⟩,h2.trans (Fr.ext ⟨_,rfl⟩)⟩
end
end
section
def z1j(key:Hash):Nat->List Hdr->List Hdr->Nat->Nat × List Hdr
 | 0,P,_,n=>(n,P)
 |f+1,P,Q,n=>if z16 Q (hns P)=[]then(n,P)else if (z1e key P (z16 Q (hns P))).length=P.length then(n+1,z1e key P (z16 Q (hns P)))else z1j key f (z1e key P (z16 Q (hns P))) Q (n+2)
theorem zce(key:Hash)(P:List Hdr)(q:Hdr):(addL key P q).length=if addC key P q=2 \/addC key P q=3 then P.length+1 else P.length:=by
 unfold addL
 split
 ·exact z7o P q
 ·rfl
theorem zgj(key:Hash)(l:List Hdr):∀P:List Hdr,P.length<=(z1e key P l).length:=by
 induction l with
 |nil=>intro P;exact Nat.le_refl _
 |cons q l ih=>
  intro P
  have:=ih (addL key P q)
  have h:=zce key P q
  show P.length<=(z1e key (addL key P q) l).length
  split at h<;>omega
attribute [local irreducible] ACallsTo ACallsP
section
variable {O:Store} {c:Nat} {key:Hash} {PS:List (List Hdr)} {M:List MM} {own:List Nat}
theorem zhf(h:CirS PoIs O c key PS M own)(hok:POks key PS)(i k:Nat)(hi:i<PS.length)(hk:k<PS.length)(hik:i ≠ k):
  ACallsP TC 64 [.ptr c 0 0,.int .i64 i,.int .i64 k] O (CirP PoIs O c key own (.int .i64 ((z1j key 17 (PS.getD i []) (PS.getD k []) 1).1:Nat)) (PS.set i (z1j key 17 (PS.getD i []) (PS.getD k []) 1).2) M):=by
 have hQ:=hok k hk
 have hP0:=hok i hi
 have hset:PS.set i (PS.getD i [])=PS:=by
  apply List.ext_getElem?
  intro j
  by_cases e:i=j
  ·subst e;simp [List.getD,hi]
  ·rw [List.getElem?_set_ne e]
 have hgk:∀P:List Hdr,(PS.set i P).getD k []=PS.getD k []:=fun P=>by simp [List.getD,List.getElem?_set_ne hik]
 have hgi:∀P:List Hdr,(PS.set i P).getD i []=P:=fun P=>z7l hi P
 generalize hR:z1j key 17 (PS.getD i []) (PS.getD k []) 1=R
 refine ACallsP.of_keep q2sok (by simp) ?_
 repeat' (first|apply zs_|apply zb_|apply zc_|apply zt_ rfl|apply zf_ rfl|(apply zd_ rfl<;>intro ht<;>try omega)|((first|apply zr_|apply zk_|apply ze_|apply zq_|(apply zG<;>intro ht));all_goals try simp (disch:=first|omega|(simp only [lens,z6,z7,zg,z8,zh,zm,lQt,lQd,List.length_replicate,lQm];first|done|omega)) only [go_sem]))
 refine zW.loop (fun m J O'=>∃(P:List Hdr) (n f:Nat) (own':List Nat),m+P.length=16/\ m<f/\ n+2*m<=33/\ POk key P/\ CirS PoIs O' c key (PS.set i P) M own'/\ Fr O O' own own'/\ z1j key f P (PS.getD k []) n=R/\ J 0=.ptr c 0 0/\ J 1=.int .i64 i/\ J 2=.int .i64 k/\ J 7=.int .i64 n) (16-(PS.getD i []).length) ?_ ?_
 ·exact⟨PS.getD i [],1,17,own,by have:=hP0.len;omega,by omega,by omega,hP0,by rw [hset];exact h,⟨fun _ _ _=>rfl,fun _ h=> .inl h,Nat.le_refl _⟩,hR,by simp (disch:=first|omega|(simp only [lens,z6,z7,zg,z8,zh,zm,lQt,lQd,List.length_replicate,lQm];first|done|omega)) only [go_sem],by simp (disch:=first|omega|(simp only [lens,z6,z7,zg,z8,zh,zm,lQt,lQd,List.length_replicate,lQm];first|done|omega)) only [go_sem],by simp (disch:=first|omega|(simp only [lens,z6,z7,zg,z8,zh,zm,lQt,lQd,List.length_replicate,lQm];first|done|omega)) only [go_sem],by simp (disch:=first|omega|(simp only [lens,z6,z7,zg,z8,zh,zm,lQt,lQd,List.length_replicate,lQm];first|done|omega)) only [go_sem];try rfl⟩
 ·rintro m J O' ⟨P,n,f,own',hm,hf,hn,hP,hS,hF,hG,q0,q1,q2,q7⟩
  obtain⟨f,rfl⟩:∃g,f=g+1:=⟨f-1,by omega⟩
  unfold z1j at hG
  have hS0:=hS
  obtain⟨Q,lk,sid,pp,ow,rfl,hC⟩:=hS
  have hlen:(PS.set i P).length=PS.length:=List.length_set ..
  have ho:=hC.obj
  have hrw:=hC.row
  rw [hlen]at ho
  have dc:=slen ho
  have dq:=slen hrw
  have hppl:pp.length=PS.length:=by rw [hC.len,hlen]
  have hppi:=z6c (pp:=pp) (i:=i) (by omega)
  have hppk:=z6c (pp:=pp) (i:=k) (by omega)
  have hpl:(pp.map fun p=>[AV.ptr p 0 0]).length=PS.length:=by rw [List.length_map,hppl]
  have hi':(i:Int)<PS.length:=by omega
  have hk':(k:Int)<PS.length:=by omega
  have hIk:=hC.pool k (by omega)
  have hIi:=hC.pool i (by omega)
  rw [hgk]at hIk
  rw [hgi]at hIi
  have hPl:=hP.len
  have hQl:=hQ.len
  have hHd:=zjx O' (pp.getD k 0) key _ _ hIk (by omega) hQ.path
  have hKn:=zb5 O' (pp.getD i 0) key _ _ hIi (by omega)
  have hMs:=zfs O' (PS.getD k []) (hns P) (zz 36 (hdrs (PS.getD k []))) (zz 33 (kn P)) (z1v _ _) (by rw [<-ziy];exact z1v _ _) (by omega) (by rw [z68];omega) hQ.path
  have hXm:=zdo (PS.getD k []) (hns P)
  have hXv:∀q ∈ z16 (PS.getD k []) (hns P),valH q=true:=fun q hq=>(z7q hq).2.1
  generalize z16 (PS.getD k []) (hns P)=X at*
  have hsv:=z1v 36 (hdrs X)
  have r1:=hsv.len
  rw [z8]at r1
  unfold z1k at r1
  generalize zz 36 (hdrs X)=x at*
  repeat' (first|apply zs_|apply zb_|apply zc_|apply zt_ rfl|apply zf_ rfl|(apply zd_ rfl<;>intro ht<;>try omega)|((first|apply zr_|apply zk_|apply ze_|apply zq_|(apply callW.mk_pu;(first|exact(fun _=>hHd)|exact(fun _=>hKn)|exact(fun _=>hMs)))|(apply callW.za;(first|exact(hHd)|exact(hKn)|exact(hMs)))|(apply zG<;>intro ht));all_goals try simp (disch:=first|omega|(simp only [lens,z6,z7,zg,z8,zh,zm,lQt,lQd,List.length_replicate,lQm];first|done|omega)) only [go_sem,q0,q1,q2,q7,ho,hrw,hppi,hppk,hpl,hi',hk',r1]))
  refine zW.loop (fun m2 J O2=>∃(j:Nat) (own2:List Nat),m2+j=X.length/\ CirS PoIs O2 c key (PS.set i (z1e key P (X.take j))) M own2/\ Fr O O2 own own2/\ J 0=.ptr c 0 0/\ J 1=.int .i64 i/\ J 2=.int .i64 k/\ J 7=.int .i64 n/\ J 8=x/\ J 9=.bool (decide (P.length<(z1e key P (X.take j)).length))/\ J 32=x/\ J 33=.int .i64 X.length/\ J 34=.int .i64 j) X.length ?_ ?_
  ·exact⟨0,_,by omega,by rw [show z1e key P (X.take 0)=P from rfl];exact hS0,hF,by simp (disch:=first|omega|(simp only [lens,z6,z7,zg,z8,zh,zm,lQt,lQd,List.length_replicate,lQm];first|done|omega)) only [go_sem,q0],by simp (disch:=first|omega|(simp only [lens,z6,z7,zg,z8,zh,zm,lQt,lQd,List.length_replicate,lQm];first|done|omega)) only [go_sem,q1],by simp (disch:=first|omega|(simp only [lens,z6,z7,zg,z8,zh,zm,lQt,lQd,List.length_replicate,lQm];first|done|omega)) only [go_sem,q2],by simp (disch:=first|omega|(simp only [lens,z6,z7,zg,z8,zh,zm,lQt,lQd,List.length_replicate,lQm];first|done|omega)) only [go_sem,q7],by simp (disch:=first|omega|(simp only [lens,z6,z7,zg,z8,zh,zm,lQt,lQd,List.length_replicate,lQm];first|done|omega)) only [go_sem],by rw [show z1e key P (X.take 0)=P from rfl,decide_eq_false (by omega)];simp (disch:=first|omega|(simp only [lens,z6,z7,zg,z8,zh,zm,lQt,lQd,List.length_replicate,lQm];first|done|omega)) only [go_sem],by simp (disch:=first|omega|(simp only [lens,z6,z7,zg,z8,zh,zm,lQt,lQd,List.length_replicate,lQm];first|done|omega)) only [go_sem],by simp (disch:=first|omega|(simp only [lens,z6,z7,zg,z8,zh,zm,lQt,lQd,List.length_replicate,lQm];first|done|omega)) only [go_sem,r1],by simp (disch:=first|omega|(simp only [lens,z6,z7,zg,z8,zh,zm,lQt,lQd,List.length_replicate,lQm];first|done|omega)) only [go_sem];try rfl⟩
  ·clear q0 q1 q2 q7 hHd hKn hMs hIk hIi hC hrw ho hppi hppk hpl dc dq hppl hS0 hF
   clear ow sid pp lk Q
   rintro m2 J O2 ⟨j,own2,hm2,hS2,hF2,q0,q1,q2,q7,q8,q9,q32,q33,q34⟩
   by_cases hj:j<X.length
   ·obtain⟨ex,rfl⟩:=hsv.vsl (by rw [z8];omega)
    have hgj:=z6t hj
    have hst:=zgk (key:=key) (P:=P) hj
    have hvu:=hXv X[j] (List.getElem_mem hj)
    have hdl:=z8 X
    generalize X[j]=u at*
    have hup:=zlp hvu
    have hul:=zg u
    have ua:(hdrC u).take 36=hdrC u:=z6s u
    have hj':(j:Int)<X.length:=by omega
    obtain⟨Q,lk,sid,pp,ow,rfl,hC⟩:=hS2
    have hpok:=z7e hP (X.take j)
    have hge:=zgj key (X.take j) P
    have hstl:=zce key (z1e key P (X.take j)) u
    rw [<-hst]at hstl
    have hlen2:(PS.set i (z1e key P (X.take j))).length=PS.length:=List.length_set ..
    have hIi:=hC.pool i (by omega)
    rw [hgi]at hIi
    have ho:=hC.obj
    have hrw:=hC.row
    rw [hlen2]at ho
    have dc:=slen ho
    have dq:=slen hrw
    have hppl:pp.length=PS.length:=by rw [hC.len,hlen2]
    have hppi:=z6c (pp:=pp) (i:=i) (by omega)
    have hpl:(pp.map fun p=>[AV.ptr p 0 0]).length=PS.length:=by rw [List.length_map,hppl]
    have E:Ext O2 (O2++ [some [hdrC u]]):=⟨_,rfl⟩
    repeat' (first|apply zs_|apply zb_|apply zc_|apply zt_ rfl|apply zf_ rfl|(apply zd_ rfl<;>intro ht<;>try omega)|((first|apply zr_|apply zk_|apply ze_|apply zq_|(apply zG<;>intro ht));all_goals try simp (disch:=first|omega|(simp only [lens,z6,z7,zg,z8,zh,zm,lQt,lQd,List.length_replicate,lQm];first|done|omega)) only [go_sem,q0,q1,q2,q7,q8,q9,q32,q33,q34,hgj,hdl,hul,ua,hj',ho,hrw,hppi,hpl,hi']))
    have hPk:=ploc_is.keep hIi (O':=O2++ [some [hdrC u]]) fun j hj=>gapp (ploc_is.lt hIi j hj)
    have hAdd:=zb3 _ (pp.getD i 0) key _ _ u _ hPk hpok.sort hpok.len (z1v _ _) (by omega) (fun e=>zak e)
    rw [show sgC u.n u.r u.i u.s (zz 32 (hr u.p))=hdrC u from rfl]at hAdd
    refine callW.mkP (caps:=[]) hAdd (PoAddP.is hPk) ?_
    rintro v O3 ⟨rfl,o,f1,P1⟩
    have f2:Fr O2 O3 (ow (i+2)) o:=(Fr.ext E).trans f1
    obtain⟨h1,h2⟩:=hC.pool' ploc_is (by omega) f2 P1
    rw [List.set_set,<-hst]at h1
    have hF3:=hF2.trans h2
    have hS3:CirS PoIs O3 c key (PS.set i (z1e key P (X.take (j+1)))) M (z2q ((PS.set i (z1e key P (X.take j))).length+2) (updO ow (i+2) o)):=⟨Q,lk,sid,pp,_,by rw [List.length_set,List.length_set],h1⟩
    generalize z2q ((PS.set i (z1e key P (X.take j))).length+2) (updO ow (i+2) o)=own3 at*
    generalize addC key (z1e key P (X.take j)) u=e at*
    have hflag:∀b:Bool,decide (P.length<(z1e key P (X.take j)).length)=b->decide (P.length<(z1e key P (X.take (j+1))).length)=(b ||decide (e=2 \/e=3)):=by
     intro b hb
     subst hb
     rw [hstl]
     by_cases e1:e=2 \/e=3
     ·rw [if_pos e1,decide_eq_true e1,Bool.or_true];exact decide_eq_true (by omega)
     ·rw [if_neg e1,decide_eq_false e1,Bool.or_false]
    generalize decide (P.length<(z1e key P (X.take j)).length)=b at*
    have hfl:=hflag b rfl
    cases b
    ·by_cases e2:e=2
     ·subst e2
      simp (disch:=first|omega|(simp only [lens,z6,z7,zg,z8,zh,zm,lQt,lQd,List.length_replicate,lQm];first|done|omega)) only [go_sem,q0,q1,q2,q7,q8,q9,q32,q33,q34]
      repeat' (first|apply zs_|apply zb_|apply zc_|apply zt_ rfl|apply zf_ rfl|(apply zd_ rfl<;>intro ht<;>try omega)|((first|apply zr_|apply zk_|apply ze_|apply zq_|(apply zG<;>intro ht));all_goals try simp (disch:=first|omega|(simp only [lens,z6,z7,zg,z8,zh,zm,lQt,lQd,List.length_replicate,lQm];first|done|omega)) only [go_sem,q0,q1,q2,q7,q8,q9,q32,q33,q34]))
      exact⟨m2-1,by omega,j+1,own3,by omega,hS3,hF3,by rw [hfl];simp⟩
     ·by_cases e3:e=3
      ·subst e3
       simp (disch:=first|omega|(simp only [lens,z6,z7,zg,z8,zh,zm,lQt,lQd,List.length_replicate,lQm];first|done|omega)) only [go_sem,q0,q1,q2,q7,q8,q9,q32,q33,q34]
       repeat' (first|apply zs_|apply zb_|apply zc_|apply zt_ rfl|apply zf_ rfl|(apply zd_ rfl<;>intro ht<;>try omega)|((first|apply zr_|apply zk_|apply ze_|apply zq_|(apply zG<;>intro ht));all_goals try simp (disch:=first|omega|(simp only [lens,z6,z7,zg,z8,zh,zm,lQt,lQd,List.length_replicate,lQm];first|done|omega)) only [go_sem,q0,q1,q2,q7,q8,q9,q32,q33,q34]))
       exact⟨m2-1,by omega,j+1,own3,by omega,hS3,hF3,by rw [hfl];simp⟩
      ·have e2':(e==2)=false:=beq_eq_false_iff_ne.2 e2
       have e3':(e==3)=false:=beq_eq_false_iff_ne.2 e3
       rw [decide_eq_false (show ¬(e=2 \/e=3)by omega),Bool.or_false]at hfl
       simp (disch:=first|omega|(simp only [lens,z6,z7,zg,z8,zh,zm,lQt,lQd,List.length_replicate,lQm];first|done|omega)) only [go_sem,q0,q1,q2,q7,q8,q9,q32,q33,q34]
       repeat' (first|apply zs_|apply zb_|apply zc_|apply zt_ rfl|apply zf_ rfl|(apply zd_ rfl<;>intro ht<;>try omega)|((first|apply zr_|apply zk_|apply ze_|apply zq_|(apply zG<;>intro ht));all_goals try simp (disch:=first|omega|(simp only [lens,z6,z7,zg,z8,zh,zm,lQt,lQd,List.length_replicate,lQm];first|done|omega)) only [go_sem,q0,q1,q2,q7,q8,q9,q32,q33,q34,e2',e3']))
       exact⟨m2-1,by omega,j+1,own3,by omega,hS3,hF3,by rw [hfl];simp⟩
    ·rw [Bool.true_or]at hfl
     simp (disch:=first|omega|(simp only [lens,z6,z7,zg,z8,zh,zm,lQt,lQd,List.length_replicate,lQm];first|done|omega)) only [go_sem,q0,q1,q2,q7,q8,q9,q32,q33,q34]
     repeat' (first|apply zs_|apply zb_|apply zc_|apply zt_ rfl|apply zf_ rfl|(apply zd_ rfl<;>intro ht<;>try omega)|((first|apply zr_|apply zk_|apply ze_|apply zq_|(apply zG<;>intro ht));all_goals try simp (disch:=first|omega|(simp only [lens,z6,z7,zg,z8,zh,zm,lQt,lQd,List.length_replicate,lQm];first|done|omega)) only [go_sem,q0,q1,q2,q7,q8,q9,q32,q33,q34]))
     exact⟨m2-1,by omega,j+1,own3,by omega,hS3,hF3,by rw [hfl];simp⟩
   ·rw [List.take_of_length_le (by omega)]at hS2 q9
    have hj':¬(j:Int)<X.length:=by omega
    have hge:=zgj key X P
    have hPX:=z7e hP X
    have hXl:=hPX.len
    by_cases h0:X=[]
    ·rw [if_pos h0]at hG
     subst h0
     subst hG
     have hz:([]:List Hdr).length=0:=rfl
     rw [hz]at r1
     repeat' (first|apply zs_|apply zb_|apply zc_|apply zt_ rfl|apply zf_ rfl|(apply zd_ rfl<;>intro ht<;>try omega)|((first|apply zr_|apply zk_|apply ze_|apply zq_|(apply zG<;>intro ht));all_goals try simp (disch:=first|omega|(simp only [lens,z6,z7,zg,z8,zh,zm,lQt,lQd,List.length_replicate,lQm];first|done|omega)) only [go_sem,q0,q1,q2,q7,q8,q9,q32,q33,q34,hj',r1]))
     exact⟨rfl,own2,hS2,hF2⟩
    ·rw [if_neg h0]at hG
     have hz:((X.length:Int)==0)=false:=beq_eq_false_iff_ne.2 (by have:=List.length_pos_iff.2 h0;omega)
     by_cases hmo:(z1e key P X).length=P.length
     ·rw [if_pos hmo]at hG
      rw [decide_eq_false (by omega)]at q9
      subst hG
      repeat' (first|apply zs_|apply zb_|apply zc_|apply zt_ rfl|apply zf_ rfl|(apply zd_ rfl<;>intro ht<;>try omega)|((first|apply zr_|apply zk_|apply ze_|apply zq_|(apply zG<;>intro ht));all_goals try simp (disch:=first|omega|(simp only [lens,z6,z7,zg,z8,zh,zm,lQt,lQd,List.length_replicate,lQm];first|done|omega)) only [go_sem,q0,q1,q2,q7,q8,q9,q32,q33,q34,hj',r1,hz]))
      exact⟨by simp,own2,hS2,hF2⟩
     ·rw [if_neg hmo]at hG
      rw [decide_eq_true (by omega)]at q9
      repeat' (first|apply zs_|apply zb_|apply zc_|apply zt_ rfl|apply zf_ rfl|(apply zd_ rfl<;>intro ht<;>try omega)|((first|apply zr_|apply zk_|apply ze_|apply zq_|(apply zG<;>intro ht));all_goals try simp (disch:=first|omega|(simp only [lens,z6,z7,zg,z8,zh,zm,lQt,lQd,List.length_replicate,lQm];first|done|omega)) only [go_sem,q0,q1,q2,q7,q8,q9,q32,q33,q34,hj',r1,hz]))
      exact⟨16-(z1e key P X).length,by omega,z1e key P X,n+2,f,own2,by omega,by omega,by omega,hPX,hS2,hF2,hG,by simp⟩
def metN(key:Hash)(PS:List (List Hdr))(i k:Nat):Nat × List (List Hdr):=
 let a:=z1j key 17 (PS.getD i []) (PS.getD k []) 1
 let b:=z1j key 17 (PS.getD k []) a.2 1
 (a.1+b.1,(PS.set i a.2).set k b.2)
theorem z94(key:Hash)(Q:List Hdr):∀(f:Nat) {P:List Hdr} (n:Nat),POk key P->POk key (z1j key f P Q n).2
 | 0,P,n,h=>h
 |f+1,P,n,h=>by
  unfold z1j
  split
  ·exact h
  ·split
   ·exact z7e h _
   ·exact z94 key Q f _ (z7e h _)
theorem ze4(key:Hash)(Q:List Hdr):∀(f:Nat) (P:List Hdr) (n:Nat),(z1j key f P Q n).1<=n+2*f
 | 0,P,n=>by simp [z1j]
 |f+1,P,n=>by
  unfold z1j
  split
  ·dsimp only;omega
  ·split
   ·dsimp only;omega
   ·have:=ze4 key Q f (z1e key P (z16 Q (hns P))) (n+2);omega
theorem zro(key:Hash)(PS:List (List Hdr))(i k:Nat):(metN key PS i k).2.length=PS.length:=by simp [metN]
theorem zrp{key:Hash}{PS:List (List Hdr)}(h:POks key PS){i k:Nat}(hi:i<PS.length)(hk:k<PS.length):POks key (metN key PS i k).2:=
 (h.set i (z94 key _ 17 1 (h i hi))).set k (z94 key _ 17 1 (h k hk))
def metI(key:Hash)(PS:List (List Hdr))(i k:Int):AV:=if twoN PS.length i k=true then .tup [.int .i64 (metN key PS i.toNat k.toNat).1,.int .i64 0]else .tup [.int .i64 0,.int .i64 2]
def metS(key:Hash)(PS:List (List Hdr))(i k:Int):List (List Hdr):=if twoN PS.length i k=true then(metN key PS i.toNat k.toNat).2 else PS
theorem zag(h:CirS PoIs O c key PS M own)(hok:POks key PS)(hn:0<PS.length)(i k:Int):
  ACallsP TC 20 [.ptr c 0 0,.int .i64 i,.int .i64 k] O (CirP PoIs O c key own (metI key PS i k) (metS key PS i k) M):=by
 have hfin:=h
 obtain⟨Q,lk,sid,pp,ow,hown,hC⟩:=h
 have hN:=zal O c Q lk _ hC.obj hn
 have hbi:=z6n O c Q lk PS.length i hC.obj
 have hbk:=z6n O c Q lk PS.length k hC.obj
 clear hC hown
 refine ACallsP.of_keep q2jok (by simp) ?_
 unfold metI metS
 by_cases ht:twoN PS.length i k=true
 ·rw [if_pos ht,if_pos ht]
  unfold twoN at ht
  simp only [Bool.and_eq_true,Bool.not_eq_true',decide_eq_false_iff_not]at ht
  obtain⟨⟨hi,hk⟩,hne⟩:=ht
  rw [hi]at hbi
  rw [hk]at hbk
  obtain⟨a,rfl,ha⟩:=z6u hi
  obtain⟨b,rfl,hb⟩:=z6u hk
  have hne':((a:Int)==b)=false:=beq_eq_false_iff_ne.2 hne
  have hab:a ≠ b:=fun e=>hne (by rw [e])
  repeat' (first|apply zs_|apply zb_|apply zc_|apply zt_ rfl|apply zf_ rfl|(apply zd_ rfl<;>intro ht<;>try omega)|((first|apply zr_|apply zk_|apply ze_|apply zq_|(apply callW.mk_pu;(first|exact(fun _=>hN)|exact(fun _=>hbi)|exact(fun _=>hbk)))|(apply callW.za;(first|exact(hN)|exact(hbi)|exact(hbk)))|(apply zG<;>intro ht));all_goals try simp (disch:=first|omega|(simp only [lens,z6,z7,zg,z8,zh,zm,lQt,lQd,List.length_replicate,lQm];first|done|omega)) only [go_sem,hne']))
  refine callW.mkP (caps:=[]) (zhf hfin hok a b ha hb hab) (CirP.is ploc_is z3q hfin _ (by simp)) ?_
  rintro v O2 ⟨rfl,own2,S2,f2⟩
  have hn1:=ze4 key (PS.getD b []) 17 (PS.getD a []) 1
  have hok2:POks key (PS.set a (z1j key 17 (PS.getD a []) (PS.getD b []) 1).2):=hok.set a (z94 key _ 17 1 (hok a ha))
  have hga:(PS.set a (z1j key 17 (PS.getD a []) (PS.getD b []) 1).2).getD a []=(z1j key 17 (PS.getD a []) (PS.getD b []) 1).2:=z7l ha _
  have hgb:(PS.set a (z1j key 17 (PS.getD a []) (PS.getD b []) 1).2).getD b []=PS.getD b []:=by simp [List.getD,List.getElem?_set_ne hab]
  have hA:=zhf S2 hok2 b a (by simpa using hb) (by simpa using ha) (fun e=>hab e.symm)
  rw [hga,hgb]at hA
  unfold metN
  dsimp only
  have hn2:=ze4 key (z1j key 17 (PS.getD a []) (PS.getD b []) 1).2 17 (PS.getD b []) 1
  generalize (z1j key 17 (PS.getD b []) (z1j key 17 (PS.getD a []) (PS.getD b []) 1).2 1)=r2 at*
  generalize (z1j key 17 (PS.getD a []) (PS.getD b []) 1)=r1 at*
  simp (disch:=first|omega|(simp only [lens,z6,z7,zg,z8,zh,zm,lQt,lQd,List.length_replicate,lQm];first|done|omega)) only [go_sem]
  repeat' (first|apply zs_|apply zb_|apply zc_|apply zt_ rfl|apply zf_ rfl|(apply zd_ rfl<;>intro ht<;>try omega)|((first|apply zr_|apply zk_|apply ze_|apply zq_|(apply zG<;>intro ht));all_goals try simp (disch:=first|omega|(simp only [lens,z6,z7,zg,z8,zh,zm,lQt,lQd,List.length_replicate,lQm];first|done|omega)) only [go_sem]))
  refine callW.mkP (caps:=[]) hA (CirP.is ploc_is z3q S2 _ (by simp)) ?_
  rintro v O3 ⟨rfl,own3,S3,f3⟩
  simp (disch:=first|omega|(simp only [lens,z6,z7,zg,z8,zh,zm,lQt,lQd,List.length_replicate,lQm];first|done|omega)) only [go_sem]
  repeat' (first|apply zs_|apply zb_|apply zc_|apply zt_ rfl|apply zf_ rfl|(apply zd_ rfl<;>intro ht<;>try omega)|((first|apply zr_|apply zk_|apply ze_|apply zq_|(apply zG<;>intro ht));all_goals try simp (disch:=first|omega|(simp only [lens,z6,z7,zg,z8,zh,zm,lQt,lQd,List.length_replicate,lQm];first|done|omega)) only [go_sem]))
  exact⟨by simp,own3,S3,f2.trans f3⟩
 ·rw [if_neg ht,if_neg ht]
  have hres:CirP PoIs O c key own (.tup [.int .i64 0,.int .i64 2]) PS M (.tup [.int .i64 0,.int .i64 2]) O:=⟨rfl,_,hfin,⟨fun _ _ _=>rfl,fun _ h=> .inl h,Nat.le_refl _⟩⟩
  cases hi:isN PS.length i
  ·rw [hi]at hbi
   repeat' (first|apply zs_|apply zb_|apply zc_|apply zt_ rfl|apply zf_ rfl|(apply zd_ rfl<;>intro ht<;>try omega)|((first|apply zr_|apply zk_|apply ze_|apply zq_|(apply callW.mk_pu;(first|exact(fun _=>hN)|exact(fun _=>hbi)))|(apply callW.za;(first|exact(hN)|exact(hbi)))|(apply zG<;>intro ht));all_goals try simp (disch:=first|omega|(simp only [lens,z6,z7,zg,z8,zh,zm,lQt,lQd,List.length_replicate,lQm];first|done|omega)) only [go_sem]))
   exact hres
  ·rw [hi]at hbi
   cases hk:isN PS.length k
   ·rw [hk]at hbk
    repeat' (first|apply zs_|apply zb_|apply zc_|apply zt_ rfl|apply zf_ rfl|(apply zd_ rfl<;>intro ht<;>try omega)|((first|apply zr_|apply zk_|apply ze_|apply zq_|(apply callW.mk_pu;(first|exact(fun _=>hN)|exact(fun _=>hbi)|exact(fun _=>hbk)))|(apply callW.za;(first|exact(hN)|exact(hbi)|exact(hbk)))|(apply zG<;>intro ht));all_goals try simp (disch:=first|omega|(simp only [lens,z6,z7,zg,z8,zh,zm,lQt,lQd,List.length_replicate,lQm];first|done|omega)) only [go_sem]))
    exact hres
   ·rw [hk]at hbk
    have hik:i=k:=by
     unfold twoN at ht
     rw [hi,hk]at ht
     simpa using ht
    subst hik
    have hee:((i:Int)==i)=true:=by simp
    repeat' (first|apply zs_|apply zb_|apply zc_|apply zt_ rfl|apply zf_ rfl|(apply zd_ rfl<;>intro ht<;>try omega)|((first|apply zr_|apply zk_|apply ze_|apply zq_|(apply callW.mk_pu;(first|exact(fun _=>hN)|exact(fun _=>hbi)))|(apply callW.za;(first|exact(hN)|exact(hbi)))|(apply zG<;>intro ht));all_goals try simp (disch:=first|omega|(simp only [lens,z6,z7,zg,z8,zh,zm,lQt,lQd,List.length_replicate,lQm];first|done|omega)) only [go_sem,hee]))
    exact hres
end
end
section
theorem zuf{O:Store}{sid:Option Nat}{w x:AV}{rows:List (List AV)}(h:RowAt 1 O sid w rows)(hl:rows.length<1000000):
  ∃O2,aApp O 1 w [[x]]=some (.sl O.length 0 (rows.length+1) none 1,O2)/\ O2[O.length]? =some (some (rows++ [[x]]))/\ O2.length=O.length+1/\ ∀j,j<O.length->sid ≠ some j->O2[j]? =O[j]?:=by
 rcases h with⟨rfl,rfl,rfl⟩| ⟨q,rfl,hne,rfl,hq⟩
 ·refine⟨O++ [some [[x]]],by simp [aApp],by simp,by simp,fun j hj _=>gapp hj⟩
 ·refine⟨O.set q none++ [some (rows++ [[x]])],?_,by rw [z1a (by simp)];simp,by simp,fun j hj hn=> ?_⟩
  ·unfold aApp
   rw [if_neg (by simp)]
   simp only [hq]
   rw [if_pos ⟨trivial,by omega,by simp;omega⟩,if_neg (by simp)]
   simp
  ·rw [gapp (by simpa using hj)]
   exact z1g fun e=>hn (by rw [e])
theorem zov{O O':Store}(hl:O.length<=O'.length)(h:∀j,j<O.length->O'[j]? =O[j]?):Ext O O':=by
 refine⟨O'.drop O.length,List.ext_getElem? fun j=> ?_⟩
 by_cases hj:j<O.length
 ·rw [gapp hj,h j hj]
 ·rw [z1a (by omega),List.getElem?_drop];congr 1;omega
structure NewS(τ O:Store)(key:Hash)(n i:Nat)(w:AV)(pp:List Nat)(sid:Option Nat):Prop where
 ext:Ext τ O
 len:pp.length=i
 box:O[τ.length]? =some (some [hc key])
 lk:O[τ.length+1]? =some (some [[.int .i64 n,.nilsl]])
 obj:O[τ.length+2]? =some (some [[w,.ptr (τ.length+1) 0 0]])
 row:RowAt 1 O sid w (pp.map fun p=>[.ptr p 0 0])
 pool:∀p ∈ pp,O[p]? =some (some [poC key .nilsl])/\ τ.length+2<p
 nd:pp.Nodup
 sid:∀s,sid=some s->τ.length+2<s/\ s ∉ pp
theorem NewS.step{τ O O2:Store}{key:Hash}{n i:Nat}{w:AV}{pp:List Nat}{sid:Option Nat}(h:NewS τ O key n i w pp sid)
  (hr:O2[O.length+2]? =some (some ((pp.map fun p=>[.ptr p 0 0])++ [[.ptr (O.length+1) 0 0]]))) (hl:O2.length=O.length+3) (hk:∀j,j<O.length+2->sid ≠ some j->O2[j]? =(O++ [some [hc key],some [poC key .nilsl]])[j]?):
  NewS τ (O2.set (τ.length+2) (some [[.sl (O.length+2) 0 (i+1) none 1,.ptr (τ.length+1) 0 0]])) key n (i+1) (.sl (O.length+2) 0 (i+1) none 1) (pp++ [O.length+1]) (some (O.length+2)):=by
 have d:=slen h.obj
 have hns:∀j,j<=τ.length+2->sid ≠ some j:=fun j hj e=>by have:=(h.sid j e).1;omega
 have hlow:∀j,j<O.length->j ≠ τ.length+2->sid ≠ some j->(O2.set (τ.length+2) (some [[.sl (O.length+2) 0 (i+1) none 1,.ptr (τ.length+1) 0 0]]))[j]? =O[j]?:=fun j hj h1 h2=>by
  rw [z1g (fun e=>h1 e.symm),hk j (by omega) h2,gapp hj]
 have hpl:∀p ∈ pp,p<O.length:=fun p hp=>slen (h.pool p hp).1
 have hmap:((pp++ [O.length+1]).map fun p=>[AV.ptr p 0 0])=(pp.map fun p=>[.ptr p 0 0])++ [[.ptr (O.length+1) 0 0]]:=by simp
 refine { ext:= ?_,len:=by rw [List.length_append,h.len];rfl,box:= ?_,lk:= ?_,obj:= ?_,row:= ?_,pool:= ?_,nd:= ?_,sid:= ?_ }
 ·obtain⟨y,hy⟩:=h.ext
  refine zov (by rw [List.length_set,hl];omega) fun j hj=> ?_
  rw [hlow j (by omega) (by omega) (hns j (by omega)),hy,gapp hj]
 ·rw [hlow _ (by omega) (by omega) (hns _ (by omega))];exact h.box
 ·rw [hlow _ (by omega) (by omega) (hns _ (by omega))];exact h.lk
 ·exact z1y (by omega)
 ·refine .inr ⟨_,rfl,by simp,?_,?_⟩
  ·rw [List.length_map,List.length_append,h.len];rfl
  ·rw [z1g (by omega),hr,hmap]
 ·intro p hp
  rcases List.mem_append.1 hp with h1|h1
  ·obtain⟨h2,h3⟩:=h.pool p h1
   refine⟨?_,h3⟩
   rw [hlow p (hpl p h1) (by omega) fun e=>(h.sid p e).2 h1];exact h2
  ·rw [List.mem_singleton.1 h1]
   refine⟨?_,by omega⟩
   rw [z1g (by omega),hk _ (by omega) fun e=>by
    have hh:=h.row
    rcases hh with⟨e2,_⟩| ⟨q,e2,_,_,hq⟩
    ·rw [e2]at e;cases e
    ·rw [e2]at e;injection e with e;have:=slen hq;omega,z1a (by omega)]
   rw [show O.length+1-O.length=1 by omega];rfl
 ·rw [List.nodup_append]
  refine⟨h.nd,by simp,fun a ha b hb=> ?_⟩
  rw [List.mem_singleton.1 hb];have:=hpl a ha;omega
 ·intro s hs
  injection hs with hs;subst hs
  refine⟨by omega,fun hm=> ?_⟩
  rcases List.mem_append.1 hm with h1|h1
  ·have:=hpl _ h1;omega
  ·have:=List.mem_singleton.1 h1;omega
def CNewP(τ:Store)(key:Hash)(n:Nat)(v:AV)(O':Store):Prop:=∃c own,v=.tup [.ptr c 0 0,.int .i64 0]/\ Ext τ O'/\ CirS PoIs O' c key (List.replicate n []) [] own/\ ∀x ∈ own,τ.length<=x
theorem NewS.fin{τ O:Store}{key:Hash}{n:Nat}{w:AV}{pp:List Nat}{sid:Option Nat}(h:NewS τ O key n n w pp sid)(h0:0<n):CNewP τ key n (.tup [.ptr (τ.length+2) 0 0,.int .i64 0]) O:=by
 obtain⟨y,hy⟩:=h.ext
 have hrow:=h.row
 rcases hrow with⟨_,h1,_⟩| ⟨q,hq,h1,hw,hg⟩
 ·have:=congrArg List.length h1
  rw [List.length_map,h.len]at this;simp at this;omega
 have hql:(pp.map fun p=>[AV.ptr p 0 0]).length=n:=by rw [List.length_map,h.len]
 rw [hql]at hw
 subst hw
 have hsid:=h.sid q hq
 let ow:Nat->List Nat:=fun j=>if j=0 then [τ.length+2,q]else if j=1 then [τ.length+1]else [pp.getD (j-2) 0]
 have hpm:∀j,j<n->pp.getD j 0 ∈ pp:=fun j hj=>by
  rw [show pp.getD j 0=pp[j]'(by rw [h.len];exact hj)by simp [List.getD,h.len,hj]];exact List.getElem_mem _
 have hge:∀j,j<n+2->∀x ∈ ow j,τ.length<=x:=by
  intro j hj x hx
  show τ.length<=x
  simp only [ow]at hx
  split at hx
  ·simp at hx;omega
  ·split at hx
   ·simp at hx;omega
   ·rw [List.mem_singleton]at hx;have:=(h.pool _ (hpm (j-2) (by omega))).2;omega
 refine⟨τ.length+2,z2q (n+2) ow,rfl,h.ext,⟨q,τ.length+1,none,pp,ow,by rw [List.length_replicate],?_⟩,fun x hx=> ?_⟩
 ·exact {
   o0:=rfl
   o1:=rfl
   len:=by rw [h.len,List.length_replicate]
   obj:=by rw [List.length_replicate];exact h.obj
   row:=hg
   lk:=⟨by rw [List.length_replicate];exact h.lk,rfl,by simp⟩
   pool:=fun i hi=>by
    rw [List.length_replicate]at hi
    obtain⟨h2,h3⟩:=h.pool _ (hpm i hi)
    refine⟨.nilsl,none,?_,h2,.inl ⟨rfl,?_,rfl⟩,by simp⟩
    ·simp [ow]
    ·simp [List.getD,hi,hdrs]
   apart:=by
    rw [List.length_replicate]
    intro i j hi hj hne x hx hx2
    simp only [ow]at hx hx2
    have hp:=fun k (hk:k<n+2) (h2:¬k=0) (h3:¬k=1)=>(h.pool _ (hpm (k-2) (by omega))).2
    have hqq:=fun k (hk:k<n+2) (h2:¬k=0) (h3:¬k=1) (e:q=pp.getD (k-2) 0)=>hsid.2 (by rw [e];exact hpm (k-2) (by omega))
    by_cases i0:i=0
    ·rw [if_pos i0]at hx
     rw [if_neg (by omega)]at hx2
     by_cases j1:j=1
     ·rw [if_pos j1]at hx2;simp at hx hx2;omega
     ·rw [if_neg j1]at hx2;simp at hx hx2
      have:=hp j hj (by omega) j1
      rcases hx with rfl|rfl
      ·simp [List.getD]at this;omega
      ·exact hqq j hj (by omega) j1 (by simp [List.getD];exact hx2)
    ·rw [if_neg i0]at hx
     by_cases i1:i=1
     ·rw [if_pos i1]at hx
      by_cases j0:j=0
      ·rw [if_pos j0]at hx2;simp at hx hx2;omega
      ·rw [if_neg j0,if_neg (by omega)]at hx2
       have:=hp j hj j0 (by omega)
       simp at hx hx2;simp [List.getD]at this;omega
     ·rw [if_neg i1]at hx
      have hpi:=hp i hi i0 i1
      by_cases j0:j=0
      ·rw [if_pos j0]at hx2
       simp at hx hx2
       rcases hx2 with rfl|rfl
       ·simp [List.getD]at hpi;omega
       ·exact hqq i hi i0 i1 (by simp [List.getD];exact hx)
      ·rw [if_neg j0]at hx2
       by_cases j1:j=1
       ·rw [if_pos j1]at hx2
        simp at hx hx2;simp [List.getD]at hpi;omega
       ·rw [if_neg j1]at hx2
        rw [List.mem_singleton]at hx hx2
        rw [hx]at hx2
        have a1:i-2<pp.length:=by rw [h.len];omega
        have a2:j-2<pp.length:=by rw [h.len];omega
        rw [show pp.getD (i-2) 0=pp[i-2]by simp [List.getD,a1],show pp.getD (j-2) 0=pp[j-2]by simp [List.getD,a2]]at hx2
        rcases Nat.lt_or_gt_of_ne (show i-2 ≠ j-2 by omega)with hlt|hlt
        ·exact List.pairwise_iff_getElem.1 h.nd _ _ a1 a2 hlt hx2
        ·exact List.pairwise_iff_getElem.1 h.nd _ _ a2 a1 hlt hx2.symm }
 ·obtain⟨j,hj,h2⟩:=mem_allOw.1 hx
  exact hge j hj x h2
theorem CNewP.is(τ:Store)(key:Hash)(n:Nat)(h0:0<n):∃v O',CNewP τ key n v O':=by
 have hs:∀i,∃O w pp sid,NewS τ O key n i w pp sid:=by
  intro i
  induction i with
  |zero=>
   exact⟨τ++ [some [hc key],some [[.int .i64 n,.nilsl]],some [[.nilsl,.ptr (τ.length+1) 0 0]]],.nilsl,[],none,⟨_,rfl⟩,rfl,by rw [z1a (by omega),Nat.sub_self];rfl,by rw [z1a (by omega),Nat.add_sub_cancel_left];rfl,by rw [z1a (by omega),Nat.add_sub_cancel_left];rfl,.inl ⟨rfl,rfl,rfl⟩,by simp,by simp,by simp⟩
  |succ i ih=>
   obtain⟨O,w,pp,sid,h⟩:=ih
   refine⟨_,_,_,_,h.step (O2:=O++ [some [hc key],some [poC key .nilsl],some ((pp.map fun p=>[.ptr p 0 0])++ [[.ptr (O.length+1) 0 0]])]) ?_ (by simp) fun j hj _=> ?_⟩
   ·rw [z1a (by omega),Nat.add_sub_cancel_left];rfl
   ·rw [show O++ [some [hc key],some [poC key .nilsl],some ((pp.map fun p=>[AV.ptr p 0 0])++ [[.ptr (O.length+1) 0 0]])]=(O++ [some [hc key],some [poC key .nilsl]])++ [some ((pp.map fun p=>[AV.ptr p 0 0])++ [[.ptr (O.length+1) 0 0]])]by simp,gapp (by simpa using hj)]
 obtain⟨O,w,pp,sid,h⟩:=hs n
 exact⟨_,O,h.fin h0⟩
attribute [local irreducible] ACallsTo ACallsP
theorem zh3(O:Store)(key:Hash)(n:Nat)(h2:2<=n)(h8:n<=8):ACallsP TC 28 [.agg (hc key),.int .i64 n] O (CNewP O key n):=by
 have l:=z6 key
 have tk:(hc key).take 32=hc key:=List.take_of_length_le (by omega)
 have c1:¬(n:Int)<2:=by omega
 have c2:¬(n:Int)>8:=by omega
 have hL:=fun O=>zri O n ⟨by omega,by omega⟩
 refine ACallsP.of_keep q2pok (by simp) ?_
 repeat' (first|apply zs_|apply zb_|apply zc_|apply zt_ rfl|apply zf_ rfl|(apply zd_ rfl<;>intro ht<;>try omega)|((first|apply zr_|apply zk_|apply ze_|apply zq_|(apply callW.mk_pu;(first|exact(fun _=>hL _)))|(apply callW.za;(first|exact(hL _)))|(apply zG<;>intro ht));all_goals try simp (disch:=first|omega|(simp only [lens,z6,z7,zg,z8,zh,zm,lQt,lQd,List.length_replicate,lQm];first|done|omega)) only [go_sem,c1,c2,l]))
 refine zW.loop (fun m J O'=>∃(i:Nat) (w:AV) (pp:List Nat) (sid:Option Nat),m+i=n/\ NewS O O' key n i w pp sid/\ J 2=.ptr O.length 0 0/\ J 8=.ptr (O.length+2) 0 0/\ J 26=.int .i64 n/\ J 27=.int .i64 i) n ?_ ?_
 ·refine⟨0,.nilsl,[],none,by omega,?_,by simp (disch:=first|omega|(simp only [lens,z6,z7,zg,z8,zh,zm,lQt,lQd,List.length_replicate,lQm];first|done|omega)) only [go_sem],by simp (disch:=first|omega|(simp only [lens,z6,z7,zg,z8,zh,zm,lQt,lQd,List.length_replicate,lQm];first|done|omega)) only [go_sem],by simp (disch:=first|omega|(simp only [lens,z6,z7,zg,z8,zh,zm,lQt,lQd,List.length_replicate,lQm];first|done|omega)) only [go_sem],by simp (disch:=first|omega|(simp only [lens,z6,z7,zg,z8,zh,zm,lQt,lQd,List.length_replicate,lQm];first|done|omega)) only [go_sem];try rfl⟩
  exact⟨⟨_,rfl⟩,rfl,by simp,by simp,by simp,.inl ⟨rfl,rfl,rfl⟩,by simp,by simp,by simp⟩
 ·rintro m J O' ⟨i,w,pp,sid,hm,hS,q2,q8,q26,q27⟩
  by_cases hi:i<n
  ·have hi':(i:Int)<n:=by omega
   have hb:=hS.box
   have ho:=hS.obj
   have db:=slen hb
   have do':=slen ho
   have hE:=zju O' key
   repeat' (first|apply zs_|apply zb_|apply zc_|apply zt_ rfl|apply zf_ rfl|(apply zd_ rfl<;>intro ht<;>try omega)|((first|apply zr_|apply zk_|apply ze_|apply zq_|(apply zG<;>intro ht));all_goals try simp (disch:=first|omega|(simp only [lens,z6,z7,zg,z8,zh,zm,lQt,lQd,List.length_replicate,lQm];first|done|omega)) only [go_sem,q2,q8,q26,q27,hb,ho,hi',tk,l]))
   refine callW.mkP_ef (caps:=[]) hE ⟨_,_,rfl,rfl⟩ ?_
   rintro v O1 ⟨rfl,rfl⟩
   have hrow:RowAt 1 (O'++ [some [hc key],some [poC key .nilsl]]) sid w (pp.map fun p=>[.ptr p 0 0]):=hS.row.keep fun q hq=>gapp (hS.row.lt hq)
   obtain⟨O2,ha,hr,hl2,hk⟩:=zuf (x:=.ptr (O'.length+1) 0 0) hrow (by rw [List.length_map,hS.len];omega)
   have hlen:(O'++ [some [hc key],some [poC key .nilsl]]).length=O'.length+2:=by simp
   rw [hlen]at hr hl2 hk ha
   have hN:=hS.step hr hl2 hk
   rw [List.length_map,hS.len]at ha
   have ho2:O2[O.length+2]? =some (some [[w,.ptr (O.length+1) 0 0]]):=by
    rw [hk _ (by omega) fun e=>by have:=(hS.sid _ e).1;omega,gapp do'];exact ho
   refine⟨by simp (disch:=first|omega|(simp only [lens,z6,z7,zg,z8,zh,zm,lQt,lQd,List.length_replicate,lQm];first|done|omega)) only [go_sem,hb,ho,tk,l],?_⟩
   simp (disch:=first|omega|(simp only [lens,z6,z7,zg,z8,zh,zm,lQt,lQd,List.length_replicate,lQm];first|done|omega)) only [go_sem,q2,q8,q26,q27,hb,ho,ho2,ha]
   repeat' (first|apply zs_|apply zb_|apply zc_|apply zt_ rfl|apply zf_ rfl|(apply zd_ rfl<;>intro ht<;>try omega)|((first|apply zr_|apply zk_|apply ze_|apply zq_|(apply zG<;>intro ht));all_goals try simp (disch:=first|omega|(simp only [lens,z6,z7,zg,z8,zh,zm,lQt,lQd,List.length_replicate,lQm];first|done|omega)) only [go_sem,q2,q8,q26,q27,hb,ho,ho2,ha]))
   exact⟨m-1,by omega,i+1,_,_,_,by omega,hN,by simp⟩
  ·obtain rfl:i=n:=by omega
   repeat' (first|apply zs_|apply zb_|apply zc_|apply zt_ rfl|apply zf_ rfl|(apply zd_ rfl<;>intro ht<;>try omega)|((first|apply zr_|apply zk_|apply ze_|apply zq_|(apply zG<;>intro ht));all_goals try simp (disch:=first|omega|(simp only [lens,z6,z7,zg,z8,zh,zm,lQt,lQd,List.length_replicate,lQm];first|done|omega)) only [go_sem,q2,q8,q26,q27]))
   exact hS.fin (by omega)
end
section
theorem zty{h:Hdr}(hv:valH h=true):(z2d h).length<=20000:=by
 obtain⟨N,I,e1,e2,h1,h2,h3,h4⟩:=z9o (show z29 h.n h.i h.s h.p=true from hv)
 unfold z2d putH
 have a1:=z23 h.n.toNat
 have a2:=z23 h.i.toNat
 have a3:=z23 h.s.length
 have a4:=zda (l:=h.p)
 have a5:=h.r.2
 unfold z28
 simp only [List.length_append]
 omega
theorem zib:∀{P:List Hdr},(∀q ∈ P,valH q=true)->(z2a P).length<=20011*P.length
 | [],_=>by simp [z2a]
 |q::P,h=>by
  have h1:=zib (P:=P) fun q hq=>h q (List.mem_cons_of_mem _ hq)
  have h2:=zty (h q (by simp))
  have h3:=zfb (z2d q)
  unfold z2a at h1 ⊢
  simp only [List.map_cons,List.flatten_cons,List.length_append,List.length_cons]
  omega
theorem txt_le{k:MT}(h:k.Ok):(k.txt.length:Int)<=65536:=by
 cases k with
 |gt P=>
  obtain⟨h0,h1,h2⟩:=h
  have a:=zib h2
  have b:=z23 P.length
  show ((gtS P).length:Int)<=65536
  unfold gtS
  rw [List.length_cons,List.length_append];omega
 |kn l=>
  obtain⟨h1,h2⟩:=h
  have a:=z6x l
  have b:=z23 l.length
  show ((knS l).length:Int)<=65536
  unfold knS
  rw [List.length_cons,List.length_append];omega
theorem zkq{n len:Nat}{m:MM}(h:m.Ok n)(hl:len<200):z24 n len m.ml=0:=by
 have h1:=h.f
 have h2:=h.t
 have h3:=h.ne
 have h4:=txt_le h.k
 unfold z24
 rw [if_neg (by omega),if_neg (by show ¬((m.f:Int)<0 \/(n:Int)<=m.f \/(m.t:Int)<0 \/(n:Int)<=m.t \/(m.f:Int)=m.t);omega),if_neg (by show ¬(65536:Int)<m.k.txt.length;omega),if_neg (by omega)]
theorem zha{key:Hash}{q:Hdr}(h:z1i key q.n q.i q.r q.s q.p=0):valH q=true:=by
 unfold z1i at h
 cases e:z29 q.n q.i q.s q.p
 ·rw [if_pos e]at h;cases h
 ·exact e
theorem z8c{key:Hash}{h:Hdr}(hc:z1i key h.n h.i h.r h.s h.p=0):addC key [] h=2/\ addL key [] h=[h]:=by
 obtain⟨h1,h2⟩:=zmq (P:=[]) (b:=0) hc rfl (fun⟨e,_⟩=>by simp at e) (by simp)
 rw [h1,h2]
 refine⟨?_,rfl⟩
 rw [if_neg]
 rintro(⟨e,_⟩|e)
 ·omega
 ·simp at e
section
variable {K:Hash} {h:Hdr} (hc:z1i K h.n h.i h.r h.s h.p=0)
include hc
theorem told1:lrnC K [[],[],[]] 0 h=2:=(if_pos (show isN 3 0=true by decide)).trans (z8c hc).1
theorem told2:lrnS K [[],[],[]] 0 h=[[h],[],[]]:=(if_pos (show isN 3 0=true by decide)).trans (by rw [show ([[],[],[]]:List (List Hdr)).getD (0:Int).toNat []=[]from rfl,(z8c hc).2];rfl)
omit hc in
theorem zjh:(⟨1,0,.kn []⟩:MM).Ok 3:=⟨by decide,by decide,by decide,by decide,fun _ h=>by simp at h⟩
theorem zjg:(⟨0,1,.gt [h]⟩:MM).Ok 3:=⟨by show 0<3;omega,by show 1<3;omega,by show 0 ≠ 1;omega,by simp,by simp,fun q hq=>by rw [List.mem_singleton.1 hq];exact zha hc⟩
omit hc in
theorem told3:tlkI [[h],[],[]] [] 1 0=0:=(if_pos (show twoN 3 1 0=true by decide)).trans (zkq (m:=⟨1,0,.kn []⟩) zjh (by decide))
omit hc in
theorem told4:zfc [[h],[],[]] [] 1 0=[⟨1,0,.kn []⟩]:=if_pos told3
omit hc in
theorem told5:zan K [[h],[],[]] [⟨1,0,.kn []⟩] 0=[[h],[],[]]:=if_pos (show atS 3 1 0=0 by decide)
theorem zdm:z16 [h] []=[h]:=by simp [z16,z1z,zha hc,List.filter]
omit hc in
theorem zdn:z16 [h] (hns [h])=[]:=by simp [z16,z1z,hns,List.filter]
omit hc in
theorem miss0(l:List NH):z16 [] l=[]:=rfl
theorem told6:zam [[h],[],[]] [⟨1,0,.kn []⟩] 0=[⟨0,1,.gt [h]⟩]:=by
 have e:repM [[h],[],[]] ⟨1,0,.kn []⟩ []=⟨0,1,.gt [h]⟩:=by
  show (⟨0,1,.gt (z16 [h] [])⟩:MM)=_
  rw [zdm hc]
 refine(if_pos (show atS 3 1 0=0 by decide)).trans ?_
 show (if z16 [h] [] ≠ []/\ z24 3 0 (repM [[h],[],[]] ⟨1,0,.kn []⟩ []).ml=0 then []++ [repM [[h],[],[]] ⟨1,0,.kn []⟩ []]else [])=_
 rw [e,if_pos ⟨by rw [zdm hc];simp,zkq (zjg hc) (by decide)⟩];rfl
theorem told7:zan K [[h],[],[]] [⟨0,1,.gt [h]⟩] 0=[[h],[h],[]]:=by
 refine(if_pos (show atS 3 1 0=0 by decide)).trans ?_
 show [[h],addL K [] h,[]]=_
 rw [(z8c hc).2]
omit hc in
theorem told8:zam [[h],[],[]] [⟨0,1,.gt [h]⟩] 0=[]:=if_pos (show atS 3 1 0=0 by decide)
omit hc in
theorem zbc(P Q:List Hdr)(f n:Nat)(e:z16 Q (hns P)=[]):z1j K (f+1) P Q n=(n,P):=by unfold z1j;rw [if_pos e]
theorem ztw(n:Nat):z1j K 17 [] [h] n=(n+2,[h]):=by
 unfold z1j
 rw [show z16 [h] (hns [])=[h]from zdm hc,if_neg (by simp),show z1e K [] [h]=[h]from(z8c hc).2,if_neg (by simp)]
 exact zbc _ _ _ _ zdn
theorem told9:metN K [[h],[h],[]] 1 2=(4,[[h],[h],[h]]):=by
 unfold metN
 rw [show ([[h],[h],[]]:List (List Hdr)).getD 1 []=[h]from rfl,show ([[h],[h],[]]:List (List Hdr)).getD 2 []=[]from rfl,zbc [h] [] 16 1 (miss0 _)]
 dsimp only
 rw [ztw hc];rfl
omit hc in
theorem zle:metN K [[h],[h],[h]] 1 2=(2,[[h],[h],[h]]):=by
 unfold metN
 rw [show ([[h],[h],[h]]:List (List Hdr)).getD 1 []=[h]from rfl,show ([[h],[h],[h]]:List (List Hdr)).getD 2 []=[h]from rfl,zbc [h] [h] 16 1 zdn]
 dsimp only
 rw [zbc [h] [h] 16 1 zdn];rfl
theorem zlf:metI K [[h],[h],[]] 1 2=.tup [.int .i64 4,.int .i64 0]/\ metS K [[h],[h],[]] 1 2=[[h],[h],[h]]:=by
 refine⟨(if_pos (show twoN 3 1 2=true by decide)).trans ?_,(if_pos (show twoN 3 1 2=true by decide)).trans ?_⟩
 ·rw [show metN K [[h],[h],[]] (1:Int).toNat (2:Int).toNat=metN K [[h],[h],[]] 1 2 from rfl,told9 hc];rfl
 ·rw [show metN K [[h],[h],[]] (1:Int).toNat (2:Int).toNat=metN K [[h],[h],[]] 1 2 from rfl,told9 hc]
omit hc in
theorem told13:metI K [[h],[h],[h]] 1 2=.tup [.int .i64 2,.int .i64 0]/\ metS K [[h],[h],[h]] 1 2=[[h],[h],[h]]:=by
 refine⟨(if_pos (show twoN 3 1 2=true by decide)).trans ?_,(if_pos (show twoN 3 1 2=true by decide)).trans ?_⟩
 ·rw [show metN K [[h],[h],[h]] (1:Int).toNat (2:Int).toNat=metN K [[h],[h],[h]] 1 2 from rfl,zle];rfl
 ·rw [show metN K [[h],[h],[h]] (1:Int).toNat (2:Int).toNat=metN K [[h],[h],[h]] 1 2 from rfl,zle]
theorem POk.one:POk K [h]:=by have:=(POk.nil K).add h;rwa [(z8c hc).2]at this
end
end
section
theorem zur(seed:List UInt8)(a r k b:Nat)(hb:b%8 ≠ 0):z1i (z19 (keyL seed)) (z3l seed a r k b).n (z3l seed a r k b).i (z3l seed a r k b).r (z3l seed a r k b).s (z3l seed a r k b).p=0:=by
 rw [zes seed a r k b hb]
 exact zv0 seed (k%8) (z34 a) (z2y r) (Nat.mod_lt _ (by omega)) (by unfold z34;omega)
attribute [local irreducible] ACallsTo ACallsP
theorem zy3:ACallsTo TC 19 [] [] (.bool true) []:=by
 have hNew:=fun O=>ziu O [107] (by simp)
 refine ACallsTo.of_body q2iok (by simp) fun hw _=> ?_
 repeat' (first|apply zs_|apply zb_|apply zc_|apply zt_ rfl|apply zf_ rfl|(apply zd_ rfl<;>intro ht<;>try omega)|((first|apply zr_|apply zk_|apply ze_|apply zq_|(apply callW.mk_pu;(first|exact(fun _=>hNew _)))|(apply callW.za;(first|exact(hNew _)))|(apply zG<;>intro ht));all_goals try simp (disch:=first|omega|(simp only [lens,z6,z7,zg,z8,zh,zm,lQt,lQd,List.length_replicate,lQm];first|done|omega)) only [go_sem]))
 try simp only [List.nil_append,List.length_nil]
 have hsl:([107]:List UInt8).length<1000000:=by simp
 generalize ([107]:List UInt8)=seed at*
 have hRt:=zff [some [z1n true seed (keyL seed)]] 0 seed (keyL seed) rfl (z39 seed)
 have hN:ACallsP TC 28 [.agg (hc (z19 (keyL seed))),.int .i64 3] [some [z1n true seed (keyL seed)]] (CNewP [some [z1n true seed (keyL seed)]] (z19 (keyL seed)) 3):=zh3 _ _ 3 (by omega) (by omega)
 have hchk:=zur seed 0 0 0 1 (by omega)
 repeat' (first|apply zs_|apply zb_|apply zc_|apply zt_ rfl|apply zf_ rfl|(apply zd_ rfl<;>intro ht<;>try omega)|((first|apply zr_|apply zk_|apply ze_|apply zq_|(apply callW.mk_pu;(first|exact(fun _=>hRt)))|(apply callW.za;(first|exact(hRt)))|(apply zG<;>intro ht));all_goals try simp (disch:=first|omega|(simp only [lens,z6,z7,zg,z8,zh,zm,lQt,lQd,List.length_replicate,lQm];first|done|omega)) only [go_sem]))
 refine callW.mkP (caps:=[]) hN (CNewP.is _ _ 3 (by omega)) ?_
 rintro v O1 ⟨c,own,rfl,hE1,S1,hge⟩
 have S1:CirS PoIs O1 c (z19 (keyL seed)) [[],[],[]] [] own:=S1
 obtain⟨y1,hy1⟩:=hE1
 have g0:O1[0]? =some (some [z1n true seed (keyL seed)]):=by rw [hy1];rfl
 have hOf:ACallsTo TC 12 [.agg [.int .u8 0,.int .u8 0,.int .u8 0,.int .u8 1],.ptr 0 0 0] O1 (.agg (hdrC (z3l seed 0 0 0 1))) O1:=zkp O1 0 seed 0 0 0 1 g0 hsl (by omega) (by omega) (by omega) (by omega)
 generalize z3l seed 0 0 0 1=h at*
 generalize z19 (keyL seed)=K at*
 have hpl:=zdd hchk
 have hl:=zg h
 have hh:=zid h
 have ha:(hdrC h).take 36=hdrC h:=z6s h
 have E:Ext O1 (O1++ [some [hdrC h]]):=⟨_,rfl⟩
 have S2:=S1.ext ploc_is E
 have hB:(O1++ [some [hdrC h]])[O1.length]? =some (some [hdrC h]):=by rw [z1a (Nat.le_refl _),Nat.sub_self];rfl
 have hnB:O1.length ∉ own:=fun e=>by have:=S1.lt ploc_is _ e;omega
 have k0:POks K [[],[],[]]:=fun i hi=>by
  have:([[],[],[]]:List (List Hdr)).getD i []=[]:=by
   match i,hi with
   | 0,_=>rfl
   | 1,_=>rfl
   | 2,_=>rfl
  rw [this];exact POk.nil K
 have k1:POks K [[h],[],[]]:=k0.set 0 (POk.one hchk)
 have k2:POks K [[h],[h],[]]:=k1.set 1 (POk.one hchk)
 have k3:POks K [[h],[h],[h]]:=k2.set 2 (POk.one hchk)
 simp (disch:=first|omega|(simp only [lens,z6,z7,zg,z8,zh,zm,lQt,lQd,List.length_replicate,lQm];first|done|omega)) only [go_sem,hl,ha]
 repeat' (first|apply zs_|apply zb_|apply zc_|apply zt_ rfl|apply zf_ rfl|(apply zd_ rfl<;>intro ht<;>try omega)|((first|apply zr_|apply zk_|apply ze_|apply zq_|(apply callW.mk_pu;(first|exact(fun _=>hOf)))|(apply callW.za;(first|exact(hOf)))|(apply zG<;>intro ht));all_goals try simp (disch:=first|omega|(simp only [lens,z6,z7,zg,z8,zh,zm,lQt,lQd,List.length_replicate,lQm];first|done|omega)) only [go_sem,hl,ha]))
 have hL:=zh2 S2 k0 0 h _ (z1v 32 (hr h.p)) (by omega)
 rw [show sgC h.n h.r h.i h.s (zz 32 (hr h.p))=hdrC h from rfl,told1 hchk,told2 hchk]at hL
 refine callW.mkP (caps:=[]) hL (CirP.is ploc_is z3q S2 _ rfl) ?_
 rintro v O3 ⟨rfl,own3,S3,f3⟩
 have hB3:=f3.get hB hnB
 have hnB3:=f3.nin (slen hB) hnB
 simp (disch:=first|omega|(simp only [lens,z6,z7,zg,z8,zh,zm,lQt,lQd,List.length_replicate,lQm];first|done|omega)) only [go_sem]
 repeat' (first|apply zs_|apply zb_|apply zc_|apply zt_ rfl|apply zf_ rfl|(apply zd_ rfl<;>intro ht<;>try omega)|((first|apply zr_|apply zk_|apply ze_|apply zq_|(apply zG<;>intro ht));all_goals try simp (disch:=first|omega|(simp only [lens,z6,z7,zg,z8,zh,zm,lQt,lQd,List.length_replicate,lQm];first|done|omega)) only [go_sem]))
 have hT:=znt S3 k1 (by simp) (by simp) 1 0
 rw [told3,told4]at hT
 refine callW.mkP (caps:=[]) hT (CirP.is ploc_is z3q S3 _ rfl) ?_
 rintro v O4 ⟨rfl,own4,S4,f4⟩
 have hB4:=f4.get hB3 hnB3
 have hnB4:=f4.nin (slen hB3) hnB3
 simp (disch:=first|omega|(simp only [lens,z6,z7,zg,z8,zh,zm,lQt,lQd,List.length_replicate,lQm];first|done|omega)) only [go_sem]
 repeat' (first|apply zs_|apply zb_|apply zc_|apply zt_ rfl|apply zf_ rfl|(apply zd_ rfl<;>intro ht<;>try omega)|((first|apply zr_|apply zk_|apply ze_|apply zq_|(apply zG<;>intro ht));all_goals try simp (disch:=first|omega|(simp only [lens,z6,z7,zg,z8,zh,zm,lQt,lQd,List.length_replicate,lQm];first|done|omega)) only [go_sem]))
 have hD:=zgz S4 k1 (fun m hm=>by rw [List.mem_singleton.1 hm];exact zjh) (by simp) (by simp) 0
 rw [told5,told6 hchk,show atS ([[h],[],[]]:List (List Hdr)).length ([⟨1,0,.kn []⟩]:List MM).length 0=0 by show atS 3 1 0=0;decide]at hD
 refine callW.mkP (caps:=[]) hD (CirP.is ploc_is z3q S4 _ rfl) ?_
 rintro v O5 ⟨rfl,own5,S5,f5⟩
 have hB5:=f5.get hB4 hnB4
 have hnB5:=f5.nin (slen hB4) hnB4
 simp (disch:=first|omega|(simp only [lens,z6,z7,zg,z8,zh,zm,lQt,lQd,List.length_replicate,lQm];first|done|omega)) only [go_sem]
 repeat' (first|apply zs_|apply zb_|apply zc_|apply zt_ rfl|apply zf_ rfl|(apply zd_ rfl<;>intro ht<;>try omega)|((first|apply zr_|apply zk_|apply ze_|apply zq_|(apply zG<;>intro ht));all_goals try simp (disch:=first|omega|(simp only [lens,z6,z7,zg,z8,zh,zm,lQt,lQd,List.length_replicate,lQm];first|done|omega)) only [go_sem]))
 have hD:=zgz S5 k1 (fun m hm=>by rw [List.mem_singleton.1 hm];exact zjg hchk) (by simp) (by simp) 0
 rw [told7 hchk,told8,show atS ([[h],[],[]]:List (List Hdr)).length ([⟨0,1,.gt [h]⟩]:List MM).length 0=0 by show atS 3 1 0=0;decide]at hD
 refine callW.mkP (caps:=[]) hD (CirP.is ploc_is z3q S5 _ rfl) ?_
 rintro v O6 ⟨rfl,own6,S6,f6⟩
 have hB6:=f6.get hB5 hnB5
 have hnB6:=f6.nin (slen hB5) hnB5
 simp (disch:=first|omega|(simp only [lens,z6,z7,zg,z8,zh,zm,lQt,lQd,List.length_replicate,lQm];first|done|omega)) only [go_sem]
 repeat' (first|apply zs_|apply zb_|apply zc_|apply zt_ rfl|apply zf_ rfl|(apply zd_ rfl<;>intro ht<;>try omega)|((first|apply zr_|apply zk_|apply ze_|apply zq_|(apply zG<;>intro ht));all_goals try simp (disch:=first|omega|(simp only [lens,z6,z7,zg,z8,zh,zm,lQt,lQd,List.length_replicate,lQm];first|done|omega)) only [go_sem]))
 have hPo:ACallsP TC 27 [.ptr c 0 0,.int .i64 1] O6 (PoCopyP O6 K [h]):=zcn S6 k2 1 (by simp)
 refine callW.mkP_ef (caps:=[]) hPo (PoCopyP.is _ _ _) ?_
 rintro v O7 ⟨p7,o7,rfl,E7,P7,_⟩
 have S7:=S6.ext ploc_is E7
 have hB7:O7[O1.length]? =some (some [hdrC h]):=by obtain⟨y,rfl⟩:=E7;rw [gapp (slen hB6)];exact hB6
 have hH7:=P7.has (POk.one hchk).sort (by simp) h.n h.r
 rw [show isP [h] h.n h.r=true from(z8w (POk.one hchk).sort h.n h.r).2 ⟨h,by simp,rfl,rfl⟩]at hH7
 have hM7:=znq S7 (by simp) (by simp)
 rw [show ((([]:List MM).length:Nat):Int)=0 from rfl]at hM7
 refine⟨by simp (disch:=first|omega|(simp only [lens,z6,z7,zg,z8,zh,zm,lQt,lQd,List.length_replicate,lQm];first|done|omega)) only [go_sem,hB7,hl,hh],?_⟩
 simp (disch:=first|omega|(simp only [lens,z6,z7,zg,z8,zh,zm,lQt,lQd,List.length_replicate,lQm];first|done|omega)) only [go_sem,hB6,hB7,hl,hh]
 repeat' (first|apply zs_|apply zb_|apply zc_|apply zt_ rfl|apply zf_ rfl|(apply zd_ rfl<;>intro ht<;>try omega)|((first|apply zr_|apply zk_|apply ze_|apply zq_|(apply callW.mk_pu;(first|exact(fun _=>hH7)|exact(fun _=>hM7)))|(apply callW.za;(first|exact(hH7)|exact(hM7)))|(apply zG<;>intro ht));all_goals try simp (disch:=first|omega|(simp only [lens,z6,z7,zg,z8,zh,zm,lQt,lQd,List.length_replicate,lQm];first|done|omega)) only [go_sem,hB6,hB7,hl,hh]))
 have hMe:=zag S7 k2 (by simp) 1 2
 rw [(zlf hchk).1,(zlf hchk).2]at hMe
 refine callW.mkP (caps:=[]) hMe (CirP.is ploc_is z3q S7 _ rfl) ?_
 rintro v O8 ⟨rfl,own8,S8,f8⟩
 have hB8:=f8.get hB7 hnB6
 have hnB8:=f8.nin (slen hB7) hnB6
 simp (disch:=first|omega|(simp only [lens,z6,z7,zg,z8,zh,zm,lQt,lQd,List.length_replicate,lQm];first|done|omega)) only [go_sem]
 repeat' (first|apply zs_|apply zb_|apply zc_|apply zt_ rfl|apply zf_ rfl|(apply zd_ rfl<;>intro ht<;>try omega)|((first|apply zr_|apply zk_|apply ze_|apply zq_|(apply zG<;>intro ht));all_goals try simp (disch:=first|omega|(simp only [lens,z6,z7,zg,z8,zh,zm,lQt,lQd,List.length_replicate,lQm];first|done|omega)) only [go_sem]))
 have hMe:=zag S8 k3 (by simp) 1 2
 rw [told13.1,told13.2]at hMe
 refine callW.mkP (caps:=[]) hMe (CirP.is ploc_is z3q S8 _ rfl) ?_
 rintro v O9 ⟨rfl,own9,S9,f9⟩
 have hB9:=f9.get hB8 hnB8
 simp (disch:=first|omega|(simp only [lens,z6,z7,zg,z8,zh,zm,lQt,lQd,List.length_replicate,lQm];first|done|omega)) only [go_sem]
 repeat' (first|apply zs_|apply zb_|apply zc_|apply zt_ rfl|apply zf_ rfl|(apply zd_ rfl<;>intro ht<;>try omega)|((first|apply zr_|apply zk_|apply ze_|apply zq_|(apply zG<;>intro ht));all_goals try simp (disch:=first|omega|(simp only [lens,z6,z7,zg,z8,zh,zm,lQt,lQd,List.length_replicate,lQm];first|done|omega)) only [go_sem]))
 have hPo:ACallsP TC 27 [.ptr c 0 0,.int .i64 2] O9 (PoCopyP O9 K [h]):=zcn S9 k3 2 (by simp)
 refine callW.mkP_ef (caps:=[]) hPo (PoCopyP.is _ _ _) ?_
 rintro v σa ⟨pa,oa,rfl,Ea,Pa,_⟩
 have hBa:σa[O1.length]? =some (some [hdrC h]):=by obtain⟨y,rfl⟩:=Ea;rw [gapp (slen hB9)];exact hB9
 have hHa:=Pa.has (POk.one hchk).sort (by simp) h.n h.r
 rw [show isP [h] h.n h.r=true from(z8w (POk.one hchk).sort h.n h.r).2 ⟨h,by simp,rfl,rfl⟩]at hHa
 refine⟨by simp (disch:=first|omega|(simp only [lens,z6,z7,zg,z8,zh,zm,lQt,lQd,List.length_replicate,lQm];first|done|omega)) only [go_sem,hBa,hl,hh],?_⟩
 simp (disch:=first|omega|(simp only [lens,z6,z7,zg,z8,zh,zm,lQt,lQd,List.length_replicate,lQm];first|done|omega)) only [go_sem,hB9,hBa,hl,hh]
 repeat' (first|apply zs_|apply zb_|apply zc_|apply zt_ rfl|apply zf_ rfl|(apply zd_ rfl<;>intro ht<;>try omega)|((first|apply zr_|apply zk_|apply ze_|apply zq_|(apply callW.mk_pu;(first|exact(fun _=>hHa)))|(apply callW.za;(first|exact(hHa)))|(apply zG<;>intro ht));all_goals try simp (disch:=first|omega|(simp only [lens,z6,z7,zg,z8,zh,zm,lQt,lQd,List.length_replicate,lQm];first|done|omega)) only [go_sem,hB9,hBa,hl,hh]))
 exact DownV.pure (τ:=[]) hw z2e
theorem zby(O:Store):ACallsTo TC 19 [] O (.bool true) O:=ACallsTo.frame glok zy3 (by simp [RLs]) O
end
section
structure ActV8 where
 k:Nat
 a:Nat
 b:Nat
 s:Sn
 q:Hdr
 x:AV
 n:Int
 m:Int
def actP8(A:ActV8):List AV:=[.int .u8 A.k,.int .u8 A.a,.int .u8 A.b,.int .u8 A.s.1,.int .u8 A.s.2.1,.int .u8 A.s.2.2.1,.int .u8 A.s.2.2.2]
def actC8(A:ActV8):List AV:=actP8 A++(sgC A.q.n A.q.r A.q.i A.q.s A.x++ [.int .i64 A.n,.int .i64 A.m])
structure ActV8.Ok(A:ActV8):Prop where
 k:A.k<256
 a:A.a<256
 b:A.b<256
 s:SnOk A.s
 x:SlV 32 (hr A.q.p) A.x
 x1:A.q.p ≠ []->A.x=zz 32 (hr A.q.p)
 p:A.q.p.length<=maxLen
 g:A.q.s.length<=maxLen
def acts8(L:List ActV8):List (List AV):=L.map actC8
def CirN(O:Store)(p:AV):Prop:=p=.nilp \/ ∃r,p=.ptr r 0 0/\ O[r]? =some (some [[.nilsl,.nilp]])
attribute [local irreducible] ACallsTo ACallsP
theorem CirN.app{O:Store}{p:AV}(h:CirN O p)(y:Store):CirN (O++y) p:=by
 rcases h with rfl| ⟨r,rfl,h⟩
 ·exact .inl rfl
 ·exact .inr ⟨r,rfl,by rw [gapp (slen h)];exact h⟩
end
section
def logC:List UInt8:=[108,111,103]
theorem zdk(key:Hash)(PS:List (List Hdr))(i k:Int):(metS key PS i k).length=PS.length:=by
 unfold metS
 split
 ·exact zro ..
 ·rfl
theorem zrq{key:Hash}{PS:List (List Hdr)}(h:POks key PS)(i k:Int):POks key (metS key PS i k):=by
 unfold metS
 split
 ·rename_i ht
  unfold twoN at ht
  simp only [Bool.and_eq_true]at ht
  obtain⟨⟨hi,hk⟩,_⟩:=ht
  obtain⟨a,rfl,ha⟩:=z6u hi
  obtain⟨b,rfl,hb⟩:=z6u hk
  exact zrp h ha hb
 ·exact h
end
section
def HLe(P Q:List Hdr):Prop:=∀n r,z17 P n r->z17 Q n r
theorem HLe.refl(P:List Hdr):HLe P P:=fun _ _ h=>h
theorem HLe.trans{P Q R:List Hdr}(h:HLe P Q)(h2:HLe Q R):HLe P R:=fun n r h3=>h2 n r (h n r h3)
theorem HLe.nil(P:List Hdr):HLe [] P:=fun n r ⟨w,hw,_⟩=>by simp at hw
theorem mem_hns{P:List Hdr}{n:Int}{r:Hash}:(n,r) ∈ hns P ↔ z17 P n r:=by
 unfold hns z17
 rw [List.mem_map]
 constructor
 ·rintro⟨q,hq,e⟩
  injection e with e1 e2
  exact⟨q,hq,e1,e2⟩
 ·rintro⟨q,hq,e1,e2⟩
  exact⟨q,hq,by rw [e1,e2]⟩
theorem zdv{α:Type}[DecidableEq α]:∀{l m:List α},l.Nodup->(∀x ∈ l,x ∈ m)->l.length<=m.length
 | [],m,_,_=>Nat.zero_le _
 |a::l,m,h,hs=>by
  have h1:=hs a (by simp)
  obtain⟨hn,hd⟩:=List.nodup_cons.1 h
  have:=zdv (l:=l) (m:=m.erase a) hd fun x hx=>(List.mem_erase_of_ne (fun e=>hn (by rw [<-e];exact hx))).2 (hs x (by simp [hx]))
  rw [List.length_erase_of_mem h1]at this
  have:=List.length_pos_of_mem h1
  rw [List.length_cons];omega
theorem zdf:∀{P:List Hdr},PSort P->(hns P).Nodup
 | [],_=>by simp [hns]
 |q::P,h=>by
  have ih:=zdf h.tail
  unfold hns at ih ⊢
  rw [List.map_cons,List.nodup_cons]
  refine⟨fun hm=> ?_,ih⟩
  obtain⟨w,hw,e⟩:=List.mem_map.1 hm
  injection e with e1 e2
  have a:=h.head hw
  rw [e1,e2]at a
  have:poI q.n q.r q.n q.r=0:=po_zero.2 ⟨rfl,rfl⟩
  omega
theorem HLe.len{P Q:List Hdr}(hP:PSort P)(h:HLe P Q):P.length<=Q.length:=by
 have:=zdv (zdf hP) (m:=hns Q) fun x hx=>mem_hns.2 (h x.1 x.2 (mem_hns.1 hx))
 rwa [z68,z68]at this
theorem HLe.lt{P Q:List Hdr}(hP:PSort P)(h:HLe P Q){n:Int}{r:Hash}(hQ:z17 Q n r)(hn:¬z17 P n r):P.length<Q.length:=by
 have hd:((n,r)::hns P).Nodup:=List.nodup_cons.2 ⟨fun hm=>hn (mem_hns.1 hm),zdf hP⟩
 have:=zdv hd (m:=hns Q) fun x hx=>by
  rcases List.mem_cons.1 hx with rfl|h2
  ·exact mem_hns.2 hQ
  ·exact mem_hns.2 (h x.1 x.2 (mem_hns.1 h2))
 rw [List.length_cons,z68,z68]at this;omega
theorem z7d(key:Hash)(P:List Hdr)(q:Hdr):HLe P (addL key P q):=fun n r ⟨w,hw,h⟩=>by
 unfold addL
 split
 ·exact⟨w,insL_mem.2 (.inr hw),h⟩
 ·exact⟨w,hw,h⟩
theorem zcc{key:Hash}{P:List Hdr}{q:Hdr}{n:Int}{r:Hash}(h:z17 (addL key P q) n r):z17 P n r \/(q.n=n/\ q.r=r/\ z1i key q.n q.i q.r q.s q.p=0):=by
 obtain⟨w,hw,h1,h2⟩:=h
 rcases zgi hw with h3| ⟨rfl,h3⟩
 ·exact .inl ⟨w,h3,h1,h2⟩
 ·exact .inr ⟨h1,h2,h3⟩
theorem zmr{key:Hash}{P:List Hdr}(hP:POk key P){q:Hdr}(hq:z1i key q.n q.i q.r q.s q.p=0)(hf:addC key P q ≠ 4):z17 (addL key P q) q.n q.r:=by
 cases h1:isP P q.n q.r with
 |true=>exact z7d key P q _ _ ((z8w hP.sort _ _).1 h1)
 |false=>
  by_cases h2:16<=P.length
  ·exfalso;apply hf;unfold addC;rw [if_neg (by omega),if_neg (by rw [h1];simp),if_pos h2]
  ·exact((zcf q hP hq (by omega)).2.2 _ _).2 (.inr ⟨rfl,rfl⟩)
theorem zcd{key:Hash}{P A:List Hdr}{q:Hdr}(h:HLe P A)(hq:z1i key q.n q.i q.r q.s q.p=0->z17 A q.n q.r):HLe (addL key P q) A:=fun n r hh=>by
 rcases zcc hh with h1| ⟨rfl,rfl,h1⟩
 ·exact h _ _ h1
 ·exact hq h1
theorem z8d(key:Hash):∀(l P:List Hdr),HLe P (z1e key P l)
 | [],P=>HLe.refl P
 |q::l,P=>(z7d key P q).trans (z8d key l (addL key P q))
theorem zcg{key:Hash}{A:List Hdr}:∀{l P:List Hdr},HLe P A->(∀q ∈ l,z17 A q.n q.r)->HLe (z1e key P l) A
 | [],P,h,_=>h
 |q::l,P,h,hl=>zcg (l:=l) (P:=addL key P q) (zcd h fun _=>hl q (by simp)) fun w hw=>hl w (by simp [hw])
theorem zdp{P:List Hdr}{K:List NH}{q:Hdr}(h:q ∈ z16 P K):z17 P q.n q.r:=⟨q,(z7q h).1,rfl,rfl⟩
theorem zmv{key:Hash}{P A:List Hdr}(hP:POk key P)(hA:A.length<=16)(h:HLe P A){q:Hdr}(hq:z1i key q.n q.i q.r q.s q.p=0)(hqA:z17 A q.n q.r):addC key P q ≠ 4:=by
 intro e
 have h1:isP P q.n q.r=false:=by
  cases h1:isP P q.n q.r with
  |false=>rfl
  |true=>unfold addC at e;rw [if_neg (by omega),if_pos h1]at e;omega
 have hn:¬z17 P q.n q.r:=fun hh=>by rw [(z8w hP.sort _ _).2 hh]at h1;cases h1
 have:=h.lt hP.sort hqA hn
 unfold addC at e
 rw [if_neg (by omega),if_neg (by rw [h1];simp),if_neg (by omega)]at e
 split at e<;>omega
theorem add_in{key:Hash}{P A:List Hdr}(hP:POk key P)(hA:A.length<=16)(h:HLe P A){q:Hdr}(hq:z1i key q.n q.i q.r q.s q.p=0)(hqA:z17 A q.n q.r)(n:Int)(r:Hash):z17 (addL key P q) n r ↔ z17 P n r \/(q.n=n/\ q.r=r):=by
 constructor
 ·intro hh
  rcases zcc hh with h1| ⟨h1,h2,_⟩
  ·exact .inl h1
  ·exact .inr ⟨h1,h2⟩
 ·rintro(h1| ⟨rfl,rfl⟩)
  ·exact z7d key P q _ _ h1
  ·exact zmr hP hq (zmv hP hA h hq hqA)
theorem zgl{key:Hash}{A:List Hdr}(hA:A.length<=16):∀{l P:List Hdr},POk key P->HLe P A->(∀q ∈ l,z1i key q.n q.i q.r q.s q.p=0/\ z17 A q.n q.r)->∀n r,z17 (z1e key P l) n r ↔ z17 P n r \/z17 l n r
 | [],P,_,_,_,n,r=>⟨.inl,fun h=>h.elim id fun⟨w,hw,_⟩=>by simp at hw⟩
 |q::l,P,hP,h,hl,n,r=>by
  obtain⟨h1,h2⟩:=hl q (by simp)
  have ih:=zgl hA (l:=l) (hP.add q) (zcd h fun _=>h2) (fun w hw=>hl w (by simp [hw])) n r
  rw [show z1e key P (q::l)=z1e key (addL key P q) l from rfl,ih,add_in hP hA h h1 h2,or_assoc]
  refine or_congr_right ⟨?_,?_⟩
  ·rintro(⟨e1,e2⟩| ⟨w,hw,h3⟩)
   ·exact⟨q,by simp,e1,e2⟩
   ·exact⟨w,by simp [hw],h3⟩
  ·rintro⟨w,hw,h3⟩
   rcases List.mem_cons.1 hw with rfl|hw
   ·exact .inl h3
   ·exact .inr ⟨w,hw,h3⟩
def z3p(P Q:List Hdr):Nat:=(Q.filter (z1z (hns P))).length
theorem zj0(P Q:List Hdr):z3p P Q<=Q.length:=List.length_filter_le _ _
theorem zr7{key:Hash}{P Q:List Hdr}(hQ:POk key Q)(h:z3p P Q=0):HLe Q P:=by
 rintro n r ⟨w,hw,rfl,rfl⟩
 have h1:=List.eq_nil_of_length_eq_zero h
 rw [List.filter_eq_nil_iff]at h1
 have h2:=h1 w hw
 unfold z1z at h2
 rw [hQ.val w hw]at h2
 simp at h2
 exact mem_hns.1 h2
theorem zrt{P Q:List Hdr}(h:z16 Q (hns P)=[]):z3p P Q=0:=by
 have:=congrArg List.length h
 unfold z16 at this
 rw [List.length_take]at this
 unfold z3p
 simp at this
 simp
 exact this
theorem zr6{P P' Q:List Hdr}(h:HLe P P')(hX:HLe (z16 Q (hns P)) P'):z3p P' Q<=z3p P Q-3:=by
 have e:Q.filter (z1z (hns P'))=(Q.filter (z1z (hns P))).filter (z1z (hns P')):=by
  rw [List.filter_filter]
  refine List.filter_congr fun q hq=> ?_
  unfold z1z
  by_cases hp:(q.n,q.r) ∈ hns P'
  ·simp [hp]
  ·have:(q.n,q.r) ∉ hns P:=fun h2=>hp (mem_hns.2 (h _ _ (mem_hns.1 h2)))
   simp [hp,this]
 unfold z3p
 rw [e]
 have hx:(z16 Q (hns P)).filter (z1z (hns P'))=[]:=by
  rw [List.filter_eq_nil_iff]
  intro q hq
  have:=mem_hns.2 (hX q.n q.r ⟨q,hq,rfl,rfl⟩)
  unfold z1z
  simp [this]
 unfold z16 at hx
 rw [show (Q.filter (z1z (hns P))).filter (z1z (hns P'))=((Q.filter (z1z (hns P))).take 3++(Q.filter (z1z (hns P))).drop 3).filter (z1z (hns P'))by rw [List.take_append_drop],List.filter_append,hx,List.nil_append]
 have:=List.length_filter_le (z1z (hns P')) ((Q.filter (z1z (hns P))).drop 3)
 rw [List.length_drop]at this
 exact this
theorem ze6(key:Hash)(Q:List Hdr):∀(f:Nat) (P:List Hdr) (n:Nat),HLe P (z1j key f P Q n).2
 | 0,P,n=>HLe.refl P
 |f+1,P,n=>by
  unfold z1j
  split
  ·exact HLe.refl P
  ·split
   ·exact z8d key (z16 Q (hns P)) P
   ·exact HLe.trans (z8d key (z16 Q (hns P)) P) (ze6 key Q f _ _)
theorem zbb{key:Hash}{Q A:List Hdr}(hQ:HLe Q A):∀{f:Nat} {P:List Hdr} {n:Nat},HLe P A->HLe (z1j key f P Q n).2 A
 | 0,P,n,h=>h
 |f+1,P,n,h=>by
  have h2:HLe (z1e key P (z16 Q (hns P))) A:=zcg h fun q hq=>hQ _ _ (zdp hq)
  unfold z1j
  split
  ·exact h
  ·split
   ·exact h2
   ·exact zbb hQ h2
theorem ze5{key:Hash}{Q A:List Hdr}(hA:A.length<=16)(hQ:POk key Q)(hQA:HLe Q A):∀{f:Nat} {P:List Hdr} (n:Nat),POk key P->HLe P A->z3p P Q<f->HLe Q (z1j key f P Q n).2
 | 0,P,n,_,_,h=>by omega
 |f+1,P,n,hP,h,hf=>by
  have hXa:∀q ∈ z16 Q (hns P),z1i key q.n q.i q.r q.s q.p=0/\ z17 A q.n q.r:=fun q hq=>⟨hQ.chk q (z7q hq).1,hQA _ _ (zdp hq)⟩
  have hin:=zgl hA hP h hXa
  have h2:HLe (z1e key P (z16 Q (hns P))) A:=zcg h fun q hq=>hQA _ _ (zdp hq)
  unfold z1j
  split
  ·rename_i h0
   exact zr7 hQ (zrt h0)
  ·rename_i h0
   split
   ·rename_i he
    exfalso
    obtain⟨q,hq⟩:=List.exists_mem_of_ne_nil _ h0
    have h3:z17 (z1e key P (z16 Q (hns P))) q.n q.r:=(hin _ _).2 (.inr ⟨q,hq,rfl,rfl⟩)
    have h4:¬z17 P q.n q.r:=fun hh=>(z7q hq).2.2 (mem_hns.2 hh)
    have:=HLe.lt hP.sort (z8d key (z16 Q (hns P)) P) h3 h4
    omega
   ·have h5:=zr6 (P:=P) (Q:=Q) (z8d key (z16 Q (hns P)) P) fun n r hh=>(hin n r).2 (.inr hh)
    have h6:0<z3p P Q:=by
     have:=List.length_pos_iff.2 h0
     unfold z16 at this
     rw [List.length_take]at this
     unfold z3p;omega
    exact ze5 hA hQ hQA _ (z7e hP _) h2 (by omega)
theorem met_in{key:Hash}{PS:List (List Hdr)}{A:List Hdr}(hA:A.length<=16)(hok:POks key PS)(hle:∀j,j<PS.length->HLe (PS.getD j []) A){i k:Nat}(hi:i<PS.length)(hk:k<PS.length)(hik:i ≠ k):
  (∀n r,z17 ((metN key PS i k).2.getD i []) n r ↔ z17 (PS.getD i []) n r \/z17 (PS.getD k []) n r) ∧
  (∀n r,z17 ((metN key PS i k).2.getD k []) n r ↔ z17 (PS.getD i []) n r \/z17 (PS.getD k []) n r) ∧
  ∀j,j ≠ i->j ≠ k->(metN key PS i k).2.getD j []=PS.getD j []:=by
 have ha:=hok i hi
 have hb:=hok k hk
 have la:=hle i hi
 have lb:=hle k hk
 have hna:z3p (PS.getD i []) (PS.getD k [])<17:=by have:=zj0 (PS.getD i []) (PS.getD k []);have:=hb.len;omega
 have p1:=ze6 key (PS.getD k []) 17 (PS.getD i []) 1
 have p2:=ze5 hA hb lb 1 ha la hna
 have ok1:=z94 key (PS.getD k []) 17 1 ha
 have le1:HLe (z1j key 17 (PS.getD i []) (PS.getD k []) 1).2 A:=zbb lb la
 have f1:∀B,HLe (PS.getD i []) B->HLe (PS.getD k []) B->HLe (z1j key 17 (PS.getD i []) (PS.getD k []) 1).2 B:=fun B h1 h2=>zbb h2 h1
 have e2:(metN key PS i k).2=(PS.set i (z1j key 17 (PS.getD i []) (PS.getD k []) 1).2).set k (z1j key 17 (PS.getD k []) (z1j key 17 (PS.getD i []) (PS.getD k []) 1).2 1).2:=rfl
 rw [e2]
 generalize (z1j key 17 (PS.getD i []) (PS.getD k []) 1).2=R at*
 have hnb:z3p (PS.getD k []) R<17:=by have:=zj0 (PS.getD k []) R;have:=ok1.len;omega
 have q1:=ze6 key R 17 (PS.getD k []) 1
 have q2:=ze5 hA ok1 le1 1 hb lb hnb
 have f2:∀B,HLe (PS.getD k []) B->HLe R B->HLe (z1j key 17 (PS.getD k []) R 1).2 B:=fun B h1 h2=>zbb h2 h1
 generalize (z1j key 17 (PS.getD k []) R 1).2=S at*
 have hU:∀n r,z17 R n r ↔ z17 (PS.getD i []) n r \/z17 (PS.getD k []) n r:=by
  intro n r
  constructor
  ·intro h
   have hle2:=f1 (PS.getD i []++PS.getD k []) (fun n r ⟨w,hw,h⟩=>⟨w,by simp only [List.mem_append];exact .inl hw,h⟩) (fun n r ⟨w,hw,h⟩=>⟨w,by simp only [List.mem_append];exact .inr hw,h⟩)
   obtain⟨w,hw,h3⟩:=hle2 n r h
   rcases List.mem_append.1 hw with h4|h4
   ·exact .inl ⟨w,h4,h3⟩
   ·exact .inr ⟨w,h4,h3⟩
  ·rintro(h|h)
   ·exact p1 n r h
   ·exact p2 n r h
 refine⟨fun n r=> ?_,fun n r=> ?_,fun j h1 h2=> ?_⟩
 ·rw [show ((PS.set i R).set k S).getD i []=R by rw [List.getD_eq_getElem?_getD,List.getElem?_set_ne (fun e=>hik e.symm)];simp [hi]]
  exact hU n r
 ·rw [show ((PS.set i R).set k S).getD k []=S by simp [List.getD,hk]]
  constructor
  ·intro h
   exact(hU n r).1 (f2 R (fun n r h=>(hU n r).2 (.inr h)) (HLe.refl R) n r h)
  ·intro h
   exact q2 n r ((hU n r).2 h)
 ·rw [List.getD_eq_getElem?_getD,List.getD_eq_getElem?_getD,List.getElem?_set_ne (fun e=>h2 e.symm),List.getElem?_set_ne (fun e=>h1 e.symm)]
end
section
def HSm(P Q:List Hdr):Prop:=∀n r,z17 P n r ↔ z17 Q n r
theorem zgh{key:Hash}{P:List Hdr}{q:Hdr}:addC key P q=0 ↔ z1i key q.n q.i q.r q.s q.p ≠ 0:=by
 unfold addC
 constructor
 ·intro h h0
  rw [if_neg (by omega)]at h
  split at h
  ·omega
  ·split at h
   ·omega
   ·split at h<;>omega
 ·intro h;rw [if_pos h]
theorem zmt(key:Hash)(P:List Hdr)(q:Hdr):(addL key P q).length<=P.length+1:=by rw [zce];split<;>omega
theorem zi8{PS:List (List Hdr)}{i j:Nat}(h:i ≠ j)(P:List Hdr):(PS.set i P).getD j []=PS.getD j []:=by simp [List.getD,List.getElem?_set_ne h]
structure LA(key:Hash)(n k:Nat)(PS:List (List Hdr))(A:List Hdr):Prop where
 ln:PS.length=n
 ok:POks key PS
 a:POk key A
 al:A.length<=k
 le:∀j,j<n->HLe (PS.getD j []) A
 mem:∀m r,z17 A m r->∃j,j<n/\ z17 (PS.getD j []) m r
theorem LA.nil(key:Hash)(n:Nat):LA key n 0 (List.replicate n []) [] where
 ln:=List.length_replicate ..
 ok i hi:=by
  rw [show (List.replicate n ([]:List Hdr)).getD i []=[]by rw [List.getD_eq_getElem?_getD,List.getElem?_replicate];split<;>rfl];exact POk.nil key
 a:=POk.nil key
 al:=Nat.le_refl _
 le j hj:=by
  rw [show (List.replicate n ([]:List Hdr)).getD j []=[]by rw [List.getD_eq_getElem?_getD,List.getElem?_replicate];split<;>rfl];exact HLe.nil _
 mem m r h:=by obtain⟨w,hw,_⟩:=h;simp at hw
theorem LA.step{key:Hash}{n k:Nat}{PS:List (List Hdr)}{A:List Hdr}(h:LA key n k PS A)(hk:k<16){j:Nat}(hj:j<n)(q:Hdr):
  LA key n (k+1) (lrnS key PS j q) (addL key A q)/\ (lrnC key PS j q=0 ↔ addC key A q=0):=by
 have hjl:j<PS.length:=by rw [h.ln];exact hj
 have hN:isN PS.length (j:Int)=true:=decide_eq_true ⟨by omega,by omega⟩
 have e1:lrnS key PS j q=PS.set j (addL key (PS.getD j []) q):=by unfold lrnS;rw [if_pos hN];rfl
 have e2:lrnC key PS j q=addC key (PS.getD j []) q:=by unfold lrnC;rw [if_pos hN];rfl
 have hpl:=(h.le j hj).len (h.ok j hjl).sort
 have hal:=h.al
 refine⟨⟨by rw [zj7];exact h.ln,zrl h.ok _ _,h.a.add q,by have:=zmt key A q;omega,fun i hi=> ?_,fun m r hm=> ?_⟩,by rw [e2,zgh,zgh]⟩
 ·rw [e1]
  by_cases e:j=i
  ·subst e
   rw [z7l hjl]
   refine zcd ((h.le j hj).trans (z7d key A q)) fun h0=> ?_
   exact((zcf q h.a h0 (by omega)).2.2 _ _).2 (.inr ⟨rfl,rfl⟩)
  ·rw [zi8 e];exact(h.le i hi).trans (z7d key A q)
 ·rcases zcc hm with h1| ⟨rfl,rfl,h0⟩
  ·obtain⟨i,hi,h2⟩:=h.mem m r h1
   refine⟨i,hi,?_⟩
   rw [e1]
   by_cases e:j=i
   ·subst e;rw [z7l hjl];exact z7d key _ q _ _ h2
   ·rw [zi8 e];exact h2
  ·refine⟨j,hj,?_⟩
   rw [e1,z7l hjl]
   exact((zcf q (h.ok j hjl) h0 (by omega)).2.2 _ _).2 (.inr ⟨rfl,rfl⟩)
theorem zll{n i k:Nat}(hi:i<n)(hk:k<n)(h:i ≠ k):twoN n i k=true:=by
 unfold twoN isN
 rw [decide_eq_true (show (0:Int)<=i/\ (i:Int)<n by omega),decide_eq_true (show (0:Int)<=k/\ (k:Int)<n by omega),decide_eq_false (by omega)];rfl
theorem zdl{key:Hash}{PS:List (List Hdr)}{i k:Nat}(hi:i<PS.length)(hk:k<PS.length)(h:i ≠ k):metI key PS i k=.tup [.int .i64 (metN key PS i k).1,.int .i64 0]/\ metS key PS i k=(metN key PS i k).2:=by
 unfold metI metS
 rw [if_pos (zll hi hk h),if_pos (zll hi hk h)]
 exact⟨rfl,rfl⟩
structure LM(key:Hash)(n:Nat)(PS:List (List Hdr))(A:List Hdr):Prop where
 ln:PS.length=n
 ok:POks key PS
 a:POk key A
 le:∀j,j<n->HLe (PS.getD j []) A
theorem LM.met{key:Hash}{n:Nat}{PS:List (List Hdr)}{A:List Hdr}(h:LM key n PS A){i k:Nat}(hi:i<n)(hk:k<n)(hik:i ≠ k):
  LM key n (metS key PS i k) A/\ (∀m r,z17 ((metS key PS i k).getD i []) m r ↔ z17 (PS.getD i []) m r \/z17 (PS.getD k []) m r) ∧
  (∀m r,z17 ((metS key PS i k).getD k []) m r ↔ z17 (PS.getD i []) m r \/z17 (PS.getD k []) m r)/\ ∀j,j ≠ i->j ≠ k->(metS key PS i k).getD j []=PS.getD j []:=by
 have hn:=h.ln
 obtain⟨_,e⟩:=zdl (key:=key) (PS:=PS) (i:=i) (k:=k) (by omega) (by omega) hik
 obtain⟨h1,h2,h3⟩:=met_in h.a.len h.ok (fun j hj=>h.le j (by omega)) (i:=i) (k:=k) (by omega) (by omega) hik
 refine⟨⟨by rw [zdk];exact hn,zrq h.ok _ _,h.a,fun j hj=> ?_⟩,?_⟩
 ·rw [e]
  by_cases e1:j=i
  ·subst e1;exact fun m r hm=>((h1 m r).1 hm).elim (h.le _ hi m r) (h.le _ hk m r)
  ·by_cases e2:j=k
   ·subst e2;exact fun m r hm=>((h2 m r).1 hm).elim (h.le _ hi m r) (h.le _ hk m r)
   ·rw [h3 j e1 e2];exact h.le j hj
 ·rw [e];exact⟨h1,h2,h3⟩
structure LF(key:Hash)(n i:Nat)(P0 PS:List (List Hdr))(A:List Hdr):Prop where
 m:LM key n PS A
 last:∀m r,z17 (PS.getD (i-1) []) m r ↔ ∃j,j<i/\ z17 (P0.getD j []) m r
 two:2<=i->HSm (PS.getD (i-2) []) (PS.getD (i-1) [])
 rest:∀j,i<=j->PS.getD j []=P0.getD j []
theorem LA.start{key:Hash}{n k:Nat}{PS:List (List Hdr)}{A:List Hdr}(h:LA key n k PS A):LF key n 1 PS PS A where
 m:=⟨h.ln,h.ok,h.a,h.le⟩
 last m r:=⟨fun h=>⟨0,by omega,h⟩,fun⟨j,hj,h⟩=>by
  have e:j=0:=by omega
  subst e;exact h⟩
 two h:=by omega
 rest j hj:=rfl
theorem LF.step{key:Hash}{n i:Nat}{P0 PS:List (List Hdr)}{A:List Hdr}(h:LF key n i P0 PS A)(h1:1<=i)(hi:i<n):LF key n (i+1) P0 (metS key PS ((i-1:Nat):Int) i) A:=by
 obtain⟨k0,k1,k2,k3⟩:=h.m.met (i:=i-1) (k:=i) (by omega) hi (by omega)
 refine⟨k0,fun m r=> ?_,fun _ m r=> ?_,fun j hj=> ?_⟩
 ·rw [Nat.add_sub_cancel,k2,h.last,h.rest i (Nat.le_refl _)]
  constructor
  ·rintro(⟨j,hj,h2⟩|h2)
   ·exact⟨j,by omega,h2⟩
   ·exact⟨i,by omega,h2⟩
  ·rintro⟨j,hj,h2⟩
   by_cases e:j=i
   ·subst e;exact .inr h2
   ·exact .inl ⟨j,by omega,h2⟩
 ·rw [show i+1-2=i-1 by omega,Nat.add_sub_cancel,k1,k2]
 ·rw [k3 j (by omega) (by omega)];exact h.rest j (by omega)
structure LB(key:Hash)(n i:Nat)(PS:List (List Hdr))(A:List Hdr):Prop where
 m:LM key n PS A
 all:∀j,i<=j->j<n->HSm (PS.getD j []) A
theorem LF.turn{key:Hash}{n k:Nat}{P0 PS:List (List Hdr)}{A:List Hdr}(h:LF key n n P0 PS A)(h2:2<=n)(h0:LA key n k P0 A):LB key n (n-2) PS A:=by
 have hl:HSm (PS.getD (n-1) []) A:=fun m r=>by
  rw [h.last]
  constructor
  ·rintro⟨j,hj,h3⟩;exact h0.le j hj m r h3
  ·intro h3;exact h0.mem m r h3
 refine⟨h.m,fun j hj hn=> ?_⟩
 by_cases e:j=n-1
 ·rw [e];exact hl
 ·rw [show j=n-2 by omega];exact fun m r=>(h.two h2 m r).trans (hl m r)
theorem LB.step{key:Hash}{n i:Nat}{PS:List (List Hdr)}{A:List Hdr}(h:LB key n i PS A)(h1:0<i)(hi:i<n):LB key n (i-1) (metS key PS i ((i-1:Nat):Int)) A:=by
 obtain⟨k0,k1,k2,k3⟩:=h.m.met (i:=i) (k:=i-1) hi (by omega) (by omega)
 have ha:=h.all i (Nat.le_refl _) hi
 have hb:=h.m.le (i-1) (by omega)
 have hu:∀m r,(z17 (PS.getD i []) m r \/z17 (PS.getD (i-1) []) m r) ↔ z17 A m r:=fun m r=>⟨fun h=>h.elim (ha m r).1 (hb m r),fun h=> .inl ((ha m r).2 h)⟩
 refine⟨k0,fun j hj hn m r=> ?_⟩
 by_cases e:j=i
 ·subst e;rw [k1];exact hu m r
 ·by_cases e2:j=i-1
  ·subst e2;rw [k2];exact hu m r
  ·rw [k3 j e e2];exact h.all j (by omega) hn m r
theorem zph{P A:List Hdr}{o o':Option Nat}(hP:PSort P)(hA:PSort A)(h:HSm P A)(h1:ForkIs P o)(h2:ForkIs A o'):o.isSome=o'.isSome:=by
 have e:∀{P A:List Hdr},HSm P A->(∃x ∈ P,∃y ∈ P,x.n=y.n/\ x.r ≠ y.r)->∃x ∈ A,∃y ∈ A,x.n=y.n/\ x.r ≠ y.r:=by
  rintro P A h ⟨x,hx,y,hy,h1,h2⟩
  obtain⟨u,hu,u1,u2⟩:=(h x.n x.r).1 ⟨x,hx,rfl,rfl⟩
  obtain⟨v,hv,v1,v2⟩:=(h y.n y.r).1 ⟨y,hy,rfl,rfl⟩
  exact⟨u,hu,v,hv,by rw [u1,v1,h1],by rw [u2,v2];exact h2⟩
 have:o.isSome=true ↔ o'.isSome=true:=by
  rw [zhz hP h1,zhz hA h2]
  exact⟨e h,e fun n r=>(h n r).symm⟩
 cases h3:o.isSome<;>cases h4:o'.isSome<;>simp_all
theorem zhy(P:List Hdr)(o:Option Nat):∃u v:Hdr,zas P o=.tup [.agg (hdrC u),.agg (hdrC v),.bool o.isSome]:=by
 cases o with
 |none=>exact⟨_,_,rfl⟩
 |some j=>exact⟨_,_,rfl⟩
end
end Am
end Go.Proofs.YtcdcmgjnbjoajaaGreatDoor
