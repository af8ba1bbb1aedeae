import Derived.Test.YtcdcmgjnbjoajaaGreatDoorK2e976bd40
import Derived.Test.YtcdcmgjnbjoajaaGreatDoorK42aa6c154
import Derived.Test.YtcdcmgjnbjoajaaGreatDoorK3055692e9
import Derived.Test.YtcdcmgjnbjoajaaGreatDoorRows
import Derived.Test.YtcdcmgjnbjoajaaGreatDoorCards
import Derived.Test.YtcdcmgjnbjoajaaGreatDoorTie
import Derived.ProofKit
import Derived.LaidMore
import Derived.OpenShut
import Derived.Stop.Joined
import Derived.SevenTiedAt
import Derived.MakeChecks
set_option linter.unusedSimpArgs false
set_option linter.unusedVariables false
open Nat (reduceEqDiff reduceAdd reduceMul reduceSub reduceLeDiff)
open Int (reduceToNat reducePow)
open Nat renaming reduceEqDiff -> nQ1, reduceBEq -> nQ2, reduceAdd -> nQ3, reduceMul -> nQ4, reduceSub -> nQ5, reduceLeDiff -> nQ6
open Int renaming reduceToNat -> nQ7, reducePow -> nQ8
open List renaming length_reverse -> lQr, length_map -> lQm, length_take -> lQt, length_drop -> lQd, length_set -> lQs
set_option maxHeartbeats 16000000
attribute [local go_sem_proc] Nat.reduceEqDiff Nat.reduceBEq Nat.reduceAdd Nat.reduceMul Nat.reduceSub Nat.reduceLeDiff Int.reduceToNat Int.reducePow
namespace Go.Proofs.YtcdcmgjnbjoajaaGreatDoor
namespace Am
section
set_option maxRecDepth 10000
def q1wr0:yW:=[
 yI 3 (.box (.t 1)),
 yK 4 .i64 0]
def q1wr1:yW:=[
 yM 6 0,
 yC 7 111 6,
 yM 5 7]
def q1wr2:yW:=[
 yK 4 .i64 1]
def q1wc3:yX:=yq q1wr2 .ret
def q1wr4:yW:=[
 yF 9 0 3,
 yL 10 false 1 9,
 yJ 11 .lss 10 .i64 0,
 yM 12 11,
 yT 13 12 false 0 3,
 ⟨some 14,some (12,false),.rd,.load false 1 (.t 13)⟩,
 yV 15 12 false 0,
 yG 16 12 false (.nilc (.t 15)),
 yT 17 12 false 0 16,
 ⟨some 18,some (12,false),.rd,.load false 1 (.t 17)⟩,
 yG 19 12 false (.bin .geq .none (.t 14) (.t 18)),
 yP 20 12 19,
 yM 21 20,
 yT 22 21 false 1 3,
 yU 23 21 false false 1 22,
 yG 24 21 false (.bin .lss .none (.t 23) (.v (.int .i64 0))),
 yP 25 21 24,
 yM 26 25,
 yT 27 26 false 1 3,
 ⟨some 28,some (26,false),.rd,.load false 1 (.t 27)⟩,
 yV 29 26 false 0,
 yG 30 26 false (.nilc (.t 29)),
 yT 31 26 false 0 30,
 ⟨some 32,some (26,false),.rd,.load false 1 (.t 31)⟩,
 yG 33 26 false (.bin .geq .none (.t 28) (.t 32)),
 yP 34 26 33,
 yM 35 34,
 yT 36 35 false 0 3,
 ⟨some 37,some (35,false),.rd,.load false 1 (.t 36)⟩,
 yT 38 35 false 1 3,
 ⟨some 39,some (35,false),.rd,.load false 1 (.t 38)⟩,
 yG 40 35 false (.bin .eql .none (.t 37) (.t 39)),
 yP 41 35 40,
 yM 8 41]
def q1wr5:yW:=[
 yK 4 .i64 2]
def q1wc6:yX:=yq q1wr5 .ret
def q1wr7:yW:=[
 yF 43 2 3,
 yL 44 false 1 43,
 yI 45 (.lenStr (.t 44)),
 yJ 46 .gtr 45 .i64 65536,
 yM 42 46]
def q1wr8:yW:=[
 yK 4 .i64 3]
def q1wc9:yX:=yq q1wr8 .ret
def q1wr10:yW:=[
 yM 48 0,
 yI 49 (.nilc (.t 48)),
 yF 50 1 49,
 yL 51 false 1 50,
 yI 52 (.lenSl (.t 51)),
 yJ 53 .geq 52 .i64 200,
 yM 47 53]
def q1wr11:yW:=[
 yK 4 .i64 60]
def q1wc12:yX:=yq q1wr11 .ret
def q1wc13:yX:=.cond (.t 47) q1wc12 .skip
def q1wc14:yX:=yq q1wr10 q1wc13
def q1wc15:yX:=.cond (.t 42) q1wc9 q1wc14
def q1wc16:yX:=yq q1wr7 q1wc15
def q1wc17:yX:=.cond (.t 8) q1wc6 q1wc16
def q1wc18:yX:=yq q1wr4 q1wc17
def q1wc19:yX:=.cond (.t 5) q1wc3 q1wc18
def q1wc20:yX:=yq q1wr1 q1wc19
def q1wr21:yW:=[
 yM 54 0,
 yM 55 0,
 yI 56 (.nilc (.t 55)),
 yF 57 1 56,
 ⟨some 58,none,.rd,.load false 1 (.t 57)⟩,
 ⟨some 59,none,.rd,.load true 3 (.t 3)⟩,
 yI 60 (.lit 3 [(.t 59)]),
 yI 61 (.app 3 (.t 58) (.t 60)),
 yI 62 (.nilc (.t 54)),
 yF 63 1 62,
 yS 1 63 61]
def q1wr22:yW:=[
 yK 4 .i64 0]
def q1wc23:yX:=yq q1wr22 .ret
def q1wc24:yX:=yq q1wr21 q1wc23
def q1wc25:yX:=.seq (.block 0 q1wc20) q1wc24
def q1wc26:yX:=yq q1wr0 q1wc25
attribute [go_sem] q1wr0 q1wr1 q1wr2 q1wr4 q1wr5 q1wr7 q1wr8 q1wr10 q1wr11 q1wr21 q1wr22
theorem q1wok:cFn TC 66=some (64,[.t 4],q1wc26):=by kernel_rfl
def q1xr0:yW:=[
 yI 4 (.alloc [(.int .i64 0),(.int .i64 0),(.str [])]),
 yK 5 .i64 0]
def q1xr1:yW:=[
 yM 8 0,
 yM 9 1,
 yD 10 112 8 9,
 yM 6 10]
def q1xr2:yW:=[
 yM 11 6,
 yJ 12 .neq 11 .i64 0]
def q1xr3:yW:=[
 yI 13 (.build [(.int .i64 0),(.int .i64 0),(.str [])] []),
 yM 14 6,
 yS 3 4 13,
 yM 5 14]
def q1xc4:yX:=yq q1xr3 .ret
def q1xc5:yX:=.cond (.t 12) q1xc4 .skip
def q1xc6:yX:=yq q1xr2 q1xc5
def q1xc7:yX:=yq q1xr1 q1xc6
def q1xr8:yW:=[
 yM 15 0,
 yI 16 (.nilc (.t 15)),
 yF 17 1 16,
 yL 18 false 1 17,
 yM 19 1,
 yI 20 (.iaSl 3 (.t 18) (.t 19)),
 yL 21 true 3 20,
 yI 7 (.alloc [(.int .i64 0),(.int .i64 0),(.str [])]),
 yS 3 7 21]
def q1xr9:yW:=[
 yM 22 0,
 yM 23 0,
 yI 24 (.nilc (.t 23)),
 yF 25 1 24,
 yL 26 false 1 25,
 yM 27 1,
 yM 28 1,
 yJ 29 .add 28 .i64 1,
 yI 30 (.call (.v (.fn 113 [])) [(.t 26),(.t 27),(.t 29)]),
 yI 31 (.nilc (.t 22)),
 yF 32 1 31,
 yS 1 32 30]
def q1xr10:yW:=[
 yL 33 true 3 7,
 yS 3 4 33,
 yK 5 .i64 0]
def q1xc11:yX:=yq q1xr10 .ret
def q1xc12:yX:=yq q1xr9 q1xc11
def q1xc13:yX:=yq q1xr8 q1xc12
def q1xc14:yX:=.seq q1xc7 q1xc13
def q1xc15:yX:=yq q1xr0 q1xc14
attribute [go_sem] q1xr0 q1xr1 q1xr2 q1xr3 q1xr8 q1xr9 q1xr10
theorem q1xok:cFn TC 67=some (34,[.c 4 true 3,.t 5],q1xc15):=by kernel_rfl
def q1yr0:yW:=[
 yI 2 (.mv (.v .nilsl))]
def q1yr1:yW:=[
 yM 3 0,
 yC 4 111 3]
def q1yr2:yW:=[
 yI 2 (.mv (.v .nilsl))]
def q1yc3:yX:=yq q1yr2 .ret
def q1yc4:yX:=.cond (.t 4) q1yc3 .skip
def q1yc5:yX:=yq q1yr1 q1yc4
def q1yr6:yW:=[
 yM 5 0,
 yI 6 (.nilc (.t 5)),
 yF 7 1 6,
 yL 8 false 1 7,
 yI 9 (.app 3 (.v .nilsl) (.t 8)),
 yM 2 9]
def q1yc7:yX:=yq q1yr6 .ret
def q1yc8:yX:=.seq q1yc5 q1yc7
def q1yc9:yX:=yq q1yr0 q1yc8
attribute [go_sem] q1yr0 q1yr1 q1yr2 q1yr6
theorem q1yok:cFn TC 71=some (10,[.t 2],q1yc9):=by kernel_rfl
def q1zr0:yW:=[
 yI 2 (.mv (.v .nilp)),
 yK 3 .i64 0]
def q1zr1:yW:=[
 yM 4 0,
 yJ 5 .lss 4 .i64 1,
 yM 6 5,
 yV 7 6 false 0,
 yG 8 6 false (.bin .gtr .none (.t 7) (.v (.int .i64 32))),
 yP 9 6 8]
def q1zr2:yW:=[
 yI 2 (.mv (.v .nilp)),
 yK 3 .i64 2]
def q1zc3:yX:=yq q1zr2 .ret
def q1zc4:yX:=.cond (.t 9) q1zc3 .skip
def q1zc5:yX:=yq q1zr1 q1zc4
def q1zr6:yW:=[
 yM 10 0,
 yI 11 (.build [(.int .i64 0),.nilsl] [(0,1,(.t 10))]),
 yI 12 (.box (.t 11)),
 yM 2 12,
 yK 3 .i64 0]
def q1zc7:yX:=yq q1zr6 .ret
def q1zc8:yX:=.seq q1zc5 q1zc7
def q1zc9:yX:=yq q1zr0 q1zc8
attribute [go_sem] q1zr0 q1zr1 q1zr2 q1zr6
theorem q1zok:cFn TC 72=some (13,[.t 2,.t 3],q1zc9):=by kernel_rfl
def q20r0:yW:=[
 yI 2 (.mv (.v (.bool false)))]
def q20r1:yW:=[
 yM 3 0,
 yI 4 (.bin .eql .ptr (.t 3) (.v .nilp)),
 yM 5 4,
 yV 6 5 false 0,
 yG 7 5 false (.nilc (.t 6)),
 yT 8 5 false 0 7,
 yU 9 5 false false 1 8,
 yG 10 5 false (.bin .eql .none (.t 9) (.v (.int .i64 0))),
 yP 11 5 10,
 yM 2 11]
def q20c2:yX:=yq q20r1 .ret
def q20c3:yX:=yq q20r0 q20c2
attribute [go_sem] q20r0 q20r1
theorem q20ok:cFn TC 111=some (12,[.t 2],q20c3):=by kernel_rfl
def q21r0:yW:=[
 yK 4 .i64 0]
def q21r1:yW:=[
 yM 6 0,
 yC 7 111 6,
 yM 5 7]
def q21r2:yW:=[
 yK 4 .i64 1]
def q21c3:yX:=yq q21r2 .ret
def q21r4:yW:=[
 yM 9 1,
 yJ 10 .lss 9 .i64 0,
 yM 11 10,
 yV 12 11 false 1,
 yV 13 11 false 0,
 yG 14 11 false (.nilc (.t 13)),
 yT 15 11 false 1 14,
 yU 16 11 false false 1 15,
 yG 17 11 false (.lenSl (.t 16)),
 yG 18 11 false (.bin .geq .none (.t 12) (.t 17)),
 yP 19 11 18,
 yM 8 19]
def q21r5:yW:=[
 yK 4 .i64 4]
def q21c6:yX:=yq q21r5 .ret
def q21c7:yX:=.cond (.t 8) q21c6 .skip
def q21c8:yX:=yq q21r4 q21c7
def q21c9:yX:=.cond (.t 5) q21c3 q21c8
def q21c10:yX:=yq q21r1 q21c9
def q21r11:yW:=[
 yK 4 .i64 0]
def q21c12:yX:=yq q21r11 .ret
def q21c13:yX:=.seq (.block 0 q21c10) q21c12
def q21c14:yX:=yq q21r0 q21c13
attribute [go_sem] q21r0 q21r1 q21r2 q21r4 q21r5 q21r11
theorem q21ok:cFn TC 112=some (20,[.t 4],q21c14):=by kernel_rfl
def q22r0:yW:=[
 yI 6 (.mv (.v .nilsl))]
def q22r1:yW:=[
 yM 8 0,
 yM 9 1,
 yM 10 2,
 yM 11 0,
 yI 12 (.lenSl (.t 11)),
 yI 13 (.slice (.sl 3) (.t 8) (some (.t 9)) (some (.t 10)) (some (.t 12)))]
def q22r2:yW:=[
 yM 14 1,
 yM 15 2,
 yB 16 .eql 14 15]
def q22r3:yW:=[
 yM 17 0,
 yM 6 17]
def q22c4:yX:=yq q22r3 .ret
def q22c5:yX:=.cond (.t 16) q22c4 .skip
def q22c6:yX:=yq q22r2 q22c5
def q22r7:yW:=[
 yM 18 0,
 yI 19 (.lenSl (.t 18)),
 yM 7 19]
def q22r8:yW:=[
 yM 20 0,
 yM 21 1,
 yI 22 (.slice (.sl 3) (.t 20) none (some (.t 21)) none),
 yM 23 0,
 yM 24 2,
 yI 25 (.slice (.sl 3) (.t 23) (some (.t 24)) none none),
 yI 26 (.app 3 (.t 22) (.t 25)),
 yM 0 26]
def q22r9:yW:=[
 yM 27 0,
 yM 28 0,
 yI 29 (.lenSl (.t 28)),
 yM 30 7,
 yI 31 (.slice (.sl 3) (.t 27) (some (.t 29)) (some (.t 30)) none),
 ⟨none,none,.no,.clear [(.int .i64 0),(.int .i64 0),(.str [])] (.t 31)⟩]
def q22r10:yW:=[
 yM 32 0,
 yM 6 32]
def zb0:ACode:=.seq (.reg q22r10) .ret
def q22c12:yX:=yq q22r9 zb0
def q22c13:yX:=yq q22r8 q22c12
def q22c14:yX:=yq q22r7 q22c13
def q22c15:yX:=.seq q22c6 q22c14
def q22c16:yX:=yq q22r1 q22c15
def q22c17:yX:=yq q22r0 q22c16
attribute [go_sem] q22r0 q22r1 q22r2 q22r3 q22r7 q22r8 q22r9 q22r10
theorem q22ok:cFn TC 113=some (33,[.t 6],q22c17):=by kernel_rfl
end
section
theorem zW.limitR{C:Ctx}{n k:Nat}{ac:ACode}{Q:AExit->Env->Store->Prop}{J:Env}{O:Store}{t r off len esz:Nat}{o:AObj}(ht:J t=.sl r off len none esz)(hr:O[r]? =some (some o))(h:∀c,len<=c->o.length<=off+c->zW C n k ac Q (upd J t (.sl r off len (some c) esz)) O):zW C n k ac Q J O:=by
 intro code hc Z0 w0 hgl hk Z a w hst hR hE hn
 have hv:=hE t
 rw [ht]at hv
 simp only [VR]at hv
 obtain⟨fl,pl,b,p,cap,hpl,he,hval,hso⟩:=hv
 obtain⟨pl',hpl',hok⟩:=hR.alive r o hr
 rw [hpl]at hpl';cases hpl'
 refine h cap hso.le (by rw [hok.len];exact hso.room rfl) code hc Z0 w0 hgl hk Z a w hst hR (hE.upd_ ?_) hn
 rw [hval]
 simp only [VR]
 exact⟨_,pl,b,p,cap,hpl,he,rfl,hso.le,by simp,by simp,hso.inside,hso.at_,hso.blk,hso.ole⟩
end
section
theorem rl_i{k:Nat}{i:IntKind}{n:Int}:RL k (.int i n):=z17 _ rfl
theorem rl_b{k:Nat}{b:Bool}:RL k (.bool b):=z17 _ rfl
theorem zjr{k:Nat}{O:Store}{i:IntKind}{a b:Int}(hw:Wf O.length O)(hk:k=O.length)(h:a=b):DownV k (.int i a) O (.int i b) O:=by subst h;subst hk;exact DownV.same hw rl_i
structure ML where
 f:Int
 t:Int
 x:List UInt8
 deriving DecidableEq
def mailC(m:ML):List AV:=[.int .i64 m.f,.int .i64 m.t,.str m.x]
def slOf(sid:Option Nat)(n esz:Nat):AV:=match sid with
 |none=> .nilsl
 |some s=> .sl s 0 n none esz
def SlIs(O:Store)(sid:Option Nat)(rows:List (List AV)):Prop:=match sid with
 |none=>rows=[]
 |some s=>∃junk,O[s]? =some (some (rows++junk))
structure LkIs(O:Store)(r:Nat)(nodes:Int)(sid:Option Nat)(L:List ML):Prop where
 obj:O[r]? =some (some [[.int .i64 nodes,slOf sid L.length 3]])
 rows:SlIs O sid (L.map mailC)
 apart:sid ≠ some r
structure FrL(O O':Store)(r:Nat)(sid sid':Option Nat):Prop where
 len:O.length<=O'.length
 keep:∀q,q<O.length->q ≠ r->sid ≠ some q->O'[q]? =O[q]?
 new:∀s,sid'=some s->sid=some s \/O.length<=s
theorem LkIs.lt{O:Store}{r:Nat}{nodes:Int}{sid:Option Nat}{L:List ML}(h:LkIs O r nodes sid L):r<O.length/\ ∀s,sid=some s->s<O.length:=by
 refine⟨(List.getElem?_eq_some_iff.1 h.obj).1,fun s hs=> ?_⟩
 have:=h.rows
 subst hs
 obtain⟨junk,hj⟩:=this
 exact(List.getElem?_eq_some_iff.1 hj).1
theorem z2t(O:Store)(r:Nat)(nodes:Int)(sl:AV)(h:O[r]? =some (some [[.int .i64 nodes,sl]])):ACallsTo TC 111 [.ptr r 0 0] O (.bool (decide (nodes=0))) O:=by
 refine ACallsTo.of_body q20ok (by simp) fun hw _=> ?_
 repeat' (first|apply zs_|apply zb_|apply zc_|apply zt_ rfl|apply zf_ rfl|(apply zd_ rfl<;>intro ht<;>try omega)|((first|apply zr_|apply zk_|apply ze_|apply zq_|(apply zG<;>intro ht));all_goals try simp (disch:=first|omega|(simp only [lens];first|done|omega)) only [go_sem,h]))
 exact DownV.same hw rl_b
def atS(nodes:Int)(n:Nat)(i:Int):Int:=if nodes=0 then 1 else if i<0 \/(n:Int)<=i then 4 else 0
theorem zam(O:Store)(r:Nat)(nodes i:Int)(sid:Option Nat)(n:Nat)(h:O[r]? =some (some [[.int .i64 nodes,slOf sid n 3]]))(hn:sid=none->n=0):
  ACallsTo TC 112 [.ptr r 0 0,.int .i64 i] O (.int .i64 (atS nodes n i)) O:=by
 refine ACallsTo.of_body q21ok (by simp) fun hw _=> ?_
 unfold atS
 cases sid with
 |none=>
  have hn:=hn rfl
  repeat' (first|apply zs_|apply zb_|apply zc_|apply zt_ rfl|apply zf_ rfl|(apply zd_ rfl<;>intro ht<;>try omega)|((first|apply zr_|apply zk_|apply ze_|apply zq_|(apply callW.mk_pu;(first|exact(fun _=>z2t _ _ _ _ h)))|(apply callW.za;(first|exact(z2t _ _ _ _ h)))|(apply zG<;>intro ht));all_goals try simp (disch:=first|omega|(simp only [lens];first|done|omega)) only [go_sem,h,slOf]))
  all_goals exact zjr hw rfl (by first|rfl|omega|(repeat' split<;>omega))
 |some s=>
  repeat' (first|apply zs_|apply zb_|apply zc_|apply zt_ rfl|apply zf_ rfl|(apply zd_ rfl<;>intro ht<;>try omega)|((first|apply zr_|apply zk_|apply ze_|apply zq_|(apply callW.mk_pu;(first|exact(fun _=>z2t _ _ _ _ h)))|(apply callW.za;(first|exact(z2t _ _ _ _ h)))|(apply zG<;>intro ht));all_goals try simp (disch:=first|omega|(simp only [lens];first|done|omega)) only [go_sem,h,slOf]))
  all_goals exact zjr hw rfl (by first|rfl|omega|(repeat' split<;>omega))
def z1z(nodes:Int)(n:Nat)(m:ML):Int:=
 if nodes=0 then 1 else if m.f<0 \/nodes<=m.f \/m.t<0 \/nodes<=m.t \/m.f=m.t then 2 else if 65536<(m.x.length:Int)then 3 else if 200<=(n:Int)then 60 else 0
theorem LkIs.app{O y:Store}{r:Nat}{nodes:Int}{sid:Option Nat}{L:List ML}(h:LkIs O r nodes sid L):LkIs (O++y) r nodes sid L:=by
 obtain⟨hrl,hsl⟩:=h.lt
 obtain⟨h,hs,hd⟩:=h
 refine⟨by rw [gapp hrl];exact h,?_,hd⟩
 cases sid with
 |none=>exact hs
 |some s=>obtain⟨junk,hj⟩:=hs;exact⟨junk,by rw [gapp (hsl s rfl)];exact hj⟩
theorem FrL.app{O y:Store}{r:Nat}{sid:Option Nat}:FrL O (O++y) r sid sid:=⟨by simp,fun q hq _ _=>gapp hq,fun s hs=> .inl hs⟩
theorem FrL.refl{O:Store}{r:Nat}{sid:Option Nat}:FrL O O r sid sid:=⟨Nat.le_refl _,fun q hq _ _=>rfl,fun s hs=> .inl hs⟩
theorem zr0(O:Store)(r:Nat)(nodes:Int)(m:ML)(h:LkIs O r nodes none []):ACallsP TC 66 [.ptr r 0 0,.agg (mailC m)] O
  (fun v O'=>v=.int .i64 (z1z nodes 0 m)/\ ∃sid',LkIs O' r nodes sid' (if z1z nodes 0 m=0 then [m]else [])/\ FrL O O' r none sid'):=by
 have h0:=h
 obtain⟨hrl,hsl⟩:=h.lt
 obtain⟨h,hs,hd⟩:=h
 refine ACallsP.of_keep q1wok (by simp) ?_
 unfold z1z
 repeat' (first|apply zs_|apply zb_|apply zc_|apply zt_ rfl|apply zf_ rfl|(apply zd_ rfl<;>intro ht<;>try omega)|((first|apply zr_|apply zk_|apply ze_|apply zq_|(apply callW.mk_pu;(first|exact(fun _=>z2t _ _ nodes .nilsl (by simp only [gapp,hrl,h,slOf]))))|(apply callW.za;(first|exact(z2t _ _ nodes .nilsl (by simp only [gapp,hrl,h,slOf]))))|(apply zG<;>intro ht));all_goals try simp (disch:=first|omega|(simp only [lens];first|done|omega)) only [go_sem,h,mailC,slOf]))
 all_goals try exact⟨none,h0.app,FrL.app⟩
 refine⟨some (O.length+1),⟨?_,⟨[],?_⟩,?_⟩,⟨?_,?_,?_⟩⟩
 ·simp (disch:=first|omega|(simp only [lens];first|done|omega)) only [go_sem,slOf,List.length_append]
 ·simp (disch:=first|omega|(simp only [lens];first|done|omega)) only [go_sem,mailC,List.append_assoc,z16]
 ·simp;omega
 ·simp
 ·intro q hq hr _
  have hr':r ≠ q:=fun e=>hr e.symm
  simp (disch:=first|omega|(simp only [lens];first|done|omega)) only [go_sem,List.append_assoc]
 ·intro s hs
  simp at hs;omega
theorem zr1(O:Store)(r s:Nat)(nodes:Int)(L:List ML)(m:ML)(h:LkIs O r nodes (some s) L):ACallsP TC 66 [.ptr r 0 0,.agg (mailC m)] O
  (fun v O'=>v=.int .i64 (z1z nodes L.length m)/\ ∃sid',LkIs O' r nodes sid' (if z1z nodes L.length m=0 then L++ [m]else L)/\ FrL O O' r (some s) sid'):=by
 have h0:=h
 obtain⟨hrl,hsl⟩:=h.lt
 obtain⟨h,hs,hd⟩:=h
 have hsl:=hsl s rfl
 obtain⟨junk,hj⟩:=hs
 have hne:s ≠ r:=fun e=>hd (by rw [e])
 have hne2:r ≠ s:=fun e=>hne e.symm
 refine ACallsP.of_keep q1wok (by simp) ?_
 unfold z1z
 have hlen:(L.map mailC++junk).length=L.length+junk.length:=by simp
 have htake:(L.map mailC++junk).take L.length=L.map mailC:=by
  rw [List.take_append_of_le_length (by simp),List.take_of_length_le (by simp)]
 have hdrop:(L.map mailC++junk).drop (L.length+1)=junk.drop 1:=by
  rw [List.drop_append,List.drop_of_length_le (by simp)];simp
 by_cases hjk:junk=[]
 ·subst hjk
  rw [List.append_nil]at hj hlen htake
  repeat' (first|apply zs_|apply zb_|apply zc_|apply zt_ rfl|apply zf_ rfl|(apply zd_ rfl<;>intro ht<;>try omega)|((first|apply zr_|apply zk_|apply ze_|apply zq_|(apply callW.mk_pu;(first|exact(fun _=>z2t _ _ nodes _ (by simp only [gapp,hrl,h,slOf];rfl))))|(apply callW.za;(first|exact(z2t _ _ nodes _ (by simp only [gapp,hrl,h,slOf];rfl))))|(apply zG<;>intro ht));all_goals try simp (disch:=first|omega|(simp only [lens];first|done|omega)) only [go_sem,h,hj,hlen,htake,mailC,slOf]))
  all_goals try exact⟨some s,h0.app,FrL.app⟩
  refine⟨some (O.length+1),⟨?_,⟨[],?_⟩,?_⟩,⟨?_,?_,?_⟩⟩
  ·simp (disch:=first|omega|(simp only [lens];first|done|omega)) only [go_sem,slOf,List.length_append,lQs]
  ·have e:O.length+1=(List.set (O++ [some [mailC m]]) s none).length:=by simp
   simp (disch:=first|omega|(simp only [lens];first|done|omega)) only [go_sem,mailC,List.map_append,List.append_assoc,z16,lQs,List.length_append,Nat.sub_self]
  ·simp;omega
  ·simp
  ·intro q hq hr hs
   have hr':r ≠ q:=fun e=>hr e.symm
   have hs':s ≠ q:=fun e=>hs (by rw [e])
   simp (disch:=first|omega|(simp only [lens];first|done|omega)) only [go_sem]
  ·intro s' hs
   simp at hs;omega
 ·have hjl:1<=junk.length:=by cases junk<;>simp_all
  repeat' (first|apply zs_|apply zb_|apply zc_|apply zt_ rfl|apply zf_ rfl|(apply zd_ rfl<;>intro ht<;>try omega)|((first|apply zr_|apply zk_|apply ze_|apply zq_|(apply callW.mk_pu;(first|exact(fun _=>z2t _ _ nodes _ (by simp only [gapp,hrl,h,slOf];rfl))))|(apply callW.za;(first|exact(z2t _ _ nodes _ (by simp only [gapp,hrl,h,slOf];rfl))))|(apply zG<;>intro ht));all_goals try simp (disch:=first|omega|(simp only [lens];first|done|omega)) only [go_sem,h,hj,hlen,htake,hdrop,mailC,slOf]))
  all_goals try exact⟨some s,h0.app,FrL.app⟩
  refine⟨some s,⟨?_,⟨junk.drop 1,?_⟩,?_⟩,⟨?_,?_,?_⟩⟩
  ·simp (disch:=first|omega|(simp only [lens];first|done|omega)) only [go_sem,slOf,List.length_append,lQs]
  ·simp (disch:=first|omega|(simp only [lens];first|done|omega)) only [go_sem,mailC,List.map_append,List.append_assoc]
  ·exact hd
  ·simp
  ·intro q hq hr hs
   have hr':r ≠ q:=fun e=>hr e.symm
   have hs':s ≠ q:=fun e=>hs (by rw [e])
   simp (disch:=first|omega|(simp only [lens];first|done|omega)) only [go_sem]
  ·intro s' hs
   exact .inl hs
theorem zib(O:Store)(r:Nat)(nodes:Int)(sid:Option Nat)(L:List ML)(m:ML)(h:LkIs O r nodes sid L):ACallsP TC 66 [.ptr r 0 0,.agg (mailC m)] O
  (fun v O'=>v=.int .i64 (z1z nodes L.length m)/\ ∃sid',LkIs O' r nodes sid' (if z1z nodes L.length m=0 then L++ [m]else L)/\ FrL O O' r sid sid'):=by
 cases sid with
 |none=>
  have hn:L=[]:=by simpa [SlIs]using h.rows
  subst hn
  exact zr0 O r nodes m h
 |some s=>exact zr1 O r s nodes L m h
end
section
def z45:List AV:=[.int .i64 0,.int .i64 0,.str []]
attribute [local irreducible] zb0
theorem zuu (O : Store) (s : Nat) (A B junk : List (List AV)) (x : List AV) (h : O[s]? = some (some (A ++ x :: (B ++ junk)))) (hn : A.length + 1 + B.length < 1000000) :
    ACallsTo TC 113 [.sl s 0 (A.length+1+B.length) none 3,.int .i64 A.length,.int .i64 (A.length+1:Nat)] O (.sl s 0 (A.length+B.length) none 3) (O.set s (some (A++(B++z45::junk)))):=by
  have hs:=(List.getElem?_eq_some_iff.1 h).1
  have hol:(A++x::(B++junk)).length=A.length+1+B.length+junk.length:=by simp;omega
  have n1:A.length+1+B.length-(A.length+1)=B.length:=by omega
  have t1:(A++x::(B++junk)).drop (A.length+1)=B++junk:=by rw [List.drop_append,List.drop_of_length_le (by omega)];simp
  have t2:(B++junk).take B.length=B:=by rw [List.take_append_of_le_length (Nat.le_refl _),List.take_length]
  have t3:(A++x::(B++junk)).take A.length=A:=by rw [List.take_append_of_le_length (Nat.le_refl _),List.take_length]
  obtain⟨y,hy⟩:∃y,(A++x::(B++junk)).drop (A.length+B.length)=y::junk:=by
    have e1:(A++x::(B++junk)).drop (A.length+B.length)=(x::(B++junk)).drop B.length:=by
      rw [List.drop_append,List.drop_of_length_le (by omega)];simp
    rw [e1]
    cases hB:B.reverse with
    | nil => have : B = [] := by simpa using hB
             subst this;exact⟨x,rfl⟩
    |cons b l=>
      have:B=l.reverse++ [b]:=by rw [<-List.reverse_reverse B,hB];simp
      rw [this]
      refine⟨b,?_⟩
      rw [show (l.reverse++ [b]).length=l.reverse.length+1 by simp,List.drop_succ_cons,List.append_assoc,List.drop_left]
      rfl
  have t5:(A++(B++y::junk)).take (A.length+B.length)=A++B:=by rw [<-List.append_assoc,List.take_append_of_le_length (by simp),List.take_of_length_le (by simp)]
  have t6:(A++(B++y::junk)).drop (A.length+B.length+1)=junk:=by
    rw [<-List.append_assoc,List.drop_append,List.drop_of_length_le (by simp)]
    simp
  have l5:(A++(B++y::junk)).length=A.length+B.length+1+junk.length:=by simp;omega
  have fin:∀(c:Nat) (J:Env),A.length+1+B.length+junk.length<=c->J 0=.sl s 0 (A.length+B.length) (some c) 3->zW TC 33 O.length zb0 (z65 [.t 6] (.sl s 0 (A.length+B.length) none 3) (O.set s (some (A++(B++z45::junk))))) J (O.set s (some (A++(B++z45::junk)))):=by
    intro c J hc q0
    refine zW.unlim (t:=0) (r:=s) (off:=0) (len:=A.length+B.length) (c:=c) (esz:=3) (o:=A++(B++z45::junk)) q0 (z1t hs) (by simp;omega) ?_
    unfold zb0
    repeat' (first|apply zs_|apply zb_|apply zc_|apply zt_ rfl|apply zf_ rfl|(apply zd_ rfl<;>intro ht<;>try omega)|((first|apply zr_|apply zk_|apply ze_|apply zq_|(apply zG<;>intro ht));all_goals try simp (disch:=first|omega|(simp only [lens];first|done|omega)) only [go_sem]))
  refine ACallsTo.of_body_keep q22ok (by simp) ?_
  refine zW.limitR (t:=0) (r:=s) (off:=0) (len:=A.length+1+B.length) (esz:=3) (by simp (disch:=first|omega|(simp only [lens];first|done|omega)) only [go_sem]) h fun c hc hc2=> ?_
  rw [hol,Nat.zero_add]at hc2
  by_cases hB:B=[]
  · subst hB
    simp only [List.length_nil,Nat.add_zero,List.nil_append]at*
    have n2:A.length+1-A.length=1:=by omega
    repeat' (first|apply zs_|apply zb_|apply zc_|apply zt_ rfl|apply zf_ rfl|(apply zd_ rfl<;>intro ht<;>try omega)|((first|apply zr_|apply zk_|apply ze_|apply zq_|(apply zG<;>intro ht));all_goals try simp (disch:=first|omega|(simp only [lens];first|done|omega)) only [go_sem,h,hol,n1,n2,t1,t2,t3,Nat.sub_zero,Nat.sub_self,z45,List.replicate_one,List.append_assoc]))
    exact fin c _ (by omega) (by simp (disch:=first|omega|(simp only [lens];first|done|omega)) only [go_sem])
  · have hBl:1<=B.length:=by cases B<;>simp_all
    have n3:A.length+1+B.length-(A.length+B.length)=1:=by omega
    repeat' (first|apply zs_|apply zb_|apply zc_|apply zt_ rfl|apply zf_ rfl|(apply zd_ rfl<;>intro ht<;>try omega)|((first|apply zr_|apply zk_|apply ze_|apply zq_|(apply zG<;>intro ht));all_goals try simp (disch:=first|omega|(simp only [lens];first|done|omega)) only [go_sem,h,hol,n1,n3,t1,t2,t3,hy,t5,t6,l5,Nat.sub_zero,List.set_set,List.append_assoc,z45,List.replicate_one]))
    exact fin c _ (by omega) (by simp (disch:=first|omega|(simp only [lens];first|done|omega)) only [go_sem])
end
section
theorem zic{O y:Store}{r s:Nat}{nodes:Int}{sid:Option Nat}{L:List ML}{rows junk:List (List AV)}{n:Nat}(hrl:r<O.length)(hsl:s<O.length)(hne:s ≠ r)(hid:sid=some s)(hr:rows=L.map mailC++junk)(hn:n=L.length):
  LkIs ((O.set s (some rows)).set r (some [[.int .i64 nodes,.sl s 0 n none 3]])++y) r nodes (some s) L/\ FrL O ((O.set s (some rows)).set r (some [[.int .i64 nodes,.sl s 0 n none 3]])++y) r sid (some s):=by
 subst hr;subst hn;subst hid
 refine⟨⟨?_,⟨junk,?_⟩,fun e=>hne (Option.some.inj e)⟩,⟨by simp,fun q hq h1 h2=> ?_,fun q hq=> .inl hq⟩⟩
 ·rw [gapp (by simpa using hrl),z1t (by simpa using hrl)];rfl
 ·rw [gapp (by simpa using hsl),z1a (fun e=>hne e.symm),z1t hsl]
 ·rw [gapp (by simpa using hq),z1a (fun e=>h1 e.symm),z1a (fun e=>h2 (by rw [e]))]
theorem lk_ex{O:Store}{r:Nat}{nodes:Int}{sid:Option Nat}{L:List ML}(h:LkIs O r nodes sid L)(L':List ML)(h0:sid=none->L'=[]):∃O',LkIs O' r nodes sid L'/\ FrL O O' r sid sid:=by
 obtain⟨hrl,hsl⟩:=h.lt
 cases sid with
 |none=>
  have e:L=[]:=by simpa [SlIs]using h.rows
  subst e
  rw [h0 rfl]
  exact⟨O,h,FrL.refl⟩
 |some s=>exact⟨_,zic (y:=[]) (junk:=[]) (L:=L') hrl (hsl s rfl) (fun e=>h.apart (by rw [e])) rfl rfl rfl⟩
theorem zmd{nodes:Int}{n:Nat}{i:Int}(h0:nodes ≠ 0)(h1:0<=i)(h2:i<n):atS nodes n i=0:=by
 unfold atS
 rw [if_neg h0,if_neg (by omega)]
theorem zqs(O:Store)(r:Nat)(nodes i:Int)(sid:Option Nat)(L:List ML)(h:LkIs O r nodes sid L)(hb:atS nodes L.length i ≠ 0):
  ACallsP TC 67 [.ptr r 0 0,.int .i64 i] O (fun v O'=>v=.tup [.agg z45,.int .i64 (atS nodes L.length i)]/\ LkIs O' r nodes sid L/\ FrL O O' r sid sid):=by
 obtain⟨hrl,hsl⟩:=h.lt
 have hn:sid=none->L.length=0:=by
  intro e;subst e
  have:=h.rows
  simp [SlIs]at this
  simp [this]
 have ho:=h.obj
 generalize hc:atS nodes L.length i=c at*
 refine ACallsP.of_keep q1xok (by simp) ?_
 repeat' (first|apply zs_|apply zb_|apply zc_|apply zt_ rfl|apply zf_ rfl|(apply zd_ rfl<;>intro ht<;>try omega)|((first|apply zr_|apply zk_|apply ze_|apply zq_|(apply callW.mk_pu;(first|exact(fun _=>(hc ▸ zam (O++_) r nodes i sid L.length (by rw [gapp hrl];exact ho) hn))))|(apply callW.za;(first|exact((hc ▸ zam (O++_) r nodes i sid L.length (by rw [gapp hrl];exact ho) hn))))|(apply zG<;>intro ht));all_goals try simp (disch:=first|omega|(simp only [lens];first|done|omega)) only [go_sem,z45]))
 exact⟨h.app,FrL.app⟩
theorem zqu(O:Store)(r s:Nat)(nodes:Int)(A B:List ML)(m:ML)(h:LkIs O r nodes (some s) (A++m::B))(hn:nodes ≠ 0)(hl:A.length+1+B.length<1000000):
  ACallsP TC 67 [.ptr r 0 0,.int .i64 A.length] O (fun v O'=>v=.tup [.agg (mailC m),.int .i64 0]/\ LkIs O' r nodes (some s) (A++B)/\ FrL O O' r (some s) (some s)):=by
 obtain⟨hrl,hsl⟩:=h.lt
 have hsl:=hsl s rfl
 obtain⟨ho,⟨junk,hj⟩,hd⟩:=h
 have hne:s ≠ r:=fun e=>hd (by rw [e])
 have hne2:r ≠ s:=fun e=>hne e.symm
 have hlen:(A++m::B).length=A.length+1+B.length:=by simp;omega
 rw [hlen]at ho
 have hc:atS nodes (A.length+1+B.length) (A.length:Int)=0:=zmd hn (by omega) (by omega)
 have hrow:(A++m::B).map mailC++junk=A.map mailC++mailC m::(B.map mailC++junk):=by simp
 rw [hrow]at hj
 have hget:(A.map mailC++mailC m::(B.map mailC++junk))[A.length]? =some (mailC m):=by
  rw [List.getElem?_append_right (by simp)];simp
 have e1:(A.length:Int)+1=((A.length+1:Nat):Int):=by omega
 have hj0:=hj
 simp only [mailC]at hj hget
 have hD:∀y:Store,ACallsTo TC 113 [.sl s 0 (A.length+1+B.length) none 3,.int .i64 A.length,.int .i64 (A.length+1:Nat)] (O++y) (.sl s 0 (A.length+B.length) none 3)
   ((O++y).set s (some (A.map mailC++(B.map mailC++z45::junk)))):=by
  intro y
  have:=zuu (O++y) s (A.map mailC) (B.map mailC) junk (mailC m) (by rw [gapp hsl];exact hj0) (by simp;omega)
  simpa only [List.length_map]using this
 refine ACallsP.of_keep q1xok (by simp) ?_
 repeat' (first|apply zs_|apply zb_|apply zc_|apply zt_ rfl|apply zf_ rfl|(apply zd_ rfl<;>intro ht<;>try omega)|((first|apply zr_|apply zk_|apply ze_|apply zq_|(apply callW.mk_pu;(first|exact(fun _=>(hc ▸ zam (O++_) r nodes A.length (some s) (A.length+1+B.length) (by rw [gapp hrl];exact ho) (by simp)))|exact(fun _=>hD _)))|(apply callW.za;(first|exact((hc ▸ zam (O++_) r nodes A.length (some s) (A.length+1+B.length) (by rw [gapp hrl];exact ho) (by simp)))|exact(hD _)))|(apply zG<;>intro ht));all_goals try simp (disch:=first|omega|(simp only [lens];first|done|omega)) only [go_sem,ho,hj,hget,mailC,slOf,e1]))
 exact zic (junk:=z45::junk) hrl hsl hne rfl (by simp) (by simp)
def delM(nodes:Int)(L:List ML)(i:Int):ML:=if atS nodes L.length i=0 then L.getD i.toNat ⟨0,0,[]⟩else⟨0,0,[]⟩
def delV(nodes:Int)(L:List ML)(i:Int):AV:=.tup [.agg (mailC (delM nodes L i)),.int .i64 (atS nodes L.length i)]
def delL(nodes:Int)(L:List ML)(i:Int):List ML:=if atS nodes L.length i=0 then L.eraseIdx i.toNat else L
theorem zfr{nodes:Int}{n:Nat}{i:Int}(h:atS nodes n i=0):nodes ≠ 0/\ 0<=i/\ i<n:=by
 unfold atS at h
 split at h
 ·cases h
 ·split at h
  ·cases h
  ·refine⟨by assumption,?_,?_⟩<;>omega
theorem zws(L:List ML)(i:Nat)(h:i<L.length):∃A m B,L=A++m::B/\ A.length=i:=by
 refine⟨L.take i,L[i],L.drop (i+1),?_,by simp;omega⟩
 rw [<-List.drop_eq_getElem_cons h,List.take_append_drop]
theorem zqv(O:Store)(r:Nat)(nodes i:Int)(sid:Option Nat)(L:List ML)(h:LkIs O r nodes sid L)(hl:L.length<1000000):
  ACallsP TC 67 [.ptr r 0 0,.int .i64 i] O (fun v O'=>v=delV nodes L i/\ LkIs O' r nodes sid (delL nodes L i)/\ FrL O O' r sid sid):=by
 by_cases hb:atS nodes L.length i=0
 ·obtain⟨h0,h1,h2⟩:=zfr hb
  obtain⟨A,m,B,rfl,hA⟩:=zws L i.toNat (by omega)
  cases sid with
  |none=>have:=h.rows;simp [SlIs]at this
  |some s=>
   have hi:i=A.length:=by omega
   subst hi
   refine(zqu O r s nodes A B m h h0 (by simp at hl;omega)).mono ?_
   rintro v O' ⟨rfl,k1,k2⟩
   refine⟨?_,?_,k2⟩
   ·rw [delV,hb,delM,if_pos hb,Int.toNat_natCast]
    congr 3
    simp
   ·rw [delL,if_pos hb,Int.toNat_natCast]
    have:(A++m::B).eraseIdx A.length=A++B:=by rw [List.eraseIdx_append_of_length_le (Nat.le_refl _)];simp
    rw [this];exact k1
 ·refine(zqs O r nodes i sid L h hb).mono ?_
  rintro v O' ⟨rfl,k1,k2⟩
  exact⟨by rw [delV,delM,if_neg hb];rfl,by rw [delL,if_neg hb];exact k1,k2⟩
theorem znw{nodes i:Int}{L:List ML}{O:Store}{r:Nat}(h:LkIs O r nodes none L):delL nodes L i=[]:=by
 have e:L=[]:=by simpa [SlIs]using h.rows
 subst e
 unfold delL
 split<;>rfl
theorem zqt{O:Store}{r:Nat}{nodes i:Int}{sid:Option Nat}{L:List ML}(h:LkIs O r nodes sid L):∃v O',v=delV nodes L i/\ LkIs O' r nodes sid (delL nodes L i)/\ FrL O O' r sid sid:=by
 obtain⟨O',h1⟩:=lk_ex h (delL nodes L i) (fun e=>by subst e;exact znw h)
 exact⟨_,O',rfl,h1⟩
theorem zia{O:Store}{r:Nat}{nodes:Int}{sid:Option Nat}{L:List ML}{m:ML}(h:LkIs O r nodes sid L):∃v O',v=AV.int .i64 (z1z nodes L.length m)/\ ∃sid',LkIs O' r nodes sid' (if z1z nodes L.length m=0 then L++ [m]else L)/\ FrL O O' r sid sid':=by
 obtain⟨hrl,hsl⟩:=h.lt
 cases sid with
 |some s=>
  obtain⟨O',h1,h2⟩:=lk_ex h (if z1z nodes L.length m=0 then L++ [m]else L) (by simp)
  exact⟨_,O',rfl,_,h1,h2⟩
 |none=>
  have e:L=[]:=by simpa [SlIs]using h.rows
  subst e
  by_cases hc:z1z nodes ([]:List ML).length m=0
  ·refine⟨_,O.set r (some [[.int .i64 nodes,.sl O.length 0 1 none 3]])++ [some [mailC m]],rfl,some O.length,⟨?_,⟨[],?_⟩,?_⟩,⟨by simp,fun q hq h1 _=> ?_,fun s hs=> ?_⟩⟩
   ·rw [if_pos hc,gapp (by simpa using hrl),z1t hrl];rfl
   ·rw [if_pos hc,z16 (by simp)];simp
   ·simp;omega
   ·rw [gapp (by simpa using hq),z1a (fun e=>h1 e.symm)]
   ·right;simp at hs;omega
  ·exact⟨_,O,rfl,none,by rw [if_neg hc];exact h,FrL.refl⟩
end
section
theorem zqz(O:Store)(n:Int)(h:1<=n/\ n<=32):
  ACallsTo TC 72 [.int .i64 n] O (.tup [.ptr O.length 0 0,.int .i64 0]) (O++ [some [[.int .i64 n,.nilsl]]]):=by
 refine ACallsTo.of_body_keep q1zok (by simp) ?_
 repeat' (first|apply zs_|apply zb_|apply zc_|apply zt_ rfl|apply zf_ rfl|(apply zd_ rfl<;>intro ht<;>try omega)|((first|apply zr_|apply zk_|apply ze_|apply zq_|(apply zG<;>intro ht));all_goals try simp (disch:=first|omega|(simp only [lens];first|done|omega)) only [go_sem]))
structure Fresh(O O':Store)(sid:Option Nat)(L:List ML):Prop where
 ext:∃y,O'=O++y
 rows:SlIs O' sid (L.map mailC)
 new:∀s,sid=some s->O.length<=s
theorem zqw(O:Store)(r:Nat)(nodes:Int)(h:LkIs O r nodes none []):
  ACallsTo TC 71 [.ptr r 0 0] O .nilsl O:=by
 have ho:=h.obj
 refine ACallsTo.of_body q1yok (by simp) fun hw _=> ?_
 repeat' (first|apply zs_|apply zb_|apply zc_|apply zt_ rfl|apply zf_ rfl|(apply zd_ rfl<;>intro ht<;>try omega)|((first|apply zr_|apply zk_|apply ze_|apply zq_|(apply callW.mk_pu;(first|exact(fun _=>z2t _ _ nodes .nilsl ho)))|(apply callW.za;(first|exact(z2t _ _ nodes .nilsl ho)))|(apply zG<;>intro ht));all_goals try simp (disch:=first|omega|(simp only [lens];first|done|omega)) only [go_sem,ho,slOf]))
 all_goals exact DownV.same hw (z17 _ rfl)
theorem zqx(O:Store)(r s:Nat)(nodes:Int)(L:List ML)(h:LkIs O r nodes (some s) L)(h0:nodes ≠ 0)(hl:L.length<1000000):
  ACallsTo TC 71 [.ptr r 0 0] O (if L=[]then .nilsl else .sl O.length 0 L.length none 3) (if L=[]then O else O++ [some (L.map mailC)]):=by
 have ho:=h.obj
 obtain⟨junk,hj⟩:=h.rows
 have htake:(L.map mailC++junk).take L.length=L.map mailC:=by
  rw [List.take_append_of_le_length (by simp),List.take_of_length_le (by simp)]
 refine ACallsTo.of_body_keep q1yok (by simp) ?_
 by_cases hL:L=[]
 ·subst hL
  simp only [List.length_nil,List.map_nil,List.nil_append]at ho hj htake
  rw [if_pos rfl,if_pos rfl]
  repeat' (first|apply zs_|apply zb_|apply zc_|apply zt_ rfl|apply zf_ rfl|(apply zd_ rfl<;>intro ht<;>try omega)|((first|apply zr_|apply zk_|apply ze_|apply zq_|(apply callW.mk_pu;(first|exact(fun _=>z2t _ _ nodes _ ho)))|(apply callW.za;(first|exact(z2t _ _ nodes _ ho)))|(apply zG<;>intro ht));all_goals try simp (disch:=first|omega|(simp only [lens];first|done|omega)) only [go_sem,ho,hj,slOf,htake,List.length_nil,List.take_zero]))
 ·have hlen:0<L.length:=List.length_pos_iff.2 hL
  rw [if_neg hL,if_neg hL]
  repeat' (first|apply zs_|apply zb_|apply zc_|apply zt_ rfl|apply zf_ rfl|(apply zd_ rfl<;>intro ht<;>try omega)|((first|apply zr_|apply zk_|apply ze_|apply zq_|(apply callW.mk_pu;(first|exact(fun _=>z2t _ _ nodes _ ho)))|(apply callW.za;(first|exact(z2t _ _ nodes _ ho)))|(apply zG<;>intro ht));all_goals try simp (disch:=first|omega|(simp only [lens];first|done|omega)) only [go_sem,ho,hj,slOf,htake,lQm]))
def z6s(O:Store)(L:List ML):Option Nat:=if L=[]then none else some O.length
def zan(L:List ML):Store:=if L=[]then []else [some (L.map mailC)]
theorem zqy(O:Store)(r:Nat)(nodes:Int)(sid:Option Nat)(L:List ML)(h:LkIs O r nodes sid L)(h0:nodes ≠ 0)(hl:L.length<1000000):
  ACallsTo TC 71 [.ptr r 0 0] O (slOf (z6s O L) L.length 3) (O++zan L):=by
 cases sid with
 |none=>
  have e:L=[]:=by simpa [SlIs]using h.rows
  subst e
  simpa [z6s,zan,slOf]using zqw O r nodes h
 |some s=>
  have:=zqx O r s nodes L h h0 hl
  by_cases hL:L=[]
  ·simpa [z6s,zan,slOf,hL]using this
  ·simpa [z6s,zan,slOf,hL]using this
end
section
theorem lk_new{O y:Store}{r q:Nat}{nodes:Int}{sid:Option Nat}{L':List ML}{rows junk:List (List AV)}{n:Nat}(hrl:r<O.length)(hq:O.length<=q)(hy:y[q-O.length]? =some (some rows))(hr:rows=L'.map mailC++junk)(hn:n=L'.length):
  LkIs (O.set r (some [[.int .i64 nodes,.sl q 0 n none 3]])++y) r nodes (some q) L'/\ FrL O (O.set r (some [[.int .i64 nodes,.sl q 0 n none 3]])++y) r sid (some q):=by
 subst hr;subst hn
 refine⟨⟨?_,⟨junk,?_⟩,fun e=>by have:=Option.some.inj e;omega⟩,⟨by simp,fun p hp h1 h2=> ?_,fun s hs=> ?_⟩⟩
 ·rw [gapp (by simpa using hrl),z1t hrl];rfl
 ·rw [z16 (by simpa using hq),List.length_set];exact hy
 ·rw [gapp (by simpa using hp),z1a (fun e=>h1 e.symm)]
 ·right;have:=Option.some.inj hs;omega
end
section

end
section
theorem lk_any{O:Store}{r:Nat}{nodes:Int}{sid:Option Nat}{L:List ML}(h:LkIs O r nodes sid L)(L':List ML):∃O' sid',LkIs O' r nodes sid' L'/\ FrL O O' r sid sid':=by
 obtain⟨hrl,_⟩:=h.lt
 exact⟨_,_,lk_new (y:=[some (L'.map mailC)]) (q:=O.length) (L':=L') (rows:=L'.map mailC) (junk:=[]) hrl (Nat.le_refl _) (by simp) (by simp) rfl⟩
end
section
set_option maxRecDepth 10000
def q23r0:yW:=[
 yI 2 (.mv (.v (.str []))),
 yK 3 .i64 0]
def q23r1:yW:=[
 yM 7 0,
 yI 8 (.lenSl (.t 7)),
 yJ 9 .gtr 8 .i64 64]
def q23r2:yW:=[
 yI 2 (.mv (.v (.str []))),
 yK 3 .i64 2]
def q23c3:yX:=yq q23r2 .ret
def q23c4:yX:=.cond (.t 9) q23c3 .skip
def q23c5:yX:=yq q23r1 q23c4
def q23r6:yW:=[
 yI 4 (.allB)]
def q23r7:yW:=[
 yM 10 0,
 yI 11 (.lenSl (.t 10)),
 yI 12 (.conv (.int .u64) (.t 11)),
 yC 13 109 12,
 yI 14 (.bin .add .none (.v (.str [68])) (.t 13)),
 yD 15 83 4 14]
def q23r8:yW:=[
 yM 16 0,
 yI 17 (.lenSl (.t 16)),
 yK 18 .i64 0]
def q23r9:yW:=[
 yB 19 .lss 18 17]
def q23r10:yW:=[
 yI 20 (.iaSl 33 (.t 16) (.t 18)),
 yL 21 true 33 20,
 yI 6 (.alloc ((.int .i64 0)::zZ0)),
 yS 33 6 21]
def q23r11:yW:=[
 yL 22 true 33 6,
 yC 23 110 22,
 yI 24 (.un .not (.t 23))]
def q23r12:yW:=[
 yI 2 (.mv (.v (.str []))),
 yK 3 .i64 2]
def q23c13:yX:=yq q23r12 .ret
def q23c14:yX:=.cond (.t 24) q23c13 .skip
def q23c15:yX:=yq q23r11 q23c14
def q23r16:yW:=[
 yF 25 0 6,
 ⟨some 26,none,.rd,.load false 1 (.t 25)⟩,
 yI 27 (.conv (.int .u64) (.t 26)),
 ⟨some 28,none,.ef,.call (.v (.fn 109 [])) [(.t 27)]⟩,
 yF 29 1 6,
 ⟨some 30,none,.rd,.load true 32 (.t 29)⟩,
 yC 31 84 30,
 yB 32 .add 28 31,
 yD 33 83 4 32]
def q23c17:yX:=.seq q23c15 (.reg q23r16)
def q23c18:yX:=yq q23r10 q23c17
def q23r19:yW:=[
 yJ 34 .add 18 .i64 1,
 yM 18 34]
def q23c20:yX:=.seq (.block 1 q23c18) (.reg q23r19)
def q23c21:yX:=.seq (.cond (.t 19) .skip (.exit 0)) q23c20
def q23c22:yX:=yq q23r9 q23c21
def q23c23:yX:=.loop q23c22
def q23c24:yX:=.block 0 q23c23
def q23c25:yX:=yq q23r8 q23c24
def q23r26:yW:=[
 yC 35 86 4,
 yM 2 35,
 yK 3 .i64 0]
def q23c27:yX:=yq q23r26 .ret
def q23c28:yX:=.seq q23c25 q23c27
def q23c29:yX:=yq q23r7 q23c28
def q23c30:yX:=yq q23r6 q23c29
def q23c31:yX:=.seq q23c5 q23c30
def q23c32:yX:=yq q23r0 q23c31
attribute [go_sem] q23r0 q23r1 q23r2 q23r6 q23r7 q23r8 q23r9 q23r10 q23r11 q23r12 q23r16 q23r19 q23r26
theorem q23ok:cFn TC 65=some (36,[.t 2,.t 3],q23c32):=by kernel_rfl
def q24r0:yW:=[
 yI 4 (.mv (.v .nilsl))]
def q24r1:yW:=[
 yI 5 (.mv (.v .nilsl))]
def q24r2:yW:=[
 yM 8 0,
 yI 9 (.lenSl (.t 8)),
 yK 10 .i64 0]
def q24r3:yW:=[
 yB 11 .lss 10 9]
def q24r4:yW:=[
 yI 12 (.iaSl 36 (.t 8) (.t 10)),
 yL 13 true 36 12,
 yI 7 (.alloc [(.int .i64 0),(.int .u8 0),(.int .u8 0),(.int .u8 0),(.int .u8 0),(.int .u8 0),(.int .u8 0),(.int .u8 0),(.int .u8 0),(.int .u8 0),(.int .u8 0),(.int .u8 0),(.int .u8 0),(.int .u8 0),(.int .u8 0),(.int .u8 0),(.int .u8 0),(.int .u8 0),(.int .u8 0),(.int .u8 0),(.int .u8 0),(.int .u8 0),(.int .u8 0),(.int .u8 0),(.int .u8 0),(.int .u8 0),(.int .u8 0),(.int .u8 0),(.int .u8 0),(.int .u8 0),(.int .u8 0),(.int .u8 0),(.int .u8 0),(.int .i64 0),(.str []),.nilsl]),
 yS 36 7 13]
def q24r5:yW:=[
 yM 14 5,
 yI 15 (.lenSl (.t 14)),
 yJ 16 .lss 15 .i64 3,
 yM 17 16,
 yU 18 17 true true 36 7,
 yG 19 17 true (.call (.v (.fn 97 [])) [(.t 18)]),
 yQ 20 17 19,
 yM 21 20,
 yV 22 21 true 1,
 yT 23 21 true 0 7,
 yU 24 21 true true 33 23,
 yG 25 21 true (.call (.v (.fn 141 [])) [(.t 22),(.t 24)]),
 yG 26 21 true (.un .not (.t 25)),
 yQ 27 21 26]
def q24r6:yW:=[
 yF 28 33 7,
 yF 29 2 28,
 yL 30 false 1 29,
 yC 31 105 30,
 yF 32 33 7,
 yF 33 2 32,
 yS 1 33 31]
def q24r7:yW:=[
 yM 34 5,
 yL 35 true 36 7,
 yI 36 (.lit 36 [(.t 35)]),
 yI 37 (.app 36 (.t 34) (.t 36)),
 yM 5 37]
def q24c8:yX:=yq q24r6 (.reg q24r7)
def q24c9:yX:=.cond (.t 27) q24c8 .skip
def q24c10:yX:=yq q24r5 q24c9
def q24c11:yX:=yq q24r4 q24c10
def q24r12:yW:=[
 yJ 38 .add 10 .i64 1,
 yM 10 38]
def q24c13:yX:=.seq (.block 1 q24c11) (.reg q24r12)
def q24c14:yX:=.seq (.cond (.t 11) .skip (.exit 0)) q24c13
def q24c15:yX:=yq q24r3 q24c14
def q24c16:yX:=.loop q24c15
def q24c17:yX:=.block 0 q24c16
def q24c18:yX:=yq q24r2 q24c17
def q24r19:yW:=[
 yM 39 5,
 yM 4 39]
def q24c20:yX:=yq q24r19 .ret
def q24c21:yX:=.seq q24c18 q24c20
def q24c22:yX:=yq q24r1 q24c21
def q24c23:yX:=yq q24r0 q24c22
attribute [go_sem] q24r0 q24r1 q24r2 q24r3 q24r4 q24r5 q24r6 q24r7 q24r12 q24r19
theorem q24ok:cFn TC 108=some (40,[.t 4],q24c23):=by kernel_rfl
def q25r0:yW:=[
 yI 1 (.box (.t 0)),
 yI 2 (.mv (.v (.bool false)))]
def q25r1:yW:=[
 yF 3 0 1,
 yL 4 false 1 3,
 yJ 5 .geq 4 .i64 0,
 yM 6 5,
 yT 7 6 true 0 1,
 yU 8 6 true false 1 7,
 yG 9 6 true (.bin .leq .none (.t 8) (.v (.int .i64 4096))),
 yQ 10 6 9,
 yM 2 10]
def q25c2:yX:=yq q25r1 .ret
def q25c3:yX:=yq q25r0 q25c2
attribute [go_sem] q25r0 q25r1
theorem q25ok:cFn TC 110=some (11,[.t 2],q25c3):=by kernel_rfl
def q26r0:yW:=[
 yI 2 (.mv (.v .nilsl)),
 yK 3 .i64 0]
def q26r1:yW:=[
 yM 14 0,
 yI 15 (.call (.v (.fn 142 [])) [(.t 14),(.v (.str [71]))]),
 yM 13 15,
 yE 16 0 13,
 yE 17 1 13,
 yE 18 2 13,
 yM 4 16,
 yM 5 17,
 yM 6 18]
def q26r2:yW:=[
 yM 19 6,
 yI 20 (.un .not (.t 19)),
 yM 21 20,
 yV 22 21 false 4,
 yG 23 21 false (.bin .lss .none (.t 22) (.v (.int .u64 1))),
 yP 24 21 23,
 yM 25 24,
 yV 26 25 false 4,
 yG 27 25 false (.bin .gtr .none (.t 26) (.v (.int .u64 3))),
 yP 28 25 27]
def q26r3:yW:=[
 yI 2 (.mv (.v .nilsl)),
 yK 3 .i64 10]
def q26c4:yX:=yq q26r3 .ret
def q26c5:yX:=.cond (.t 28) q26c4 .skip
def q26c6:yX:=yq q26r2 q26c5
def q26r7:yW:=[
 yI 7 (.mv (.v .nilsl))]
def q26r8:yW:=[
 yM 29 4,
 yK 30 .u64 0]
def q26r9:yW:=[
 yB 31 .lss 30 29]
def q26r10:yW:=[
 yM 33 5,
 yC 34 143 33,
 yM 32 34,
 yE 35 0 32,
 yE 36 1 32,
 yE 37 2 32,
 yM 8 35,
 yM 9 36,
 yM 10 37]
def q26r11:yW:=[
 yM 39 8,
 yC 40 144 39,
 yM 38 40,
 yE 41 0 38,
 yE 42 1 38,
 yI 11 (.alloc [(.int .i64 0),(.int .u8 0),(.int .u8 0),(.int .u8 0),(.int .u8 0),(.int .u8 0),(.int .u8 0),(.int .u8 0),(.int .u8 0),(.int .u8 0),(.int .u8 0),(.int .u8 0),(.int .u8 0),(.int .u8 0),(.int .u8 0),(.int .u8 0),(.int .u8 0),(.int .u8 0),(.int .u8 0),(.int .u8 0),(.int .u8 0),(.int .u8 0),(.int .u8 0),(.int .u8 0),(.int .u8 0),(.int .u8 0),(.int .u8 0),(.int .u8 0),(.int .u8 0),(.int .u8 0),(.int .u8 0),(.int .u8 0),(.int .u8 0),(.int .i64 0),(.str []),.nilsl]),
 yS 36 11 41,
 yM 12 42]
def q26r12:yW:=[
 yM 43 10,
 yI 44 (.un .not (.t 43)),
 yM 45 44,
 yV 46 45 false 12,
 yG 47 45 false (.bin .neq .none (.t 46) (.v (.int .i64 0))),
 yP 48 45 47]
def q26r13:yW:=[
 yI 2 (.mv (.v .nilsl)),
 yK 3 .i64 10]
def q26c14:yX:=yq q26r13 .ret
def q26c15:yX:=.cond (.t 48) q26c14 .skip
def q26c16:yX:=yq q26r12 q26c15
def q26r17:yW:=[
 yM 49 7,
 yL 50 true 36 11,
 yI 51 (.lit 36 [(.t 50)]),
 yI 52 (.app 36 (.t 49) (.t 51)),
 yM 53 9,
 yM 7 52,
 yM 5 53]
def q26c18:yX:=.seq q26c16 (.reg q26r17)
def q26c19:yX:=yq q26r11 q26c18
def q26c20:yX:=yq q26r10 q26c19
def q26r21:yW:=[
 yJ 54 .add 30 .u64 1,
 yM 30 54]
def q26c22:yX:=.seq (.block 1 q26c20) (.reg q26r21)
def q26c23:yX:=.seq (.cond (.t 31) .skip (.exit 0)) q26c22
def q26c24:yX:=yq q26r9 q26c23
def q26c25:yX:=.loop q26c24
def q26c26:yX:=.block 0 q26c25
def q26c27:yX:=yq q26r8 q26c26
def q26r28:yW:=[
 yM 55 5,
 yI 56 (.bin .neq .none (.t 55) (.v (.str [])))]
def q26r29:yW:=[
 yI 2 (.mv (.v .nilsl)),
 yK 3 .i64 10]
def q26c30:yX:=yq q26r29 .ret
def q26c31:yX:=.cond (.t 56) q26c30 .skip
def q26c32:yX:=yq q26r28 q26c31
def q26r33:yW:=[
 yM 57 7,
 yM 2 57,
 yK 3 .i64 0]
def q26c34:yX:=yq q26r33 .ret
def q26c35:yX:=.seq q26c32 q26c34
def q26c36:yX:=.seq q26c27 q26c35
def q26c37:yX:=yq q26r7 q26c36
def q26c38:yX:=.seq q26c6 q26c37
def q26c39:yX:=yq q26r1 q26c38
def q26c40:yX:=yq q26r0 q26c39
attribute [go_sem] q26r0 q26r1 q26r2 q26r3 q26r7 q26r8 q26r9 q26r10 q26r11 q26r12 q26r13 q26r17 q26r21 q26r28 q26r29 q26r33
theorem q26ok:cFn TC 114=some (58,[.t 2,.t 3],q26c40):=by kernel_rfl
def q27r0:yW:=[
 yI 2 (.mv (.v .nilsl)),
 yK 3 .i64 0]
def q27r1:yW:=[
 yM 14 0,
 yI 15 (.call (.v (.fn 142 [])) [(.t 14),(.v (.str [68]))]),
 yM 13 15,
 yE 16 0 13,
 yE 17 1 13,
 yE 18 2 13,
 yM 4 16,
 yM 5 17,
 yM 6 18]
def q27r2:yW:=[
 yM 19 6,
 yI 20 (.un .not (.t 19)),
 yM 21 20,
 yV 22 21 false 4,
 yG 23 21 false (.bin .gtr .none (.t 22) (.v (.int .u64 64))),
 yP 24 21 23]
def q27r3:yW:=[
 yI 2 (.mv (.v .nilsl)),
 yK 3 .i64 10]
def q27c4:yX:=yq q27r3 .ret
def q27c5:yX:=.cond (.t 24) q27c4 .skip
def q27c6:yX:=yq q27r2 q27c5
def q27r7:yW:=[
 yI 7 (.mv (.v .nilsl))]
def q27r8:yW:=[
 yM 25 4,
 yK 26 .u64 0]
def q27r9:yW:=[
 yB 27 .lss 26 25]
def q27r10:yW:=[
 yM 29 5,
 yC 30 145 29,
 yM 28 30,
 yE 31 0 28,
 yE 32 1 28,
 yE 33 2 28,
 yM 8 31,
 yM 9 32,
 yM 10 33]
def q27r11:yW:=[
 yM 35 9,
 yC 36 146 35,
 yM 34 36,
 yE 37 0 34,
 yE 38 1 34,
 yE 39 2 34,
 yI 11 (.alloc zZ0),
 yS 32 11 37,
 yM 9 38,
 yM 12 39]
def q27r12:yW:=[
 yM 40 10,
 yI 41 (.un .not (.t 40)),
 yM 42 41,
 yV 43 42 false 12,
 yG 44 42 false (.un .not (.t 43)),
 yP 45 42 44,
 yM 46 45,
 yV 47 46 false 8,
 yG 48 46 false (.bin .gtr .none (.t 47) (.v (.int .u64 4096))),
 yP 49 46 48]
def q27r13:yW:=[
 yI 2 (.mv (.v .nilsl)),
 yK 3 .i64 10]
def q27c14:yX:=yq q27r13 .ret
def q27c15:yX:=.cond (.t 49) q27c14 .skip
def q27c16:yX:=yq q27r12 q27c15
def q27r17:yW:=[
 yM 50 7,
 yM 51 8,
 yI 52 (.conv (.int .i64) (.t 51)),
 yL 53 true 32 11,
 yI 54 (.build ((.int .i64 0)::zZ0) [(0,1,(.t 52)),(1,32,(.t 53))]),
 yI 55 (.lit 33 [(.t 54)]),
 yI 56 (.app 33 (.t 50) (.t 55)),
 yM 57 9,
 yM 7 56,
 yM 5 57]
def q27c18:yX:=.seq q27c16 (.reg q27r17)
def q27c19:yX:=yq q27r11 q27c18
def q27c20:yX:=yq q27r10 q27c19
def q27r21:yW:=[
 yJ 58 .add 26 .u64 1,
 yM 26 58]
def q27c22:yX:=.seq (.block 1 q27c20) (.reg q27r21)
def q27c23:yX:=.seq (.cond (.t 27) .skip (.exit 0)) q27c22
def q27c24:yX:=yq q27r9 q27c23
def q27c25:yX:=.loop q27c24
def q27c26:yX:=.block 0 q27c25
def q27c27:yX:=yq q27r8 q27c26
def q27r28:yW:=[
 yM 59 5,
 yI 60 (.bin .neq .none (.t 59) (.v (.str [])))]
def q27r29:yW:=[
 yI 2 (.mv (.v .nilsl)),
 yK 3 .i64 10]
def q27c30:yX:=yq q27r29 .ret
def q27c31:yX:=.cond (.t 60) q27c30 .skip
def q27c32:yX:=yq q27r28 q27c31
def q27r33:yW:=[
 yM 61 7,
 yM 2 61,
 yK 3 .i64 0]
def q27c34:yX:=yq q27r33 .ret
def q27c35:yX:=.seq q27c32 q27c34
def q27c36:yX:=.seq q27c27 q27c35
def q27c37:yX:=yq q27r7 q27c36
def q27c38:yX:=.seq q27c6 q27c37
def q27c39:yX:=yq q27r1 q27c38
def q27c40:yX:=yq q27r0 q27c39
attribute [go_sem] q27r0 q27r1 q27r2 q27r3 q27r7 q27r8 q27r9 q27r10 q27r11 q27r12 q27r13 q27r17 q27r21 q27r28 q27r29 q27r33
theorem q27ok:cFn TC 115=some (62,[.t 2,.t 3],q27c40):=by kernel_rfl
def q28r0:yW:=[
 yI 2 (.mv (.v (.str []))),
 yK 3 .i64 0]
def q28r1:yW:=[
 yM 9 0,
 yI 10 (.lenSl (.t 9)),
 yJ 11 .eql 10 .i64 0,
 yM 12 11,
 yV 13 12 false 0,
 yG 14 12 false (.lenSl (.t 13)),
 yG 15 12 false (.bin .gtr .none (.t 14) (.v (.int .i64 3))),
 yP 16 12 15]
def q28r2:yW:=[
 yI 2 (.mv (.v (.str []))),
 yK 3 .i64 2]
def q28c3:yX:=yq q28r2 .ret
def q28c4:yX:=.cond (.t 16) q28c3 .skip
def q28c5:yX:=yq q28r1 q28c4
def q28r6:yW:=[
 yI 4 (.allB)]
def q28r7:yW:=[
 yM 17 0,
 yI 18 (.lenSl (.t 17)),
 yI 19 (.conv (.int .u64) (.t 18)),
 yC 20 109 19,
 yI 21 (.bin .add .none (.v (.str [71])) (.t 20)),
 yD 22 83 4 21]
def q28r8:yW:=[
 yM 23 0,
 yI 24 (.lenSl (.t 23)),
 yK 25 .i64 0]
def q28r9:yW:=[
 yB 26 .lss 25 24]
def q28r10:yW:=[
 yI 27 (.iaSl 36 (.t 23) (.t 25)),
 yL 28 true 36 27,
 yI 6 (.alloc [(.int .i64 0),(.int .u8 0),(.int .u8 0),(.int .u8 0),(.int .u8 0),(.int .u8 0),(.int .u8 0),(.int .u8 0),(.int .u8 0),(.int .u8 0),(.int .u8 0),(.int .u8 0),(.int .u8 0),(.int .u8 0),(.int .u8 0),(.int .u8 0),(.int .u8 0),(.int .u8 0),(.int .u8 0),(.int .u8 0),(.int .u8 0),(.int .u8 0),(.int .u8 0),(.int .u8 0),(.int .u8 0),(.int .u8 0),(.int .u8 0),(.int .u8 0),(.int .u8 0),(.int .u8 0),(.int .u8 0),(.int .u8 0),(.int .u8 0),(.int .i64 0),(.str []),.nilsl]),
 yS 36 6 28]
def q28r11:yW:=[
 yL 30 true 36 6,
 yC 31 147 30,
 yM 29 31,
 yE 32 0 29,
 yE 33 1 29,
 yM 7 32,
 yM 8 33]
def q28r12:yW:=[
 yM 34 8,
 yJ 35 .neq 34 .i64 0]
def q28r13:yW:=[
 yI 2 (.mv (.v (.str []))),
 yK 3 .i64 2]
def q28c14:yX:=yq q28r13 .ret
def q28c15:yX:=.cond (.t 35) q28c14 .skip
def q28c16:yX:=yq q28r12 q28c15
def q28r17:yW:=[
 yM 36 7,
 yC 37 129 36,
 yD 38 83 4 37]
def q28c18:yX:=.seq q28c16 (.reg q28r17)
def q28c19:yX:=yq q28r11 q28c18
def q28c20:yX:=yq q28r10 q28c19
def q28r21:yW:=[
 yJ 39 .add 25 .i64 1,
 yM 25 39]
def q28c22:yX:=.seq (.block 1 q28c20) (.reg q28r21)
def q28c23:yX:=.seq (.cond (.t 26) .skip (.exit 0)) q28c22
def q28c24:yX:=yq q28r9 q28c23
def q28c25:yX:=.loop q28c24
def q28c26:yX:=.block 0 q28c25
def q28c27:yX:=yq q28r8 q28c26
def q28r28:yW:=[
 yC 40 86 4,
 yM 2 40,
 yK 3 .i64 0]
def q28c29:yX:=yq q28r28 .ret
def q28c30:yX:=.seq q28c27 q28c29
def q28c31:yX:=yq q28r7 q28c30
def q28c32:yX:=yq q28r6 q28c31
def q28c33:yX:=.seq q28c5 q28c32
def q28c34:yX:=yq q28r0 q28c33
attribute [go_sem] q28r0 q28r1 q28r2 q28r6 q28r7 q28r8 q28r9 q28r10 q28r11 q28r12 q28r13 q28r17 q28r21 q28r28
theorem q28ok:cFn TC 116=some (41,[.t 2,.t 3],q28c34):=by kernel_rfl
def q29r0:yW:=[
 yI 3 (.box (.t 1)),
 yI 4 (.mv (.v (.bool false)))]
def q29r1:yW:=[
 yM 5 0,
 yL 6 true 33 3,
 yD 7 159 5 6,
 yJ 8 .geq 7 .i64 0,
 yM 4 8]
def q29c2:yX:=yq q29r1 .ret
def q29c3:yX:=yq q29r0 q29c2
attribute [go_sem] q29r0 q29r1
theorem q29ok:cFn TC 141=some (9,[.t 4],q29c3):=by kernel_rfl
def q2ar0:yW:=[
 yK 4 .u64 0,
 yI 5 (.mv (.v (.str []))),
 yI 6 (.mv (.v (.bool false)))]
def q2ar1:yW:=[
 yM 8 0,
 yM 9 1,
 yD 10 160 8 9,
 yM 7 10,
 yE 11 0 7,
 yE 12 1 7,
 yM 5 11,
 yM 6 12]
def q2ar2:yW:=[
 yM 13 6,
 yI 14 (.un .not (.t 13))]
def q2ar3:yW:=[
 yK 4 .u64 0,
 yI 5 (.mv (.v (.str []))),
 yI 6 (.mv (.v (.bool false)))]
def q2ac4:yX:=yq q2ar3 .ret
def q2ac5:yX:=.cond (.t 14) q2ac4 .skip
def q2ac6:yX:=yq q2ar2 q2ac5
def q2ar7:yW:=[
 yM 15 5,
 yC 16 145 15,
 yE 17 0 16,
 yE 18 1 16,
 yE 19 2 16,
 yM 4 17,
 yM 5 18,
 yM 6 19]
def q2ac8:yX:=yq q2ar7 .ret
def q2ac9:yX:=.seq q2ac6 q2ac8
def q2ac10:yX:=yq q2ar1 q2ac9
def q2ac11:yX:=yq q2ar0 q2ac10
attribute [go_sem] q2ar0 q2ar1 q2ar2 q2ar3 q2ar7
theorem q2aok:cFn TC 142=some (20,[.t 4,.t 5,.t 6],q2ac11):=by kernel_rfl
def q2br0:yW:=[
 yI 3 (.box (.t 1)),
 yK 4 .i64 0]
def q2br1:yW:=[
 yM 6 0,
 yI 7 (.lenSl (.t 6)),
 yK 8 .i64 0]
def q2br2:yW:=[
 yB 9 .lss 8 7]
def q2br3:yW:=[
 yM 10 8,
 yM 5 10]
def q2br4:yW:=[
 ⟨some 11,none,.rd,.load true 33 (.t 3)⟩,
 yM 12 0,
 yM 13 5,
 yI 14 (.iaSl 33 (.t 12) (.t 13)),
 ⟨some 15,none,.rd,.load true 33 (.t 14)⟩,
 yI 16 (.bin .eql (.agg ([(.i .i64)]++(List.replicate 32 (.i .u8)++ []))) (.t 11) (.t 15))]
def q2br5:yW:=[
 yM 17 5,
 yM 4 17]
def q2bc6:yX:=yq q2br5 .ret
def q2bc7:yX:=.cond (.t 16) q2bc6 .skip
def q2bc8:yX:=yq q2br4 q2bc7
def q2bc9:yX:=yq q2br3 q2bc8
def q2br10:yW:=[
 yJ 18 .add 8 .i64 1,
 yM 8 18]
def q2bc11:yX:=.seq (.block 1 q2bc9) (.reg q2br10)
def q2bc12:yX:=.seq (.cond (.t 9) .skip (.exit 0)) q2bc11
def q2bc13:yX:=yq q2br2 q2bc12
def q2bc14:yX:=.loop q2bc13
def q2bc15:yX:=.block 0 q2bc14
def q2bc16:yX:=yq q2br1 q2bc15
def q2br17:yW:=[
 yI 4 (.mv (.v (.int .i64 (-1))))]
def q2bc18:yX:=yq q2br17 .ret
def q2bc19:yX:=.seq q2bc16 q2bc18
def q2bc20:yX:=yq q2br0 q2bc19
attribute [go_sem] q2br0 q2br1 q2br2 q2br3 q2br4 q2br5 q2br10 q2br17
theorem q2bok:cFn TC 159=some (19,[.t 4],q2bc20):=by kernel_rfl
def q2cr0:yW:=[
 yI 4 (.mv (.v (.str []))),
 yI 5 (.mv (.v (.bool false)))]
def q2cr1:yW:=[
 yM 6 0,
 yM 7 1,
 yD 8 173 6 7,
 yE 9 0 8,
 yE 10 1 8,
 yM 4 9,
 yM 5 10]
def q2cc2:yX:=yq q2cr1 .ret
def q2cc3:yX:=yq q2cr0 q2cc2
attribute [go_sem] q2cr0 q2cr1
theorem q2cok:cFn TC 160=some (11,[.t 4,.t 5],q2cc3):=by kernel_rfl
def q2dr0:yW:=[
 yI 4 (.mv (.v (.str []))),
 yI 5 (.mv (.v (.bool false)))]
def q2dr1:yW:=[
 yM 6 0,
 yM 7 1,
 yD 8 176 6 7,
 yI 9 (.un .not (.t 8))]
def q2dr2:yW:=[
 yM 10 0,
 yM 4 10,
 yI 5 (.mv (.v (.bool false)))]
def q2dc3:yX:=yq q2dr2 .ret
def q2dc4:yX:=.cond (.t 9) q2dc3 .skip
def q2dc5:yX:=yq q2dr1 q2dc4
def q2dr6:yW:=[
 yM 11 0,
 yM 12 1,
 yI 13 (.lenStr (.t 12)),
 yI 14 (.slice .str (.t 11) (some (.t 13)) none none),
 yM 4 14,
 yI 5 (.mv (.v (.bool true)))]
def q2dc7:yX:=yq q2dr6 .ret
def q2dc8:yX:=.seq q2dc5 q2dc7
def q2dc9:yX:=yq q2dr0 q2dc8
attribute [go_sem] q2dr0 q2dr1 q2dr2 q2dr6
theorem q2dok:cFn TC 173=some (15,[.t 4,.t 5],q2dc9):=by kernel_rfl
end
section
set_option maxRecDepth 10000
def q2er0:yW:=[
 yI 1 (.box (.t 0)),
 yI 2 (.mv (.v (.bool false)))]
def q2er1:yW:=[
 yL 7 true 45 1,
 yI 8 (.lit 45 [(.t 7)]),
 yI 9 (.call (.v (.fn 18 [])) [(.t 8),(.v (.int .i64 1))])]
def q2er2:yW:=[
 yI 10 (.call (.v (.fn 19 [])) []),
 yM 2 10]
def q2ec3:yX:=yq q2er2 .ret
def q2ec4:yX:=.cond (.t 9) q2ec3 .skip
def q2ec5:yX:=yq q2er1 q2ec4
def q2er6:yW:=[
 yI 3 (.mv (.v .nilp))]
def q2er7:yW:=[
 yK 4 .i64 0]
def q2er8:yW:=[
 yM 11 4,
 yJ 12 .lss 11 .i64 2]
def q2ec9:yX:=.cond (.t 12) .skip (.exit 0)
def q2ec10:yX:=yq q2er8 q2ec9
def q2er11:yW:=[
 yM 16 3,
 yF 17 43 1,
 yI 18 (.iaArr 2 1 (.t 17) (.v (.int .i64 0))),
 yL 19 false 1 18,
 yF 20 43 1,
 yI 21 (.iaArr 2 1 (.t 20) (.v (.int .i64 1))),
 yL 22 false 1 21,
 yI 23 (.call (.v (.fn 20 [])) [(.t 16),(.t 19),(.t 22)]),
 yM 15 23,
 yE 24 0 15,
 yE 25 1 15,
 yM 5 24,
 yM 6 25]
def q2er12:yW:=[
 yM 26 3,
 yF 27 7 1,
 yL 28 true 36 27,
 yI 29 (.call (.v (.fn 21 [])) [(.t 26),(.v (.int .i64 0)),(.t 28)]),
 yJ 30 .neq 29 .i64 0,
 yM 31 30,
 yV 32 31 false 3,
 yG 33 31 false (.call (.v (.fn 22 [])) [(.t 32),(.v (.int .i64 0)),(.v (.int .i64 1))]),
 yG 34 31 false (.bin .neq .none (.t 33) (.v (.int .i64 1))),
 yP 35 31 34,
 yM 36 35,
 yV 37 36 false 3,
 yG 38 36 false (.call (.v (.fn 23 [])) [(.t 37),(.v (.int .i64 0))]),
 yG 39 36 false (.bin .neq .none (.t 38) (.v (.int .i64 1))),
 yP 40 36 39,
 yM 41 40,
 yV 42 41 false 3,
 yG 43 41 false (.call (.v (.fn 24 [])) [(.t 42),(.v (.int .i64 0))]),
 yG 44 41 false (.bin .neq .none (.t 43) (.v (.int .i64 1))),
 yP 45 41 44,
 yM 46 45,
 yV 47 46 false 3,
 yG 48 46 false (.call (.v (.fn 25 [])) [(.t 47),(.v (.int .i64 0))]),
 yG 49 46 false (.bin .neq .none (.t 48) (.v (.int .i64 1))),
 yP 50 46 49,
 yM 51 50,
 yV 52 51 false 3,
 yG 53 51 false (.call (.v (.fn 26 [])) [(.t 52)]),
 yG 54 51 false (.bin .neq .none (.t 53) (.v (.int .i64 0))),
 yP 55 51 54,
 yM 56 55,
 yV 57 56 false 3,
 yG 58 56 false (.call (.v (.fn 27 [])) [(.t 57),(.v (.int .i64 0))]),
 yG 59 56 false (.bin .neq .ptr (.t 58) (.v .nilp)),
 yP 60 56 59,
 yM 61 60,
 yV 62 61 false 5,
 yG 63 61 false (.bin .neq .none (.t 62) (.v (.int .i64 0))),
 yP 64 61 63,
 yM 65 64,
 yV 66 65 false 6,
 yG 67 65 false (.bin .neq .none (.t 66) (.v (.int .i64 1))),
 yP 68 65 67]
def q2er13:yW:=[
 yI 2 (.mv (.v (.bool false)))]
def q2ec14:yX:=yq q2er13 .ret
def q2ec15:yX:=.cond (.t 68) q2ec14 .skip
def q2ec16:yX:=yq q2er12 q2ec15
def q2er17:yW:=[
 yI 69 (.build [.nilsl,.nilp] []),
 yI 70 (.box (.t 69)),
 yM 3 70]
def q2ec18:yX:=.seq q2ec16 (.reg q2er17)
def q2ec19:yX:=yq q2er11 q2ec18
def q2er20:yW:=[
 yM 13 4,
 yJ 14 .add 13 .i64 1,
 yM 4 14]
def q2ec21:yX:=.seq (.block 1 q2ec19) (.reg q2er20)
def q2ec22:yX:=.seq q2ec10 q2ec21
def q2ec23:yX:=.loop q2ec22
def q2ec24:yX:=.block 0 q2ec23
def q2ec25:yX:=yq q2er7 q2ec24
def q2er26:yW:=[
 yI 71 (.call (.v (.fn 19 [])) []),
 yM 2 71]
def q2ec27:yX:=yq q2er26 .ret
def q2ec28:yX:=.seq q2ec25 q2ec27
def q2ec29:yX:=yq q2er6 q2ec28
def q2ec30:yX:=.seq q2ec5 q2ec29
def q2ec31:yX:=yq q2er0 q2ec30
attribute [go_sem] q2er0 q2er1 q2er2 q2er6 q2er7 q2er8 q2er11 q2er12 q2er13 q2er17 q2er20 q2er26
theorem q2eok:cFn TC 4=some (72,[.t 2],q2ec31):=by kernel_rfl
def q2fr0:yW:=[
 yI 4 (.mv (.v (.bool false)))]
def q2fr1:yW:=[
 yK 5 .i64 0]
def q2fr2:yW:=[
 yM 6 5,
 yM 7 0,
 yI 8 (.lenSl (.t 7)),
 yB 9 .lss 6 8]
def q2fc3:yX:=.cond (.t 9) .skip (.exit 0)
def q2fc4:yX:=yq q2fr2 q2fc3
def q2fr5:yW:=[
 yM 12 0,
 yM 13 5,
 yI 14 (.iaSl 45 (.t 12) (.t 13)),
 yF 15 7 14,
 yF 16 33 15,
 yF 17 1 16,
 yL 18 false 1 17,
 yI 19 (.lenStr (.t 18)),
 yJ 20 .gtr 19 .i64 17000,
 yM 21 20,
 yV 22 21 false 0,
 yV 23 21 false 5,
 yG 24 21 false (.iaSl 45 (.t 22) (.t 23)),
 yT 25 21 false 7 24,
 yT 26 21 false 33 25,
 yT 27 21 false 2 26,
 yU 28 21 false false 1 27,
 yG 29 21 false (.lenSl (.t 28)),
 yG 30 21 false (.bin .gtr .none (.t 29) (.v (.int .i64 10))),
 yP 31 21 30]
def q2fr6:yW:=[
 yI 4 (.mv (.v (.bool true)))]
def q2fc7:yX:=yq q2fr6 .ret
def q2fc8:yX:=.cond (.t 31) q2fc7 .skip
def q2fc9:yX:=yq q2fr5 q2fc8
def q2fr10:yW:=[
 yM 10 5,
 yJ 11 .add 10 .i64 1,
 yM 5 11]
def q2fc11:yX:=.seq (.block 1 q2fc9) (.reg q2fr10)
def q2fc12:yX:=.seq q2fc4 q2fc11
def q2fc13:yX:=.loop q2fc12
def q2fc14:yX:=.block 0 q2fc13
def q2fc15:yX:=yq q2fr1 q2fc14
def q2fr16:yW:=[
 yM 32 0,
 yI 33 (.lenSl (.t 32)),
 yM 34 1,
 yB 35 .gtr 33 34,
 yM 4 35]
def q2fc17:yX:=yq q2fr16 .ret
def q2fc18:yX:=.seq q2fc15 q2fc17
def q2fc19:yX:=yq q2fr0 q2fc18
attribute [go_sem] q2fr0 q2fr1 q2fr2 q2fr5 q2fr6 q2fr10 q2fr16
theorem q2fok:cFn TC 18=some (36,[.t 4],q2fc19):=by kernel_rfl
def q2gr0:yW:=[
 yI 0 (.mv (.v (.bool false)))]
def q2gr1:yW:=[
 yI 9 (.call (.v (.fn 9 [])) [(.v (.str [107]))]),
 yM 1 9]
def q2gr2:yW:=[
 yM 11 1,
 yC 12 11 11,
 yI 13 (.call (.v (.fn 28 [])) [(.t 12),(.v (.int .i64 3))]),
 yM 10 13,
 yE 14 0 10,
 yE 15 1 10,
 yM 2 14,
 yM 3 15]
def q2gr3:yW:=[
 yI 16 (.build [(.int .u8 0),(.int .u8 0),(.int .u8 0),(.int .u8 0)] [(3,1,(.v (.int .u8 1)))]),
 yM 17 1,
 yD 18 12 16 17,
 yI 4 (.alloc [(.int .i64 0),(.int .u8 0),(.int .u8 0),(.int .u8 0),(.int .u8 0),(.int .u8 0),(.int .u8 0),(.int .u8 0),(.int .u8 0),(.int .u8 0),(.int .u8 0),(.int .u8 0),(.int .u8 0),(.int .u8 0),(.int .u8 0),(.int .u8 0),(.int .u8 0),(.int .u8 0),(.int .u8 0),(.int .u8 0),(.int .u8 0),(.int .u8 0),(.int .u8 0),(.int .u8 0),(.int .u8 0),(.int .u8 0),(.int .u8 0),(.int .u8 0),(.int .u8 0),(.int .u8 0),(.int .u8 0),(.int .u8 0),(.int .u8 0),(.int .i64 0),(.str []),.nilsl]),
 yS 36 4 18]
def q2gr4:yW:=[
 yM 19 3,
 yJ 20 .neq 19 .i64 0,
 yM 21 20,
 yV 22 21 false 2,
 yU 23 21 false true 36 4,
 yG 24 21 false (.call (.v (.fn 21 [])) [(.t 22),(.v (.int .i64 0)),(.t 23)]),
 yG 25 21 false (.bin .neq .none (.t 24) (.v (.int .i64 2))),
 yP 26 21 25,
 yM 27 26,
 yV 28 27 false 2,
 yG 29 27 false (.call (.v (.fn 22 [])) [(.t 28),(.v (.int .i64 1)),(.v (.int .i64 0))]),
 yG 30 27 false (.bin .neq .none (.t 29) (.v (.int .i64 0))),
 yP 31 27 30,
 yM 32 31,
 yV 33 32 false 2,
 yG 34 32 false (.call (.v (.fn 23 [])) [(.t 33),(.v (.int .i64 0))]),
 yG 35 32 false (.bin .neq .none (.t 34) (.v (.int .i64 0))),
 yP 36 32 35,
 yM 37 36,
 yV 38 37 false 2,
 yG 39 37 false (.call (.v (.fn 23 [])) [(.t 38),(.v (.int .i64 0))]),
 yG 40 37 false (.bin .neq .none (.t 39) (.v (.int .i64 0))),
 yP 41 37 40,
 yM 42 41,
 yV 43 42 false 2,
 ⟨some 44,some (42,false),.ef,.call (.v (.fn 27 [])) [(.t 43),(.v (.int .i64 1))]⟩,
 yT 45 42 false 0 4,
 ⟨some 46,some (42,false),.rd,.load true 33 (.t 45)⟩,
 yG 47 42 false (.call (.v (.fn 30 [])) [(.t 44),(.t 46)]),
 yG 48 42 false (.un .not (.t 47)),
 yP 49 42 48,
 yM 50 49,
 yV 51 50 false 2,
 yG 52 50 false (.call (.v (.fn 26 [])) [(.t 51)]),
 yG 53 50 false (.bin .neq .none (.t 52) (.v (.int .i64 0))),
 yP 54 50 53]
def q2gr5:yW:=[
 yI 0 (.mv (.v (.bool false)))]
def q2gc6:yX:=yq q2gr5 .ret
def q2gc7:yX:=.cond (.t 54) q2gc6 .skip
def q2gc8:yX:=yq q2gr4 q2gc7
def q2gr9:yW:=[
 yM 56 2,
 yI 57 (.call (.v (.fn 20 [])) [(.t 56),(.v (.int .i64 1)),(.v (.int .i64 2))]),
 yM 55 57,
 yE 58 0 55,
 yE 59 1 55,
 yM 5 58,
 yM 6 59]
def q2gr10:yW:=[
 yM 61 2,
 yI 62 (.call (.v (.fn 20 [])) [(.t 61),(.v (.int .i64 1)),(.v (.int .i64 2))]),
 yM 60 62,
 yE 63 0 60,
 yE 64 1 60,
 yM 7 63,
 yM 8 64]
def q2gr11:yW:=[
 yM 65 5,
 yJ 66 .eql 65 .i64 4,
 yM 67 66,
 yV 68 67 true 6,
 yG 69 67 true (.bin .eql .none (.t 68) (.v (.int .i64 0))),
 yQ 70 67 69,
 yM 71 70,
 yV 72 71 true 7,
 yG 73 71 true (.bin .eql .none (.t 72) (.v (.int .i64 2))),
 yQ 74 71 73,
 yM 75 74,
 yV 76 75 true 8,
 yG 77 75 true (.bin .eql .none (.t 76) (.v (.int .i64 0))),
 yQ 78 75 77,
 yM 79 78,
 yV 80 79 true 2,
 ⟨some 81,some (79,true),.ef,.call (.v (.fn 27 [])) [(.t 80),(.v (.int .i64 2))]⟩,
 yT 82 79 true 0 4,
 ⟨some 83,some (79,true),.rd,.load true 33 (.t 82)⟩,
 yG 84 79 true (.call (.v (.fn 30 [])) [(.t 81),(.t 83)]),
 yQ 85 79 84,
 yM 0 85]
def q2gc12:yX:=yq q2gr11 .ret
def q2gc13:yX:=yq q2gr10 q2gc12
def q2gc14:yX:=yq q2gr9 q2gc13
def q2gc15:yX:=.seq q2gc8 q2gc14
def q2gc16:yX:=yq q2gr3 q2gc15
def q2gc17:yX:=yq q2gr2 q2gc16
def q2gc18:yX:=yq q2gr1 q2gc17
def q2gc19:yX:=yq q2gr0 q2gc18
attribute [go_sem] q2gr0 q2gr1 q2gr2 q2gr3 q2gr4 q2gr5 q2gr9 q2gr10 q2gr11
theorem q2gok:cFn TC 19=some (86,[.t 0],q2gc19):=by kernel_rfl
def q2hr0:yW:=[
 yK 6 .i64 0,
 yK 7 .i64 0]
def q2hr1:yW:=[
 yM 9 0,
 yC 10 62 9,
 yM 8 10]
def q2hr2:yW:=[
 yK 6 .i64 0,
 yK 7 .i64 1]
def q2hc3:yX:=yq q2hr2 .ret
def q2hr4:yW:=[
 yM 12 0,
 yM 13 1,
 yD 14 63 12 13,
 yI 15 (.un .not (.t 14)),
 yM 16 15,
 yV 17 16 false 0,
 yV 18 16 false 2,
 yG 19 16 false (.call (.v (.fn 63 [])) [(.t 17),(.t 18)]),
 yG 20 16 false (.un .not (.t 19)),
 yP 21 16 20,
 yM 22 21,
 yV 23 22 false 1,
 yV 24 22 false 2,
 yG 25 22 false (.bin .eql .none (.t 23) (.t 24)),
 yP 26 22 25,
 yM 11 26]
def q2hr5:yW:=[
 yK 6 .i64 0,
 yK 7 .i64 2]
def q2hc6:yX:=yq q2hr5 .ret
def q2hc7:yX:=.cond (.t 11) q2hc6 .skip
def q2hc8:yX:=yq q2hr4 q2hc7
def q2hc9:yX:=.cond (.t 8) q2hc3 q2hc8
def q2hc10:yX:=yq q2hr1 q2hc9
def q2hr11:yW:=[
 yM 27 0,
 yM 28 1,
 yM 29 2,
 yI 30 (.call (.v (.fn 64 [])) [(.t 27),(.t 28),(.t 29)]),
 yM 31 0,
 yM 32 2,
 yM 33 1,
 yI 34 (.call (.v (.fn 64 [])) [(.t 31),(.t 32),(.t 33)]),
 yB 35 .add 30 34,
 yM 6 35,
 yK 7 .i64 0]
def q2hc12:yX:=yq q2hr11 .ret
def q2hc13:yX:=.seq (.block 0 q2hc10) q2hc12
def q2hc14:yX:=yq q2hr0 q2hc13
attribute [go_sem] q2hr0 q2hr1 q2hr2 q2hr4 q2hr5 q2hr11
theorem q2hok:cFn TC 20=some (36,[.t 6,.t 7],q2hc14):=by kernel_rfl
def q2ir0:yW:=[
 yI 5 (.box (.t 2)),
 yK 6 .i64 0]
def q2ir1:yW:=[
 yM 7 0,
 yM 8 1,
 yD 9 63 7 8,
 yI 10 (.un .not (.t 9))]
def q2ir2:yW:=[
 yK 6 .i64 0]
def q2ic3:yX:=yq q2ir2 .ret
def q2ic4:yX:=.cond (.t 10) q2ic3 .skip
def q2ic5:yX:=yq q2ir1 q2ic4
def q2ir6:yW:=[
 yM 11 0,
 yI 12 (.nilc (.t 11)),
 yF 13 0 12,
 ⟨some 14,none,.rd,.load false 1 (.t 13)⟩,
 yM 15 1,
 yI 16 (.iaSl 1 (.t 14) (.t 15)),
 ⟨some 17,none,.rd,.load false 1 (.t 16)⟩,
 ⟨some 18,none,.rd,.load true 36 (.t 5)⟩,
 yD 19 14 17 18,
 yM 6 19]
def q2ic7:yX:=yq q2ir6 .ret
def q2ic8:yX:=.seq q2ic5 q2ic7
def q2ic9:yX:=yq q2ir0 q2ic8
attribute [go_sem] q2ir0 q2ir1 q2ir2 q2ir6
theorem q2iok:cFn TC 21=some (20,[.t 6],q2ic9):=by kernel_rfl
def q2jr0:yW:=[
 yK 6 .i64 0]
def q2jr1:yW:=[
 yM 10 0,
 yC 11 62 10,
 yM 9 11]
def q2jr2:yW:=[
 yK 6 .i64 1]
def q2jc3:yX:=yq q2jr2 .ret
def q2jr4:yW:=[
 yM 13 0,
 yM 14 1,
 yD 15 63 13 14,
 yI 16 (.un .not (.t 15)),
 yM 17 16,
 yV 18 17 false 0,
 yV 19 17 false 2,
 yG 20 17 false (.call (.v (.fn 63 [])) [(.t 18),(.t 19)]),
 yG 21 17 false (.un .not (.t 20)),
 yP 22 17 21,
 yM 23 22,
 yV 24 23 false 1,
 yV 25 23 false 2,
 yG 26 23 false (.bin .eql .none (.t 24) (.t 25)),
 yP 27 23 26,
 yM 12 27]
def q2jr5:yW:=[
 yK 6 .i64 2]
def q2jc6:yX:=yq q2jr5 .ret
def q2jc7:yX:=.cond (.t 12) q2jc6 .skip
def q2jc8:yX:=yq q2jr4 q2jc7
def q2jc9:yX:=.cond (.t 9) q2jc3 q2jc8
def q2jc10:yX:=yq q2jr1 q2jc9
def q2jr11:yW:=[
 yM 29 0,
 yI 30 (.nilc (.t 29)),
 yF 31 0 30,
 yL 32 false 1 31,
 yM 33 1,
 yI 34 (.iaSl 1 (.t 32) (.t 33)),
 yL 35 false 1 34,
 yC 36 29 35,
 yC 37 65 36,
 yM 28 37,
 yE 38 0 28,
 yE 39 1 28,
 yM 7 38,
 yM 8 39]
def q2jr12:yW:=[
 yM 40 8,
 yJ 41 .neq 40 .i64 0]
def q2jr13:yW:=[
 yM 42 8,
 yM 6 42]
def q2jc14:yX:=yq q2jr13 .ret
def q2jc15:yX:=.cond (.t 41) q2jc14 .skip
def q2jc16:yX:=yq q2jr12 q2jc15
def q2jr17:yW:=[
 yM 43 0,
 yI 44 (.nilc (.t 43)),
 yF 45 1 44,
 yL 46 false 1 45,
 yM 47 1,
 yM 48 2,
 yM 49 7,
 yI 50 (.build [(.int .i64 0),(.int .i64 0),(.str [])] [(0,1,(.t 47)),(1,1,(.t 48)),(2,1,(.t 49))]),
 yD 51 66 46 50,
 yM 6 51]
def q2jc18:yX:=yq q2jr17 .ret
def q2jc19:yX:=.seq q2jc16 q2jc18
def q2jc20:yX:=yq q2jr11 q2jc19
def q2jc21:yX:=.seq (.block 0 q2jc10) q2jc20
def q2jc22:yX:=yq q2jr0 q2jc21
attribute [go_sem] q2jr0 q2jr1 q2jr2 q2jr4 q2jr5 q2jr11 q2jr12 q2jr13 q2jr17
theorem q2jok:cFn TC 22=some (52,[.t 6],q2jc22):=by kernel_rfl
def q2kr0:yW:=[
 yK 4 .i64 0]
def q2kr1:yW:=[
 yM 7 0,
 yC 8 62 7]
def q2kr2:yW:=[
 yK 4 .i64 1]
def q2kc3:yX:=yq q2kr2 .ret
def q2kc4:yX:=.cond (.t 8) q2kc3 .skip
def q2kc5:yX:=yq q2kr1 q2kc4
def q2kr6:yW:=[
 yM 10 0,
 yI 11 (.nilc (.t 10)),
 yF 12 1 11,
 yL 13 false 1 12,
 yM 14 1,
 yD 15 67 13 14,
 yM 9 15,
 yE 16 0 9,
 yE 17 1 9,
 yI 5 (.alloc [(.int .i64 0),(.int .i64 0),(.str [])]),
 yS 3 5 16,
 yM 6 17]
def q2kr7:yW:=[
 yM 18 6,
 yJ 19 .eql 18 .i64 0]
def q2kr8:yW:=[
 yM 20 0,
 yL 21 true 3 5,
 yD 22 68 20 21]
def q2kc9:yX:=.cond (.t 19) (.reg q2kr8) .skip
def q2kc10:yX:=yq q2kr7 q2kc9
def q2kr11:yW:=[
 yM 23 6,
 yM 4 23]
def q2kc12:yX:=yq q2kr11 .ret
def q2kc13:yX:=.seq q2kc10 q2kc12
def q2kc14:yX:=yq q2kr6 q2kc13
def q2kc15:yX:=.seq q2kc5 q2kc14
def q2kc16:yX:=yq q2kr0 q2kc15
attribute [go_sem] q2kr0 q2kr1 q2kr2 q2kr6 q2kr7 q2kr8 q2kr11
theorem q2kok:cFn TC 23=some (24,[.t 4],q2kc16):=by kernel_rfl
def q2lr0:yW:=[
 yK 4 .i64 0]
def q2lr1:yW:=[
 yM 5 0,
 yC 6 62 5]
def q2lr2:yW:=[
 yK 4 .i64 1]
def q2lc3:yX:=yq q2lr2 .ret
def q2lc4:yX:=.cond (.t 6) q2lc3 .skip
def q2lc5:yX:=yq q2lr1 q2lc4
def q2lr6:yW:=[
 yM 7 0,
 yI 8 (.nilc (.t 7)),
 yF 9 1 8,
 yL 10 false 1 9,
 yM 11 1,
 yD 12 69 10 11,
 yM 4 12]
def q2lc7:yX:=yq q2lr6 .ret
def q2lc8:yX:=.seq q2lc5 q2lc7
def q2lc9:yX:=yq q2lr0 q2lc8
attribute [go_sem] q2lr0 q2lr1 q2lr2 q2lr6
theorem q2lok:cFn TC 24=some (13,[.t 4],q2lc9):=by kernel_rfl
def q2mr0:yW:=[
 yK 4 .i64 0]
def q2mr1:yW:=[
 yM 5 0,
 yC 6 62 5]
def q2mr2:yW:=[
 yK 4 .i64 1]
def q2mc3:yX:=yq q2mr2 .ret
def q2mc4:yX:=.cond (.t 6) q2mc3 .skip
def q2mc5:yX:=yq q2mr1 q2mc4
def q2mr6:yW:=[
 yM 7 0,
 yI 8 (.nilc (.t 7)),
 yF 9 1 8,
 yL 10 false 1 9,
 yM 11 1,
 yD 12 70 10 11,
 yM 4 12]
def q2mc7:yX:=yq q2mr6 .ret
def q2mc8:yX:=.seq q2mc5 q2mc7
def q2mc9:yX:=yq q2mr0 q2mc8
attribute [go_sem] q2mr0 q2mr1 q2mr2 q2mr6
theorem q2mok:cFn TC 25=some (13,[.t 4],q2mc9):=by kernel_rfl
def q2nr0:yW:=[
 yK 2 .i64 0]
def q2nr1:yW:=[
 yM 3 0,
 yC 4 62 3]
def q2nr2:yW:=[
 yK 2 .i64 0]
def q2nc3:yX:=yq q2nr2 .ret
def q2nc4:yX:=.cond (.t 4) q2nc3 .skip
def q2nc5:yX:=yq q2nr1 q2nc4
def q2nr6:yW:=[
 yM 5 0,
 yI 6 (.nilc (.t 5)),
 yF 7 1 6,
 yL 8 false 1 7,
 yC 9 71 8,
 yI 10 (.lenSl (.t 9)),
 yM 2 10]
def q2nc7:yX:=yq q2nr6 .ret
def q2nc8:yX:=.seq q2nc5 q2nc7
def q2nc9:yX:=yq q2nr0 q2nc8
attribute [go_sem] q2nr0 q2nr1 q2nr2 q2nr6
theorem q2nok:cFn TC 26=some (11,[.t 2],q2nc9):=by kernel_rfl
def q2or0:yW:=[
 yI 4 (.mv (.v .nilp))]
def q2or1:yW:=[
 yM 5 0,
 yM 6 1,
 yD 7 63 5 6,
 yI 8 (.un .not (.t 7))]
def q2or2:yW:=[
 yI 4 (.mv (.v .nilp))]
def q2oc3:yX:=yq q2or2 .ret
def q2oc4:yX:=.cond (.t 8) q2oc3 .skip
def q2oc5:yX:=yq q2or1 q2oc4
def q2or6:yW:=[
 yM 9 0,
 yI 10 (.nilc (.t 9)),
 yF 11 0 10,
 yL 12 false 1 11,
 yM 13 1,
 yI 14 (.iaSl 1 (.t 12) (.t 13)),
 yL 15 false 1 14,
 yC 16 13 15,
 yM 4 16]
def q2oc7:yX:=yq q2or6 .ret
def q2oc8:yX:=.seq q2oc5 q2oc7
def q2oc9:yX:=yq q2or0 q2oc8
attribute [go_sem] q2or0 q2or1 q2or2 q2or6
theorem q2ook:cFn TC 27=some (17,[.t 4],q2oc9):=by kernel_rfl
def q2pr0:yW:=[
 yI 2 (.box (.t 0)),
 yI 4 (.mv (.v .nilp)),
 yK 5 .i64 0]
def q2pr1:yW:=[
 yM 9 1,
 yJ 10 .lss 9 .i64 2,
 yM 11 10,
 yV 12 11 false 1,
 yG 13 11 false (.bin .gtr .none (.t 12) (.v (.int .i64 8))),
 yP 14 11 13]
def q2pr2:yW:=[
 yI 4 (.mv (.v .nilp)),
 yK 5 .i64 2]
def q2pc3:yX:=yq q2pr2 .ret
def q2pc4:yX:=.cond (.t 14) q2pc3 .skip
def q2pc5:yX:=yq q2pr1 q2pc4
def q2pr6:yW:=[
 yM 16 1,
 yC 17 72 16,
 yM 15 17,
 yE 18 0 15,
 yE 19 1 15,
 yM 6 18,
 yM 7 19]
def q2pr7:yW:=[
 yM 20 7,
 yJ 21 .neq 20 .i64 0]
def q2pr8:yW:=[
 yM 22 7,
 yI 4 (.mv (.v .nilp)),
 yM 5 22]
def q2pc9:yX:=yq q2pr8 .ret
def q2pc10:yX:=.cond (.t 21) q2pc9 .skip
def q2pc11:yX:=yq q2pr7 q2pc10
def q2pr12:yW:=[
 yM 23 6,
 yI 24 (.build [.nilsl,.nilp] [(1,1,(.t 23))]),
 yI 25 (.box (.t 24)),
 yM 8 25]
def q2pr13:yW:=[
 yM 26 1,
 yK 27 .i64 0]
def q2pr14:yW:=[
 yB 28 .lss 27 26]
def q2pr15:yW:=[
 yM 29 8,
 yM 30 8,
 yI 31 (.nilc (.t 30)),
 yF 32 0 31,
 ⟨some 33,none,.rd,.load false 1 (.t 32)⟩,
 ⟨some 34,none,.rd,.load true 32 (.t 2)⟩,
 ⟨some 35,none,.ef,.call (.v (.fn 10 [])) [(.t 34)]⟩,
 yI 36 (.lit 1 [(.t 35)]),
 yI 37 (.app 1 (.t 33) (.t 36)),
 yI 38 (.nilc (.t 29)),
 yF 39 0 38,
 yS 1 39 37]
def q2pr16:yW:=[
 yJ 40 .add 27 .i64 1,
 yM 27 40]
def q2pc17:yX:=.seq (.block 1 (.reg q2pr15)) (.reg q2pr16)
def q2pc18:yX:=.seq (.cond (.t 28) .skip (.exit 0)) q2pc17
def q2pc19:yX:=yq q2pr14 q2pc18
def q2pc20:yX:=.loop q2pc19
def q2pc21:yX:=.block 0 q2pc20
def q2pc22:yX:=yq q2pr13 q2pc21
def q2pr23:yW:=[
 yM 41 8,
 yM 4 41,
 yK 5 .i64 0]
def q2pc24:yX:=yq q2pr23 .ret
def q2pc25:yX:=.seq q2pc22 q2pc24
def q2pc26:yX:=yq q2pr12 q2pc25
def q2pc27:yX:=.seq q2pc11 q2pc26
def q2pc28:yX:=yq q2pr6 q2pc27
def q2pc29:yX:=.seq q2pc5 q2pc28
def q2pc30:yX:=yq q2pr0 q2pc29
attribute [go_sem] q2pr0 q2pr1 q2pr2 q2pr6 q2pr7 q2pr8 q2pr12 q2pr13 q2pr14 q2pr15 q2pr16 q2pr23
theorem q2pok:cFn TC 28=some (42,[.t 4,.t 5],q2pc30):=by kernel_rfl
def q2qr0:yW:=[
 yI 2 (.mv (.v (.bool false)))]
def q2qr1:yW:=[
 yM 3 0,
 yI 4 (.bin .eql .ptr (.t 3) (.v .nilp)),
 yM 5 4,
 yV 6 5 false 0,
 yG 7 5 false (.nilc (.t 6)),
 yT 8 5 false 0 7,
 yU 9 5 false false 1 8,
 yG 10 5 false (.lenSl (.t 9)),
 yG 11 5 false (.bin .eql .none (.t 10) (.v (.int .i64 0))),
 yP 12 5 11,
 yM 2 12]
def q2qc2:yX:=yq q2qr1 .ret
def q2qc3:yX:=yq q2qr0 q2qc2
attribute [go_sem] q2qr0 q2qr1
theorem q2qok:cFn TC 62=some (13,[.t 2],q2qc3):=by kernel_rfl
def q2rr0:yW:=[
 yI 4 (.mv (.v (.bool false)))]
def q2rr1:yW:=[
 yM 5 0,
 yI 6 (.bin .neq .ptr (.t 5) (.v .nilp)),
 yM 7 6,
 yV 8 7 true 1,
 yG 9 7 true (.bin .geq .none (.t 8) (.v (.int .i64 0))),
 yQ 10 7 9,
 yM 11 10,
 yV 12 11 true 1,
 yV 13 11 true 0,
 yG 14 11 true (.nilc (.t 13)),
 yT 15 11 true 0 14,
 yU 16 11 true false 1 15,
 yG 17 11 true (.lenSl (.t 16)),
 yG 18 11 true (.bin .lss .none (.t 12) (.t 17)),
 yQ 19 11 18,
 yM 4 19]
def q2rc2:yX:=yq q2rr1 .ret
def q2rc3:yX:=yq q2rr0 q2rc2
attribute [go_sem] q2rr0 q2rr1
theorem q2rok:cFn TC 63=some (20,[.t 4],q2rc3):=by kernel_rfl
def q2sr0:yW:=[
 yK 6 .i64 0]
def q2sr1:yW:=[
 yK 7 .i64 1]
def q2sr2:yW:=[
 yM 15 0,
 yI 16 (.nilc (.t 15)),
 yF 17 0 16,
 ⟨some 18,none,.rd,.load false 1 (.t 17)⟩,
 yM 19 2,
 yI 20 (.iaSl 1 (.t 18) (.t 19)),
 ⟨some 21,none,.rd,.load false 1 (.t 20)⟩,
 ⟨some 22,none,.ef,.call (.v (.fn 46 [])) [(.t 21)]⟩,
 yM 23 0,
 yI 24 (.nilc (.t 23)),
 yF 25 0 24,
 ⟨some 26,none,.rd,.load false 1 (.t 25)⟩,
 yM 27 1,
 yI 28 (.iaSl 1 (.t 26) (.t 27)),
 ⟨some 29,none,.rd,.load false 1 (.t 28)⟩,
 yC 30 29 29,
 yD 31 108 22 30,
 yM 8 31]
def q2sr3:yW:=[
 yI 9 (.mv (.v (.bool false)))]
def q2sr4:yW:=[
 yM 32 8,
 yI 33 (.lenSl (.t 32)),
 yK 34 .i64 0]
def q2sr5:yW:=[
 yB 35 .lss 34 33]
def q2sr6:yW:=[
 yI 36 (.iaSl 36 (.t 32) (.t 34)),
 yL 37 true 36 36,
 yI 11 (.alloc [(.int .i64 0),(.int .u8 0),(.int .u8 0),(.int .u8 0),(.int .u8 0),(.int .u8 0),(.int .u8 0),(.int .u8 0),(.int .u8 0),(.int .u8 0),(.int .u8 0),(.int .u8 0),(.int .u8 0),(.int .u8 0),(.int .u8 0),(.int .u8 0),(.int .u8 0),(.int .u8 0),(.int .u8 0),(.int .u8 0),(.int .u8 0),(.int .u8 0),(.int .u8 0),(.int .u8 0),(.int .u8 0),(.int .u8 0),(.int .u8 0),(.int .u8 0),(.int .u8 0),(.int .u8 0),(.int .u8 0),(.int .u8 0),(.int .u8 0),(.int .i64 0),(.str []),.nilsl]),
 yS 36 11 37]
def q2sr7:yW:=[
 yM 38 0,
 yI 39 (.nilc (.t 38)),
 yF 40 0 39,
 ⟨some 41,none,.rd,.load false 1 (.t 40)⟩,
 yM 42 1,
 yI 43 (.iaSl 1 (.t 41) (.t 42)),
 ⟨some 44,none,.rd,.load false 1 (.t 43)⟩,
 ⟨some 45,none,.rd,.load true 36 (.t 11)⟩,
 yD 46 14 44 45,
 yM 12 46]
def q2sr8:yW:=[
 yM 47 9,
 yM 48 47,
 yV 49 48 false 12,
 yG 50 48 false (.bin .eql .none (.t 49) (.v (.int .i64 2))),
 yP 51 48 50,
 yM 52 51,
 yV 53 52 false 12,
 yG 54 52 false (.bin .eql .none (.t 53) (.v (.int .i64 3))),
 yP 55 52 54,
 yM 9 55]
def q2sc9:yX:=yq q2sr7 (.reg q2sr8)
def q2sc10:yX:=yq q2sr6 q2sc9
def q2sr11:yW:=[
 yJ 56 .add 34 .i64 1,
 yM 34 56]
def q2sc12:yX:=.seq (.block 3 q2sc10) (.reg q2sr11)
def q2sc13:yX:=.seq (.cond (.t 35) .skip (.exit 2)) q2sc12
def q2sc14:yX:=yq q2sr5 q2sc13
def q2sc15:yX:=.loop q2sc14
def q2sc16:yX:=.block 2 q2sc15
def q2sc17:yX:=yq q2sr4 q2sc16
def q2sr18:yW:=[
 yM 57 8,
 yI 58 (.lenSl (.t 57)),
 yJ 59 .eql 58 .i64 0]
def q2sr19:yW:=[
 yM 60 7,
 yM 6 60]
def q2sc20:yX:=yq q2sr19 .ret
def q2sc21:yX:=.cond (.t 59) q2sc20 .skip
def q2sc22:yX:=yq q2sr18 q2sc21
def q2sr23:yW:=[
 yM 61 9,
 yI 62 (.un .not (.t 61))]
def q2sr24:yW:=[
 yM 63 7,
 yJ 64 .add 63 .i64 1,
 yM 6 64]
def q2sc25:yX:=yq q2sr24 .ret
def q2sc26:yX:=.cond (.t 62) q2sc25 .skip
def q2sc27:yX:=yq q2sr23 q2sc26
def q2sc28:yX:=.seq q2sc22 q2sc27
def q2sc29:yX:=.seq q2sc17 q2sc28
def q2sc30:yX:=yq q2sr3 q2sc29
def q2sc31:yX:=yq q2sr2 q2sc30
def q2sr32:yW:=[
 yM 13 7,
 yJ 14 .add 13 .i64 2,
 yM 7 14]
def q2sc33:yX:=.seq (.block 1 q2sc31) (.reg q2sr32)
def q2sc34:yX:=.loop q2sc33
def q2sc35:yX:=.block 0 q2sc34
def q2sc36:yX:=yq q2sr1 q2sc35
def q2sc37:yX:=yq q2sr0 q2sc36
attribute [go_sem] q2sr0 q2sr1 q2sr2 q2sr3 q2sr4 q2sr5 q2sr6 q2sr7 q2sr8 q2sr11 q2sr18 q2sr19 q2sr23 q2sr24 q2sr32
theorem q2sok:cFn TC 64=some (65,[.t 6],q2sc37):=by kernel_rfl
def q2tr0:yW:=[
 yI 3 (.box (.t 1))]
def q2tr1:yW:=[
 yF 13 2 3,
 yL 14 false 1 13,
 yC 15 114 14,
 yM 12 15,
 yE 16 0 12,
 yE 17 1 12,
 yM 4 16,
 yM 5 17]
def q2tr2:yW:=[
 yM 18 5,
 yJ 19 .eql 18 .i64 0]
def q2tr3:yW:=[
 yM 20 4,
 yI 21 (.lenSl (.t 20)),
 yK 22 .i64 0]
def q2tr4:yW:=[
 yB 23 .lss 22 21]
def q2tr5:yW:=[
 yI 24 (.iaSl 36 (.t 20) (.t 22)),
 yL 25 true 36 24,
 yI 7 (.alloc [(.int .i64 0),(.int .u8 0),(.int .u8 0),(.int .u8 0),(.int .u8 0),(.int .u8 0),(.int .u8 0),(.int .u8 0),(.int .u8 0),(.int .u8 0),(.int .u8 0),(.int .u8 0),(.int .u8 0),(.int .u8 0),(.int .u8 0),(.int .u8 0),(.int .u8 0),(.int .u8 0),(.int .u8 0),(.int .u8 0),(.int .u8 0),(.int .u8 0),(.int .u8 0),(.int .u8 0),(.int .u8 0),(.int .u8 0),(.int .u8 0),(.int .u8 0),(.int .u8 0),(.int .u8 0),(.int .u8 0),(.int .u8 0),(.int .u8 0),(.int .i64 0),(.str []),.nilsl]),
 yS 36 7 25]
def q2tr6:yW:=[
 yM 26 0,
 yI 27 (.nilc (.t 26)),
 yF 28 0 27,
 ⟨some 29,none,.rd,.load false 1 (.t 28)⟩,
 yF 30 1 3,
 ⟨some 31,none,.rd,.load false 1 (.t 30)⟩,
 yI 32 (.iaSl 1 (.t 29) (.t 31)),
 ⟨some 33,none,.rd,.load false 1 (.t 32)⟩,
 ⟨some 34,none,.rd,.load true 36 (.t 7)⟩,
 yD 35 14 33 34]
def q2tc7:yX:=yq q2tr5 (.reg q2tr6)
def q2tr8:yW:=[
 yJ 36 .add 22 .i64 1,
 yM 22 36]
def q2tc9:yX:=.seq (.block 1 q2tc7) (.reg q2tr8)
def q2tc10:yX:=.seq (.cond (.t 23) .skip (.exit 0)) q2tc9
def q2tc11:yX:=yq q2tr4 q2tc10
def q2tc12:yX:=.loop q2tc11
def q2tc13:yX:=.block 0 q2tc12
def q2tc14:yX:=yq q2tr3 q2tc13
def q2tc15:yX:=.seq q2tc14 .ret
def q2tc16:yX:=.cond (.t 19) q2tc15 .skip
def q2tc17:yX:=yq q2tr2 q2tc16
def q2tc18:yX:=yq q2tr1 q2tc17
def q2tr19:yW:=[
 yF 38 2 3,
 yL 39 false 1 38,
 yC 40 115 39,
 yM 37 40,
 yE 41 0 37,
 yE 42 1 37,
 yM 8 41,
 yM 9 42]
def q2tr20:yW:=[
 yM 43 9,
 yJ 44 .neq 43 .i64 0]
def q2tc21:yX:=.cond (.t 44) .ret .skip
def q2tc22:yX:=yq q2tr20 q2tc21
def q2tr23:yW:=[
 yM 46 0,
 yI 47 (.nilc (.t 46)),
 yF 48 0 47,
 ⟨some 49,none,.rd,.load false 1 (.t 48)⟩,
 yF 50 1 3,
 ⟨some 51,none,.rd,.load false 1 (.t 50)⟩,
 yI 52 (.iaSl 1 (.t 49) (.t 51)),
 yL 53 false 1 52,
 yC 54 46 53,
 yM 55 8,
 yD 56 108 54 55,
 yC 57 116 56,
 yM 45 57,
 yE 58 0 45,
 yE 59 1 45,
 yM 10 58,
 yM 11 59]
def q2tr24:yW:=[
 yM 60 11,
 yJ 61 .eql 60 .i64 0]
def q2tr25:yW:=[
 yM 62 0,
 yI 63 (.nilc (.t 62)),
 yF 64 1 63,
 ⟨some 65,none,.rd,.load false 1 (.t 64)⟩,
 yF 66 1 3,
 ⟨some 67,none,.rd,.load false 1 (.t 66)⟩,
 yF 68 0 3,
 ⟨some 69,none,.rd,.load false 1 (.t 68)⟩,
 yM 70 10,
 yI 71 (.build [(.int .i64 0),(.int .i64 0),(.str [])] [(0,1,(.t 67)),(1,1,(.t 69)),(2,1,(.t 70))]),
 yD 72 66 65 71]
def q2tc26:yX:=.cond (.t 61) (.reg q2tr25) .skip
def q2tc27:yX:=yq q2tr24 q2tc26
def q2tc28:yX:=yq q2tr23 q2tc27
def q2tc29:yX:=.seq q2tc22 q2tc28
def q2tc30:yX:=yq q2tr19 q2tc29
def q2tc31:yX:=.seq q2tc18 q2tc30
def q2tc32:yX:=yq q2tr0 q2tc31
attribute [go_sem] q2tr0 q2tr1 q2tr2 q2tr3 q2tr4 q2tr5 q2tr6 q2tr8 q2tr19 q2tr20 q2tr23 q2tr24 q2tr25
theorem zdo:cFn TC 68=some (73,[],q2tc32):=by kernel_rfl
end
section
abbrev NH:=Int × Hash
def knP(l:List NH):List (List AV):=l.map fun p=> .int .i64 p.1::hc p.2
theorem zi(l:List NH):(knP l).length=l.length:=by simp [knP]
theorem zhw{l:List NH}{i:Nat}(h:i<l.length):(knP l)[i]? =some (.int .i64 l[i].1::hc l[i].2):=by simp [knP,List.getElem?_eq_getElem h]
theorem zhx(P:List Hdr):kn P=knP (hns P):=by simp [kn,knP,hns]
def nhS(p:NH):List UInt8:=numS p.1.toNat++p.2.1
def z1x(l:List NH):List UInt8:=(l.map nhS).flatten
def knS(l:List NH):List UInt8:=68::(numS l.length++z1x l)
def nhOk(p:NH):Bool:=decide (0<=p.1/\ p.1<=4096)
theorem zrg{l:List NH}{i:Nat}(h:i<l.length):z1x (l.take (i+1))=z1x (l.take i)++nhS l[i]:=by
 unfold z1x;rw [List.take_succ_eq_append_getElem h,List.map_append,List.flatten_append];simp
theorem zig(p:NH):(nhS p).length<=43:=by
 unfold nhS;have:=z1y p.1.toNat;have:=p.2.2;rw [List.length_append];omega
theorem nhS_ne(p:NH):nhS p ≠ []:=fun e=>by
 have h1:(nhS p).length=0:=by rw [e];rfl
 have h2:=p.2.2
 unfold nhS at h1
 rw [List.length_append]at h1
 omega
theorem z6t:∀l:List NH,(z1x l).length<=43*l.length
 | []=>by simp [z1x]
 |p::l=>by
  have:=z6t l
  have h:=zig p
  unfold z1x at this ⊢
  simp only [List.map_cons,List.flatten_cons,List.length_append,List.length_cons]
  omega
attribute [local irreducible] ACallsTo ACallsP
theorem zp8(O:Store)(p:NH):ACallsTo TC 110 [.agg (.int .i64 p.1::hc p.2)] O (.bool (nhOk p)) O:=by
 have l:=z6 p.2
 unfold nhOk
 refine ACallsTo.of_body q25ok (by simp) fun hw _=> ?_
 by_cases h1:0<=p.1
 ·rw [show decide (0<=p.1/\ p.1<=4096)=decide (p.1<=4096)from decide_eq_decide.2 ⟨fun h=>h.2,fun h=>⟨h1,h⟩⟩]
  have h1':p.1>=0:=h1
  repeat' (first|apply zs_|apply zb_|apply zc_|apply zt_ rfl|apply zf_ rfl|(apply zd_ rfl<;>intro ht<;>try omega)|((first|apply zr_|apply zk_|apply ze_|apply zq_|(apply zG<;>intro ht));all_goals try simp (disch:=first|omega|(simp only [lens,z6,z7,zg,z8,zh,zi,lQt,lQd,List.length_replicate];first|done|omega)) only [go_sem,l,h1']))
  exact DownV.pure hw z1v
 ·rw [decide_eq_false fun h=>h1 h.1]
  have h1':¬p.1>=0:=h1
  repeat' (first|apply zs_|apply zb_|apply zc_|apply zt_ rfl|apply zf_ rfl|(apply zd_ rfl<;>intro ht<;>try omega)|((first|apply zr_|apply zk_|apply ze_|apply zq_|(apply zG<;>intro ht));all_goals try simp (disch:=first|omega|(simp only [lens,z6,z7,zg,z8,zh,zi,lQt,lQd,List.length_replicate];first|done|omega)) only [go_sem,l,h1']))
  exact DownV.pure hw z1v
theorem zlh(O:Store)(l:List NH)(x:AV)(hx:SlV 33 (knP l) x)(hl:l.length<=64)(hok:∀p ∈ l,nhOk p=true):ACallsTo TC 65 [x] O (.tup [.str (knS l),.int .i64 0]) O:=by
 have r1:=hx.len
 rw [zi]at r1
 unfold z1g at r1
 have hN:=fun O=>z6m O l.length (by omega)
 have hNl:=z1y l.length
 have h64:¬(l.length:Int)>64:=by omega
 unfold knS
 generalize numS l.length=N at*
 refine ACallsTo.of_body q23ok (by simp) fun hw _=> ?_
 have b0:BldN O (O++ [some [[.bld O.length,.bnil]]]) O.length []:=BldN.new (Nat.le_refl _) (by simp)
 obtain⟨O1,w1,b1⟩:=b0.write (t:=68::N) (by simp) (by simp;omega)
 rw [List.nil_append]at b1
 repeat' (first|apply zs_|apply zb_|apply zc_|apply zt_ rfl|apply zf_ rfl|(apply zd_ rfl<;>intro ht<;>try omega)|((first|apply zr_|apply zk_|apply ze_|apply zq_|(apply callW.mk_pu;(first|exact(fun _=>hN _)|exact(fun _=>w1)))|(apply callW.za;(first|exact(hN _)|exact(w1)))|(apply zG<;>intro ht));all_goals try simp (disch:=first|omega|(simp only [lens,z6,z7,zg,z8,zh,zi,lQt,lQd,List.length_replicate];first|done|omega)) only [go_sem,r1,h64,List.cons_append,List.nil_append]))
 refine zW.loop (fun m J O'=>∃i:Nat,m+i=l.length/\ BldN O O' O.length (68::N++z1x (l.take i))/\ J 4=.ptr O.length 0 0/\ J 16=x/\ J 17=.int .i64 l.length/\ J 18=.int .i64 i) l.length ?_ ?_
 ·exact⟨0,by omega,by simpa [z1x]using b1,by simp (disch:=first|omega|(simp only [lens,z6,z7,zg,z8,zh,zi,lQt,lQd,List.length_replicate];first|done|omega)) only [go_sem],by simp (disch:=first|omega|(simp only [lens,z6,z7,zg,z8,zh,zi,lQt,lQd,List.length_replicate];first|done|omega)) only [go_sem],by simp (disch:=first|omega|(simp only [lens,z6,z7,zg,z8,zh,zi,lQt,lQd,List.length_replicate];first|done|omega)) only [go_sem,r1],by simp (disch:=first|omega|(simp only [lens,z6,z7,zg,z8,zh,zi,lQt,lQd,List.length_replicate];first|done|omega)) only [go_sem];try rfl⟩
 ·clear w1 b1 b0
  rintro m J O' ⟨i,hm,hB,q4,q16,q17,q18⟩
  have hcl:=z6t (l.take i)
  rw [List.length_take]at hcl
  by_cases hi:i<l.length
  ·obtain⟨e1,rfl⟩:=hx.vsl (by rw [zi];omega)
   have gi:=zhw hi
   have sl:=zi l
   have hst:=zrg hi
   have hk:=hok l[i] (List.getElem_mem hi)
   have hM:=fun O=>zp8 O l[i]
   rw [hk]at hM
   have hne:=nhS_ne l[i]
   have hnl:=zig l[i]
   generalize l[i]=p at*
   obtain⟨n,r⟩:=p
   obtain⟨k1,k2⟩:=of_decide_eq_true hk
   dsimp only at k1 k2 gi hM
   obtain⟨K,rfl⟩:∃K:Nat,n=K:=⟨n.toNat,by omega⟩
   have hK:=fun O=>z6m O K (by omega)
   have kl:=z1y K
   have r32:=r.2
   have hH:=fun O=>z4j O r
   have hs:nhS ((K:Int),r)=numS K++r.1:=rfl
   rw [hs]at hst hne hnl
   have rl:=z6 r
   obtain⟨O2,w2,b2⟩:=(hB.more [some [.int .i64 K::hc r]]).write (t:=numS K++r.1) hne (by simp only [List.length_append,List.length_cons]at hnl ⊢;omega)
   repeat' (first|apply zs_|apply zb_|apply zc_|apply zt_ rfl|apply zf_ rfl|(apply zd_ rfl<;>intro ht<;>try omega)|((first|apply zr_|apply zk_|apply ze_|apply zq_|(apply callW.mk_pu;(first|exact(fun _=>hM _)|exact(fun _=>hK _)|exact(fun _=>hH _)|exact(fun _=>w2)))|(apply callW.za;(first|exact(hM _)|exact(hK _)|exact(hH _)|exact(w2)))|(apply zG<;>intro ht));all_goals try simp (disch:=first|omega|(simp only [lens,z6,z7,zg,z8,zh,zi,lQt,lQd,List.length_replicate];first|done|omega)) only [go_sem,q4,q16,q17,q18,gi,sl,rl]))
   refine⟨m-1,by omega,i+1,by omega,?_,by simp⟩
   rw [hst,<-List.append_assoc];exact b2
  ·have e:l.take i=l:=List.take_of_length_le (by omega)
   rw [e]at hB
   have hcl2:=z6t l
   obtain⟨news,w3⟩:=hB.string (by simp) (by simp only [List.length_append,List.length_cons];omega)
   have hi':¬(i:Int)<l.length:=by omega
   repeat' (first|apply zs_|apply zb_|apply zc_|apply zt_ rfl|apply zf_ rfl|(apply zd_ rfl<;>intro ht<;>try omega)|((first|apply zr_|apply zk_|apply ze_|apply zq_|(apply callW.mk_pu;(first|exact(fun _=>w3)))|(apply callW.za;(first|exact(w3)))|(apply zG<;>intro ht));all_goals try simp (disch:=first|omega|(simp only [lens,z6,z7,zg,z8,zh,zi,lQt,lQd,List.length_replicate];first|done|omega)) only [go_sem,q4,q16,q17,q18,hi']))
   exact DownV.pure hw (by simp [RL,RLs])
end
section
def idxK(K:List NH)(p:NH):Int:=if p ∈ K then K.idxOf p else-1
theorem zq2{K:List NH}{p:NH}{i:Nat}(hi:i<K.length)(h:K[i]=p)(hn:p ∉ K.take i):idxK K p=i:=by
 have hm:p ∈ K:=h ▸ List.getElem_mem hi
 have e:K=K.take i++p::K.drop (i+1):=by
  conv=>lhs;rw [<-List.take_append_drop i K,List.drop_eq_getElem_cons hi,h]
 have:K.idxOf p=i:=by
  rw [e,List.idxOf_append,if_neg hn,List.idxOf_cons_self,List.length_take];omega
 unfold idxK
 rw [if_pos hm,this]
theorem zq3{K:List NH}{p:NH}(h:p ∉ K):idxK K p= -1:=if_neg h
theorem zq4(K:List NH)(p:NH):decide (idxK K p>=0)=decide (p ∈ K):=by
 unfold idxK
 by_cases h:p ∈ K
 ·rw [if_pos h,decide_eq_true h];exact decide_eq_true (by omega)
 ·rw [if_neg h,decide_eq_false h];exact decide_eq_false (by omega)
theorem zxb{K:List NH}{p:NH}{i:Nat}(hi:i<K.length):p ∈ K.take (i+1) ↔ p ∈ K.take i \/K[i]=p:=by
 rw [List.take_succ_eq_append_getElem hi,List.mem_append,List.mem_singleton]
 exact or_congr_right eq_comm
def z44(K:List NH)(q:Hdr):Bool:=valH q && !decide ((q.n,q.r) ∈ K)
def z1b(P:List Hdr)(K:List NH):List Hdr:=(P.filter (z44 K)).take 3
theorem zd1(P:List Hdr)(K:List NH):(z1b P K).length<=3:=by unfold z1b;rw [List.length_take];omega
theorem zr4{P:List Hdr}{K:List NH}{i:Nat}(hi:i<P.length)(h:z44 K P[i]=false \/ ¬(z1b (P.take i) K).length<3):z1b (P.take (i+1)) K=z1b (P.take i) K:=by
 unfold z1b at h ⊢
 rw [List.take_succ_eq_append_getElem hi,List.filter_append]
 rcases h with h|h
 ·simp [List.filter,h]
 ·rw [List.length_take]at h
  rw [List.take_append_of_le_length (by omega)]
theorem zr5{P:List Hdr}{K:List NH}{i:Nat}(hi:i<P.length)(h:z44 K P[i]=true)(h2:(z1b (P.take i) K).length<3):z1b (P.take (i+1)) K=z1b (P.take i) K++ [P[i]]:=by
 unfold z1b at h2 ⊢
 rw [List.take_succ_eq_append_getElem hi,List.filter_append]
 rw [List.length_take]at h2
 have h3:((P.take i).filter (z44 K)).length<3:=by omega
 have e:[P[i]].filter (z44 K)=[P[i]]:=by simp [List.filter,h]
 rw [e]
 generalize (P.take i).filter (z44 K)=A at*
 rw [List.take_of_length_le (l:=A) (by omega)]
 exact List.take_of_length_le (by rw [List.length_append,List.length_singleton];omega)
theorem zd2{P:List Hdr}{K:List NH}{q:Hdr}(h:q ∈ z1b P K):q ∈ P/\ valH q=true/\ (q.n,q.r) ∉ K:=by
 have h1:=List.mem_filter.1 (List.mem_of_mem_take h)
 refine⟨h1.1,?_⟩
 have:=h1.2
 unfold z44 at this
 simpa using this
theorem zpp(u:Hdr):hdrs [u]=[hdrC u]:=rfl
attribute [local irreducible] ACallsTo ACallsP
theorem zlc(O:Store)(K:List NH)(p:NH)(x:AV)(hx:SlV 33 (knP K) x)(hl:K.length<1000000):
  ACallsTo TC 159 [x,.agg (.int .i64 p.1::hc p.2)] O (.int .i64 (idxK K p)) O:=by
 have r1:=hx.len
 rw [zi]at r1
 unfold z1g at r1
 have lp:=z6 p.2
 refine ACallsTo.of_body q2bok (by simp) fun hw _=> ?_
 repeat' (first|apply zs_|apply zb_|apply zc_|apply zt_ rfl|apply zf_ rfl|(apply zd_ rfl<;>intro ht<;>try omega)|((first|apply zr_|apply zk_|apply ze_|apply zq_|(apply zG<;>intro ht));all_goals try simp (disch:=first|omega|(simp only [lens,z6,z7,zg,z8,zh,zi,lQt,lQd,List.length_replicate];first|done|omega)) only [go_sem,r1,lp]))
 refine zW.loop (fun m J O'=>∃i:Nat,m+i=K.length/\ O'=O++ [some [.int .i64 p.1::hc p.2]]/\ p ∉ K.take i/\ J 0=x/\ J 3=.ptr O.length 0 0/\ J 7=.int .i64 K.length/\ J 8=.int .i64 i) K.length ?_ ?_
 ·exact⟨0,by omega,by simp (disch:=first|omega|(simp only [lens,z6,z7,zg,z8,zh,zi,lQt,lQd,List.length_replicate];first|done|omega)) only [go_sem],by simp,by simp (disch:=first|omega|(simp only [lens,z6,z7,zg,z8,zh,zi,lQt,lQd,List.length_replicate];first|done|omega)) only [go_sem],by simp (disch:=first|omega|(simp only [lens,z6,z7,zg,z8,zh,zi,lQt,lQd,List.length_replicate];first|done|omega)) only [go_sem],by simp (disch:=first|omega|(simp only [lens,z6,z7,zg,z8,zh,zi,lQt,lQd,List.length_replicate];first|done|omega)) only [go_sem,r1],by simp (disch:=first|omega|(simp only [lens,z6,z7,zg,z8,zh,zi,lQt,lQd,List.length_replicate];first|done|omega)) only [go_sem];try rfl⟩
 ·rintro m J O' ⟨i,hm,rfl,hN,q0,q3,q7,q8⟩
  by_cases hi:i<K.length
  ·obtain⟨ex,rfl⟩:=hx.vsl (by rw [zi];omega)
   have ga:=zhw hi
   have la:=zi K
   have he:=sg_eq p.1 K[i].1 p.2 K[i].2
   have hka:=z6 K[i].2
   by_cases hh:K[i]=p
   ·rw [zq2 hi hh hN]
    rw [decide_eq_true ⟨by rw [hh],by rw [hh]⟩]at he
    generalize K[i]=a at*
    repeat' (first|apply zs_|apply zb_|apply zc_|apply zt_ rfl|apply zf_ rfl|(apply zd_ rfl<;>intro ht<;>try omega)|((first|apply zr_|apply zk_|apply ze_|apply zq_|(apply zG<;>intro ht));all_goals try simp (disch:=first|omega|(simp only [lens,z6,z7,zg,z8,zh,zi,lQt,lQd,List.length_replicate];first|done|omega)) only [go_sem,q0,q3,q7,q8,ga,la,he,hka,lp]))
    exact DownV.pure hw rl_i
   ·rw [decide_eq_false fun h=>hh (Prod.ext h.1.symm h.2.symm)]at he
    have hN2:p ∉ K.take (i+1):=fun h=>((zxb hi).1 h).elim hN hh
    generalize K[i]=a at*
    repeat' (first|apply zs_|apply zb_|apply zc_|apply zt_ rfl|apply zf_ rfl|(apply zd_ rfl<;>intro ht<;>try omega)|((first|apply zr_|apply zk_|apply ze_|apply zq_|(apply zG<;>intro ht));all_goals try simp (disch:=first|omega|(simp only [lens,z6,z7,zg,z8,zh,zi,lQt,lQd,List.length_replicate];first|done|omega)) only [go_sem,q0,q3,q7,q8,ga,la,he,hka,lp]))
    exact⟨m-1,by omega,i+1,by omega,hN2,by simp⟩
  ·rw [List.take_of_length_le (by omega)]at hN
   rw [zq3 hN]
   have hi':¬(i:Int)<K.length:=by omega
   repeat' (first|apply zs_|apply zb_|apply zc_|apply zt_ rfl|apply zf_ rfl|(apply zd_ rfl<;>intro ht<;>try omega)|((first|apply zr_|apply zk_|apply ze_|apply zq_|(apply zG<;>intro ht));all_goals try simp (disch:=first|omega|(simp only [lens,z6,z7,zg,z8,zh,zi,lQt,lQd,List.length_replicate];first|done|omega)) only [go_sem,q0,q3,q7,q8,hi']))
   exact DownV.pure hw rl_i
theorem zl6(O:Store)(K:List NH)(p:NH)(x:AV)(hx:SlV 33 (knP K) x)(hl:K.length<1000000):
  ACallsTo TC 141 [x,.agg (.int .i64 p.1::hc p.2)] O (.bool (decide (p ∈ K))) O:=by
 have hI:=fun O=>zlc O K p x hx hl
 have lp:=z6 p.2
 have e:=zq4 K p
 refine ACallsTo.of_body q29ok (by simp) fun hw _=> ?_
 by_cases h:p ∈ K
 ·rw [decide_eq_true h]at e ⊢
  have e':=of_decide_eq_true e
  repeat' (first|apply zs_|apply zb_|apply zc_|apply zt_ rfl|apply zf_ rfl|(apply zd_ rfl<;>intro ht<;>try omega)|((first|apply zr_|apply zk_|apply ze_|apply zq_|(apply callW.mk_pu;(first|exact(fun _=>hI _)))|(apply callW.za;(first|exact(hI _)))|(apply zG<;>intro ht));all_goals try simp (disch:=first|omega|(simp only [lens,z6,z7,zg,z8,zh,zi,lQt,lQd,List.length_replicate];first|done|omega)) only [go_sem,lp,e']))
  exact DownV.pure hw rl_b
 ·rw [decide_eq_false h]at e ⊢
  have e':=of_decide_eq_false e
  repeat' (first|apply zs_|apply zb_|apply zc_|apply zt_ rfl|apply zf_ rfl|(apply zd_ rfl<;>intro ht<;>try omega)|((first|apply zr_|apply zk_|apply ze_|apply zq_|(apply callW.mk_pu;(first|exact(fun _=>hI _)))|(apply callW.za;(first|exact(hI _)))|(apply zG<;>intro ht));all_goals try simp (disch:=first|omega|(simp only [lens,z6,z7,zg,z8,zh,zi,lQt,lQd,List.length_replicate];first|done|omega)) only [go_sem,lp,e']))
  exact DownV.pure hw rl_b
theorem zf4(O:Store)(P:List Hdr)(K:List NH)(x y:AV)(hx:SlV 36 (hdrs P) x)(hy:SlV 33 (knP K) y)(hl:P.length<1000000)(hK:K.length<1000000)(hp:∀q ∈ P,q.p.length<1000000):
  ACallsTo TC 108 [x,y] O (zw 36 (hdrs (z1b P K))) O:=by
 have r1:=hx.len
 rw [z8]at r1
 unfold z1g at r1
 refine ACallsTo.of_body q24ok (by simp) fun hw _=> ?_
 repeat' (first|apply zs_|apply zb_|apply zc_|apply zt_ rfl|apply zf_ rfl|(apply zd_ rfl<;>intro ht<;>try omega)|((first|apply zr_|apply zk_|apply ze_|apply zq_|(apply zG<;>intro ht));all_goals try simp (disch:=first|omega|(simp only [lens,z6,z7,zg,z8,zh,zi,lQt,lQd,List.length_replicate];first|done|omega)) only [go_sem,r1]))
 refine zW.loop (fun m J O'=>∃(i:Nat) (w:AV),m+i=P.length/\ OwnN 36 O O' w (hdrs (z1b (P.take i) K))/\ J 1=y/\ J 5=w/\ J 8=x/\ J 9=.int .i64 P.length/\ J 10=.int .i64 i) P.length ?_ ?_
 ·exact⟨0,.nilsl,by omega,⟨[],by simp,.inl ⟨rfl,rfl⟩⟩,by simp (disch:=first|omega|(simp only [lens,z6,z7,zg,z8,zh,zi,lQt,lQd,List.length_replicate];first|done|omega)) only [go_sem],by simp (disch:=first|omega|(simp only [lens,z6,z7,zg,z8,zh,zi,lQt,lQd,List.length_replicate];first|done|omega)) only [go_sem],by simp (disch:=first|omega|(simp only [lens,z6,z7,zg,z8,zh,zi,lQt,lQd,List.length_replicate];first|done|omega)) only [go_sem],by simp (disch:=first|omega|(simp only [lens,z6,z7,zg,z8,zh,zi,lQt,lQd,List.length_replicate];first|done|omega)) only [go_sem,r1],by simp (disch:=first|omega|(simp only [lens,z6,z7,zg,z8,zh,zi,lQt,lQd,List.length_replicate];first|done|omega)) only [go_sem];try rfl⟩
 ·rintro m J O' ⟨i,w,hm,hO,q1,q5,q8,q9,q10⟩
  have hOl:=hO.len
  rw [z8]at hOl
  unfold z1g at hOl
  by_cases hi:i<P.length
  ·obtain⟨ex,rfl⟩:=hx.vsl (by rw [z8];omega)
   have hgi:=z8o hi
   have hdl:=z8 P
   have hph:=hp P[i] (List.getElem_mem hi)
   have hno:=zr4 (K:=K) hi
   have hyes:=zr5 (K:=K) hi
   have hml:=zd1 (P.take i) K
   have hV:=fun O=>z7y O P[i].n P[i].i P[i].r P[i].s P[i].p _ (.of (z2c 32 (hr P[i].p)))
   rw [show sgC P[i].n P[i].r P[i].i P[i].s (zw 32 (hr P[i].p))=hdrC P[i]from rfl,show z26 P[i].n P[i].i P[i].s P[i].p=valH P[i]from rfl]at hV
   have hC:=fun O=>zl6 O K (P[i].n,P[i].r) y hy hK
   have hlk:z44 K P[i]=(valH P[i] && !decide ((P[i].n,P[i].r) ∈ K)):=rfl
   generalize P[i]=u at*
   have hcl:=zg u
   have hhd:=zhf u
   have ua:(hdrC u).take 36=hdrC u:=z7i u
   by_cases h3:(z1b (P.take i) K).length<3
   ·have h3':((z1b (P.take i) K).length:Int)<3:=by omega
    cases hv:valH u
    ·rw [hv]at hV hlk
     have e:=hno (.inl (by rw [hlk];rfl))
     repeat' (first|apply zs_|apply zb_|apply zc_|apply zt_ rfl|apply zf_ rfl|(apply zd_ rfl<;>intro ht<;>try omega)|((first|apply zr_|apply zk_|apply ze_|apply zq_|(apply callW.mk_pu;(first|exact(fun _=>hV _)|exact(fun _=>hC _)))|(apply callW.za;(first|exact(hV _)|exact(hC _)))|(apply zG<;>intro ht));all_goals try simp (disch:=first|omega|(simp only [lens,z6,z7,zg,z8,zh,zi,lQt,lQd,List.length_replicate];first|done|omega)) only [go_sem,q1,q5,q8,q9,q10,hgi,hdl,hcl,hhd,ua,hOl,h3']))
     exact⟨m-1,by omega,i+1,w,by omega,by rw [e];exact hO.more _,by simp⟩
    ·rw [hv]at hV hlk
     by_cases hc:(u.n,u.r) ∈ K
     ·rw [decide_eq_true hc]at hC hlk
      have e:=hno (.inl (by rw [hlk];rfl))
      repeat' (first|apply zs_|apply zb_|apply zc_|apply zt_ rfl|apply zf_ rfl|(apply zd_ rfl<;>intro ht<;>try omega)|((first|apply zr_|apply zk_|apply ze_|apply zq_|(apply callW.mk_pu;(first|exact(fun _=>hV _)|exact(fun _=>hC _)))|(apply callW.za;(first|exact(hV _)|exact(hC _)))|(apply zG<;>intro ht));all_goals try simp (disch:=first|omega|(simp only [lens,z6,z7,zg,z8,zh,zi,lQt,lQd,List.length_replicate];first|done|omega)) only [go_sem,q1,q5,q8,q9,q10,hgi,hdl,hcl,hhd,ua,hOl,h3']))
      exact⟨m-1,by omega,i+1,w,by omega,by rw [e];exact hO.more _,by simp⟩
     ·rw [decide_eq_false hc]at hC hlk
      have e:=hyes (by rw [hlk];rfl) h3
      have hCl:=fun O=>zf2 O u.p (zw 32 (hr u.p)) (.of (z2c 32 (hr u.p))) hph
      rw [zhz]at hCl
      obtain⟨w',O2,ha,hO2⟩:=(hO.more [some [hdrC u]]).app (ys:=[hdrC u]) (by simp) (by rw [z8];simp;omega)
      rw [<-zpp u,<-zpm,<-e]at hO2
      have hst:=fun x v=>zk0 u.n u.r u.i u.s x v
      have sl:=fun v=>z7 u.n u.r u.i u.s v
      have xc:=(z2c 32 (hr u.p)).cells
      unfold cellsOf at xc
      rw [show hdrC u=sgC u.n u.r u.i u.s (zw 32 (hr u.p))from rfl]at hgi ha hV ua hhd
      generalize zw 32 (hr u.p)=xp at*
      repeat' (first|apply zs_|apply zb_|apply zc_|apply zt_ rfl|apply zf_ rfl|(apply zd_ rfl<;>intro ht<;>try omega)|((first|apply zr_|apply zk_|apply ze_|apply zq_|(apply callW.mk_pu;(first|exact(fun _=>hV _)|exact(fun _=>hC _)|exact(fun _=>hCl _)))|(apply callW.za;(first|exact(hV _)|exact(hC _)|exact(hCl _)))|(apply zG<;>intro ht));all_goals try simp (disch:=first|omega|(simp only [lens,z6,z7,zg,z8,zh,zi,lQt,lQd,List.length_replicate];first|done|omega)) only [go_sem,q1,q5,q8,q9,q10,hgi,hdl,hhd,ua,hOl,h3',sl,hst,xc,ha]))
      exact⟨m-1,by omega,i+1,w',by omega,hO2,by simp⟩
   ·have h3':¬((z1b (P.take i) K).length:Int)<3:=by omega
    have e:=hno (.inr h3)
    repeat' (first|apply zs_|apply zb_|apply zc_|apply zt_ rfl|apply zf_ rfl|(apply zd_ rfl<;>intro ht<;>try omega)|((first|apply zr_|apply zk_|apply ze_|apply zq_|(apply zG<;>intro ht));all_goals try simp (disch:=first|omega|(simp only [lens,z6,z7,zg,z8,zh,zi,lQt,lQd,List.length_replicate];first|done|omega)) only [go_sem,q1,q5,q8,q9,q10,hgi,hdl,hcl,hhd,ua,hOl,h3']))
    exact⟨m-1,by omega,i+1,w,by omega,by rw [e];exact hO.more _,by simp⟩
  ·obtain rfl:i=P.length:=by omega
   rw [List.take_of_length_le (Nat.le_refl _)]at hO
   repeat' (first|apply zs_|apply zb_|apply zc_|apply zt_ rfl|apply zf_ rfl|(apply zd_ rfl<;>intro ht<;>try omega)|((first|apply zr_|apply zk_|apply ze_|apply zq_|(apply zG<;>intro ht));all_goals try simp (disch:=first|omega|(simp only [lens,z6,z7,zg,z8,zh,zi,lQt,lQd,List.length_replicate];first|done|omega)) only [go_sem,q1,q5,q8,q9,q10]))
   exact hO.froze hw (z91 _)
end
section
attribute [local irreducible] ACallsTo ACallsP
end
section
theorem zcn{h:Hdr}(hv:valH h=true):(z25 (z2a h)).length<2000000:=by
 have h1:=zdk hv
 have h2:=z1y (z2a h).length
 unfold z25
 rw [List.length_append];omega
theorem zp9{h:Hdr}(hv:valH h=true):putV h.n h.i h.r h.s h.p=.tup [.str (z2a h),.int .i64 0]:=by
 unfold putV
 rw [if_pos (show z26 h.n h.i h.s h.p=true from hv)]
 rfl
def z27(P:List Hdr):List UInt8:=(P.map fun q=>z25 (z2a q)).flatten
def gtS(P:List Hdr):List UInt8:=71::(numS P.length++z27 P)
theorem zpb{P:List Hdr}{i:Nat}(h:i<P.length):z27 (P.take (i+1))=z27 (P.take i)++z25 (z2a P[i]):=by
 unfold z27;rw [List.take_succ_eq_append_getElem h,List.map_append,List.flatten_append];simp
theorem z8l:∀{P:List Hdr},(∀q ∈ P,valH q=true)->(z27 P).length<=2000000*P.length
 | [],_=>by simp [z27]
 |q::P,h=>by
  have h1:=z8l (P:=P) fun q hq=>h q (List.mem_cons_of_mem _ hq)
  have h2:=zcn (h q (by simp))
  unfold z27 at h1 ⊢
  simp only [List.map_cons,List.flatten_cons,List.length_append,List.length_cons]
  omega
theorem zxe(s:List UInt8):z25 s ≠ []:=by unfold z25;simp [zii]
def zdj(P:List Hdr):AV:=if P=[] \/P.all valH=false then .tup [.str [],.int .i64 2]else .tup [.str (gtS P),.int .i64 0]
theorem zj7:zdj []=.tup [.str [],.int .i64 2]:=if_pos (.inl rfl)
theorem zj8{P:List Hdr}(h0:P ≠ [])(hv:∀q ∈ P,valH q=true):zdj P=.tup [.str (gtS P),.int .i64 0]:=if_neg fun h=>h.elim h0 fun h=>by
 rw [List.all_eq_true.2 hv]at h;cases h
attribute [local irreducible] ACallsTo ACallsP
theorem zp2(O:Store)(P:List Hdr)(x:AV)(hx:SlV 36 (hdrs P) x)(hl:P.length<=3)(hv:∀q ∈ P,valH q=true):ACallsTo TC 116 [x] O (zdj P) O:=by
 have r1:=hx.len
 rw [z8]at r1
 unfold z1g at r1
 refine ACallsTo.of_body q28ok (by simp) fun hw _=> ?_
 by_cases h0:P=[]
 ·rw [h0,zj7]
  have h0':P.length=0:=by rw [h0];rfl
  rw [h0']at r1
  repeat' (first|apply zs_|apply zb_|apply zc_|apply zt_ rfl|apply zf_ rfl|(apply zd_ rfl<;>intro ht<;>try omega)|((first|apply zr_|apply zk_|apply ze_|apply zq_|(apply zG<;>intro ht));all_goals try simp (disch:=first|omega|(simp only [lens,z6,z7,zg,z8,zh,zi,lQt,lQd,List.length_replicate];first|done|omega)) only [go_sem,r1]))
  exact DownV.same hw (by simp [RL,RLs])
 ·rw [zj8 h0 hv]
  have hP0:0<P.length:=List.length_pos_iff.2 h0
  have hN:=fun O=>z6m O P.length (by omega)
  have hNl:=z1y P.length
  have h3:¬(P.length:Int)>3:=by omega
  have h1:((P.length:Int)==0)=false:=beq_eq_false_iff_ne.2 (by omega)
  unfold gtS
  generalize numS P.length=N at*
  have b0:BldN O (O++ [some [[.bld O.length,.bnil]]]) O.length []:=BldN.new (Nat.le_refl _) (by simp)
  obtain⟨O1,w1,b1⟩:=b0.write (t:=71::N) (by simp) (by simp;omega)
  rw [List.nil_append]at b1
  repeat' (first|apply zs_|apply zb_|apply zc_|apply zt_ rfl|apply zf_ rfl|(apply zd_ rfl<;>intro ht<;>try omega)|((first|apply zr_|apply zk_|apply ze_|apply zq_|(apply callW.mk_pu;(first|exact(fun _=>hN _)|exact(fun _=>w1)))|(apply callW.za;(first|exact(hN _)|exact(w1)))|(apply zG<;>intro ht));all_goals try simp (disch:=first|omega|(simp only [lens,z6,z7,zg,z8,zh,zi,lQt,lQd,List.length_replicate];first|done|omega)) only [go_sem,r1,h3,h1,List.cons_append,List.nil_append]))
  refine zW.loop (fun m J O'=>∃i:Nat,m+i=P.length/\ BldN O O' O.length (71::N++z27 (P.take i))/\ J 4=.ptr O.length 0 0/\ J 23=x/\ J 24=.int .i64 P.length/\ J 25=.int .i64 i) P.length ?_ ?_
  ·exact⟨0,by omega,by simpa [z27]using b1,by simp (disch:=first|omega|(simp only [lens,z6,z7,zg,z8,zh,zi,lQt,lQd,List.length_replicate];first|done|omega)) only [go_sem],by simp (disch:=first|omega|(simp only [lens,z6,z7,zg,z8,zh,zi,lQt,lQd,List.length_replicate];first|done|omega)) only [go_sem],by simp (disch:=first|omega|(simp only [lens,z6,z7,zg,z8,zh,zi,lQt,lQd,List.length_replicate];first|done|omega)) only [go_sem,r1],by simp (disch:=first|omega|(simp only [lens,z6,z7,zg,z8,zh,zi,lQt,lQd,List.length_replicate];first|done|omega)) only [go_sem];try rfl⟩
  ·clear w1 b1 b0
   rintro m J O' ⟨i,hm,hB,q4,q23,q24,q25⟩
   have hcl:=z8l (P:=P.take i) fun q hq=>hv q (List.mem_of_mem_take hq)
   rw [List.length_take]at hcl
   by_cases hi:i<P.length
   ·obtain⟨e1,rfl⟩:=hx.vsl (by rw [z8];omega)
    have gi:=z8o hi
    have sl:=z8 P
    have hst:=zpb hi
    have hk:=hv P[i] (List.getElem_mem hi)
    have hM:=fun O=>Put_to O P[i].n P[i].i P[i].r P[i].s P[i].p _ (.of (z2c 32 (hr P[i].p)))
    rw [show sgC P[i].n P[i].r P[i].i P[i].s (zw 32 (hr P[i].p))=hdrC P[i]from rfl,zp9 hk]at hM
    generalize P[i]=u at*
    have hpl:=zdk hk
    have htl:=zcn hk
    have hT:=fun O=>zc8 O (z2a u) (by omega)
    have hne:=zxe (z2a u)
    have hul:=zg u
    have ua:(hdrC u).take 36=hdrC u:=z7i u
    generalize z25 (z2a u)=T at*
    obtain⟨O2,w2,b2⟩:=(hB.more [some [hdrC u]]).write (t:=T) hne (by simp only [List.length_append,List.length_cons];omega)
    repeat' (first|apply zs_|apply zb_|apply zc_|apply zt_ rfl|apply zf_ rfl|(apply zd_ rfl<;>intro ht<;>try omega)|((first|apply zr_|apply zk_|apply ze_|apply zq_|(apply callW.mk_pu;(first|exact(fun _=>hM _)|exact(fun _=>hT _)|exact(fun _=>w2)))|(apply callW.za;(first|exact(hM _)|exact(hT _)|exact(w2)))|(apply zG<;>intro ht));all_goals try simp (disch:=first|omega|(simp only [lens,z6,z7,zg,z8,zh,zi,lQt,lQd,List.length_replicate];first|done|omega)) only [go_sem,q4,q23,q24,q25,gi,sl,hul,ua]))
    refine⟨m-1,by omega,i+1,by omega,?_,by simp⟩
    rw [hst,<-List.append_assoc];exact b2
   ·have e:P.take i=P:=List.take_of_length_le (by omega)
    rw [e]at hB
    have hcl2:=z8l hv
    obtain⟨news,w3⟩:=hB.string (by simp) (by simp only [List.length_append,List.length_cons];omega)
    have hi':¬(i:Int)<P.length:=by omega
    repeat' (first|apply zs_|apply zb_|apply zc_|apply zt_ rfl|apply zf_ rfl|(apply zd_ rfl<;>intro ht<;>try omega)|((first|apply zr_|apply zk_|apply ze_|apply zq_|(apply callW.mk_pu;(first|exact(fun _=>w3)))|(apply callW.za;(first|exact(w3)))|(apply zG<;>intro ht));all_goals try simp (disch:=first|omega|(simp only [lens,z6,z7,zg,z8,zh,zi,lQt,lQd,List.length_replicate];first|done|omega)) only [go_sem,q4,q23,q24,q25,hi']))
    exact DownV.pure hw (by simp [RL,RLs])
end
section
theorem zpa{P:List Hdr}{i:Nat}(h:i<P.length):z27 (P.drop i)=z25 (z2a P[i])++z27 (P.drop (i+1)):=by
 rw [List.drop_eq_getElem_cons h];rfl
theorem zrf{l:List NH}{i:Nat}(h:i<l.length):z1x (l.drop i)=nhS l[i]++z1x (l.drop (i+1)):=by
 rw [List.drop_eq_getElem_cons h];rfl
theorem zp6{h:Hdr}(hv:valH h=true):getV (getH (z2a h))=.tup [.agg (hdrC h),.int .i64 0]:=by
 obtain⟨d,e1,e2,e3⟩:=val_of hv
 have:=zp5 e2 []
 rw [List.append_nil,if_pos rfl,<-e3]at this
 rw [this,e1];rfl
theorem zqo{l:List NH}{i:Nat}(h:i<l.length):knP (l.take i)++ [.int .i64 l[i].1::hc l[i].2]=knP (l.take (i+1)):=by
 unfold knP;rw [List.take_succ_eq_append_getElem h,List.map_append];rfl
theorem ztr{k:Nat}(l:List NH):RLss k (knP l):=by
 induction l with
 |nil=>simp [knP,RLss]
 |cons q l ih=>
  show RLss k ((.int .i64 q.1::hc q.2)::knP l)
  simp only [RLss]
  exact⟨by simp only [RLs,RL];exact⟨trivial,z6v q.2⟩,ih⟩
attribute [local irreducible] ACallsTo ACallsP
theorem zlb(O:Store)(a b:UInt8)(t:List UInt8):ACallsTo TC 176 [.str (a::t),.str [b]] O (.bool (decide (a=b))) O:=by
 refine ACallsTo.of_body qsok (by simp) fun hw _=> ?_
 have h1:((t.length+1:Nat):Int)>=1:=by omega
 by_cases h:a=b
 ·subst h
  rw [decide_eq_true rfl]
  have e:([a]==[a])=true:=by simp
  repeat' (first|apply zs_|apply zb_|apply zc_|apply zt_ rfl|apply zf_ rfl|(apply zd_ rfl<;>intro ht<;>try omega)|((first|apply zr_|apply zk_|apply ze_|apply zq_|(apply zG<;>intro ht));all_goals try simp (disch:=first|omega|(simp only [lens,z6,z7,zg,z8,zh,zi,lQt,lQd,List.length_replicate];first|done|omega)) only [go_sem,e,h1,List.length_cons,List.length_nil,List.take_succ_cons,List.take_zero]))
  exact DownV.same hw rl_b
 ·rw [decide_eq_false h]
  have e:([a]==[b])=false:=by simp [h]
  repeat' (first|apply zs_|apply zb_|apply zc_|apply zt_ rfl|apply zf_ rfl|(apply zd_ rfl<;>intro ht<;>try omega)|((first|apply zr_|apply zk_|apply ze_|apply zq_|(apply zG<;>intro ht));all_goals try simp (disch:=first|omega|(simp only [lens,z6,z7,zg,z8,zh,zi,lQt,lQd,List.length_replicate];first|done|omega)) only [go_sem,e,h1,List.length_cons,List.length_nil,List.take_succ_cons,List.take_zero]))
  exact DownV.same hw rl_b
theorem zl7(O:Store)(a b:UInt8)(t:List UInt8):ACallsTo TC 173 [.str (a::t),.str [b]] O (if a=b then .tup [.str t,.bool true]else .tup [.str (a::t),.bool false]) O:=by
 have hH:=fun O=>zlb O a b t
 refine ACallsTo.of_body q2dok (by simp) fun hw _=> ?_
 by_cases h:a=b
 ·rw [if_pos h]
  rw [decide_eq_true h]at hH
  repeat' (first|apply zs_|apply zb_|apply zc_|apply zt_ rfl|apply zf_ rfl|(apply zd_ rfl<;>intro ht<;>try omega)|((first|apply zr_|apply zk_|apply ze_|apply zq_|(apply callW.mk_pu;(first|exact(fun _=>hH _)))|(apply callW.za;(first|exact(hH _)))|(apply zG<;>intro ht));all_goals try simp (disch:=first|omega|(simp only [lens,z6,z7,zg,z8,zh,zi,lQt,lQd,List.length_replicate];first|done|omega)) only [go_sem,List.length_cons,List.length_nil,List.drop_succ_cons,List.drop_zero]))
  exact DownV.same hw (by simp [RL,RLs])
 ·rw [if_neg h]
  rw [decide_eq_false h]at hH
  repeat' (first|apply zs_|apply zb_|apply zc_|apply zt_ rfl|apply zf_ rfl|(apply zd_ rfl<;>intro ht<;>try omega)|((first|apply zr_|apply zk_|apply ze_|apply zq_|(apply callW.mk_pu;(first|exact(fun _=>hH _)))|(apply callW.za;(first|exact(hH _)))|(apply zG<;>intro ht));all_goals try simp (disch:=first|omega|(simp only [lens,z6,z7,zg,z8,zh,zi,lQt,lQd,List.length_replicate];first|done|omega)) only [go_sem,List.length_cons,List.length_nil]))
  exact DownV.same hw (by simp [RL,RLs])
theorem zl8(O:Store)(a b:UInt8)(t:List UInt8):ACallsTo TC 160 [.str (a::t),.str [b]] O (if a=b then .tup [.str t,.bool true]else .tup [.str (a::t),.bool false]) O:=by
 have hH:=fun O=>zl7 O a b t
 refine ACallsTo.of_body q2cok (by simp) fun hw _=> ?_
 by_cases h:a=b
 ·rw [if_pos h]at hH ⊢
  repeat' (first|apply zs_|apply zb_|apply zc_|apply zt_ rfl|apply zf_ rfl|(apply zd_ rfl<;>intro ht<;>try omega)|((first|apply zr_|apply zk_|apply ze_|apply zq_|(apply callW.mk_pu;(first|exact(fun _=>hH _)))|(apply callW.za;(first|exact(hH _)))|(apply zG<;>intro ht));all_goals try simp (disch:=first|omega|(simp only [lens,z6,z7,zg,z8,zh,zi,lQt,lQd,List.length_replicate];first|done|omega)) only [go_sem,Nat.add_zero]))
  exact DownV.same hw (by simp [RL,RLs])
 ·rw [if_neg h]at hH ⊢
  repeat' (first|apply zs_|apply zb_|apply zc_|apply zt_ rfl|apply zf_ rfl|(apply zd_ rfl<;>intro ht<;>try omega)|((first|apply zr_|apply zk_|apply ze_|apply zq_|(apply callW.mk_pu;(first|exact(fun _=>hH _)))|(apply callW.za;(first|exact(hH _)))|(apply zG<;>intro ht));all_goals try simp (disch:=first|omega|(simp only [lens,z6,z7,zg,z8,zh,zi,lQt,lQd,List.length_replicate];first|done|omega)) only [go_sem,Nat.add_zero]))
  exact DownV.same hw (by simp [RL,RLs])
theorem zcj(O:Store)(a b:UInt8)(t:List UInt8)(ht:t.length<1000000000):ACallsTo TC 142 [.str (a::t),.str [b]] O (if a=b then rdV (z2g t)else .tup [.int .u64 0,.str [],.bool false]) O:=by
 have hH:=fun O=>zl8 O a b t
 have hR:=fun O=>z6n O t ht
 refine ACallsTo.of_body q2aok (by simp) fun hw _=> ?_
 by_cases h:a=b
 ·rw [if_pos h]at hH ⊢
  rw [rdV_D]at hR ⊢
  repeat' (first|apply zs_|apply zb_|apply zc_|apply zt_ rfl|apply zf_ rfl|(apply zd_ rfl<;>intro ht<;>try omega)|((first|apply zr_|apply zk_|apply ze_|apply zq_|(apply callW.mk_pu;(first|exact(fun _=>hH _)|exact(fun _=>hR _)))|(apply callW.za;(first|exact(hH _)|exact(hR _)))|(apply zG<;>intro ht));all_goals try simp (disch:=first|omega|(simp only [lens,z6,z7,zg,z8,zh,zi,lQt,lQd,List.length_replicate];first|done|omega)) only [go_sem,Nat.add_zero]))
  exact DownV.same hw (by simp [RL,RLs])
 ·rw [if_neg h]at hH ⊢
  repeat' (first|apply zs_|apply zb_|apply zc_|apply zt_ rfl|apply zf_ rfl|(apply zd_ rfl<;>intro ht<;>try omega)|((first|apply zr_|apply zk_|apply ze_|apply zq_|(apply callW.mk_pu;(first|exact(fun _=>hH _)))|(apply callW.za;(first|exact(hH _)))|(apply zG<;>intro ht));all_goals try simp (disch:=first|omega|(simp only [lens,z6,z7,zg,z8,zh,zi,lQt,lQd,List.length_replicate];first|done|omega)) only [go_sem,Nat.add_zero]))
  exact DownV.same hw (by simp [RL,RLs])
theorem zp0(O:Store)(t:List UInt8)(ht:t.length<1000000000):ACallsTo TC 114 [.str (68::t)] O (.tup [.nilsl,.int .i64 10]) O:=by
 have hC:=fun O=>zcj O 68 71 t ht
 rw [if_neg (by decide)]at hC
 refine ACallsTo.of_body q26ok (by simp) fun hw _=> ?_
 repeat' (first|apply zs_|apply zb_|apply zc_|apply zt_ rfl|apply zf_ rfl|(apply zd_ rfl<;>intro ht<;>try omega)|((first|apply zr_|apply zk_|apply ze_|apply zq_|(apply callW.mk_pu;(first|exact(fun _=>hC _)))|(apply callW.za;(first|exact(hC _)))|(apply zG<;>intro ht));all_goals try simp (disch:=first|omega|(simp only [lens,z6,z7,zg,z8,zh,zi,lQt,lQd,List.length_replicate];first|done|omega)) only [go_sem,Nat.add_zero]))
 exact DownV.same hw (by simp [RL,RLs])
theorem zp1(O:Store)(P:List Hdr)(h0:P ≠ [])(hl:P.length<=3)(hv:∀q ∈ P,valH q=true):ACallsTo TC 114 [.str (gtS P)] O (.tup [zw 36 (hdrs P),.int .i64 0]) O:=by
 have hP0:0<P.length:=List.length_pos_iff.2 h0
 have hcl:=z8l hv
 have hnl:=z1y P.length
 have hC:=fun O=>zcj O 71 71 (numS P.length++z27 P) (by rw [List.length_append];omega)
 rw [if_pos rfl,z6u (by omega)]at hC
 rw [show rdV (some (P.length,z27 P))=.tup [.int .u64 P.length,.str (z27 P),.bool true]from rfl]at hC
 unfold gtS
 have h1:¬(P.length:Int)<1:=by omega
 have h3:¬(P.length:Int)>3:=by omega
 refine ACallsTo.of_body q26ok (by simp) fun hw _=> ?_
 repeat' (first|apply zs_|apply zb_|apply zc_|apply zt_ rfl|apply zf_ rfl|(apply zd_ rfl<;>intro ht<;>try omega)|((first|apply zr_|apply zk_|apply ze_|apply zq_|(apply callW.mk_pu;(first|exact(fun _=>hC _)))|(apply callW.za;(first|exact(hC _)))|(apply zG<;>intro ht));all_goals try simp (disch:=first|omega|(simp only [lens,z6,z7,zg,z8,zh,zi,lQt,lQd,List.length_replicate];first|done|omega)) only [go_sem,h1,h3]))
 refine zW.loop (fun m J O'=>∃(i:Nat) (w:AV),m+i=P.length/\ OwnN 36 O O' w (hdrs (P.take i))/\ J 5=.str (z27 (P.drop i))/\ J 7=w/\ J 29=.int .u64 P.length/\ J 30=.int .u64 i) P.length ?_ ?_
 ·exact⟨0,.nilsl,by omega,⟨[],by simp,.inl ⟨rfl,rfl⟩⟩,by rw [List.drop_zero];simp (disch:=first|omega|(simp only [lens,z6,z7,zg,z8,zh,zi,lQt,lQd,List.length_replicate];first|done|omega)) only [go_sem],by simp (disch:=first|omega|(simp only [lens,z6,z7,zg,z8,zh,zi,lQt,lQd,List.length_replicate];first|done|omega)) only [go_sem],by simp (disch:=first|omega|(simp only [lens,z6,z7,zg,z8,zh,zi,lQt,lQd,List.length_replicate];first|done|omega)) only [go_sem],by simp (disch:=first|omega|(simp only [lens,z6,z7,zg,z8,zh,zi,lQt,lQd,List.length_replicate];first|done|omega)) only [go_sem];try rfl⟩
 ·rintro m J O' ⟨i,w,hm,hO,q5,q7,q29,q30⟩
  by_cases hi:i<P.length
  ·have hst:=zhh hi
   have hdr:=zpa hi
   have hcl2:=z8l (P:=P.drop (i+1)) fun q hq=>hv q (List.mem_of_mem_drop hq)
   rw [List.length_drop]at hcl2
   have hk:=hv P[i] (List.getElem_mem hi)
   generalize P[i]=u at*
   have hpl:=zdk hk
   have htl:=zcn hk
   have hCt:=fun O=>zc7 O (z25 (z2a u)++z27 (P.drop (i+1))) (by rw [List.length_append];omega)
   rw [zgr (by omega)]at hCt
   rw [show stV (some (z2a u,z27 (P.drop (i+1))))=.tup [.str (z2a u),.str (z27 (P.drop (i+1))),.bool true]from rfl]at hCt
   have hG:=fun O=>Get_to O (z2a u) (by omega)
   rw [zp6 hk]at hG
   rw [hdr]at q5
   have hul:=zg u
   have ua:(hdrC u).take 36=hdrC u:=z7i u
   obtain⟨w',O2,ha,hO2⟩:=(hO.more [some [hdrC u]]).app (ys:=[hdrC u]) (by simp) (by rw [z8,List.length_take];simp;omega)
   rw [hst]at hO2
   have hi':(i:Int)<P.length:=by omega
   repeat' (first|apply zs_|apply zb_|apply zc_|apply zt_ rfl|apply zf_ rfl|(apply zd_ rfl<;>intro ht<;>try omega)|((first|apply zr_|apply zk_|apply ze_|apply zq_|(apply callW.mk_pu;(first|exact(fun _=>hCt _)|exact(fun _=>hG _)))|(apply callW.za;(first|exact(hCt _)|exact(hG _)))|(apply zG<;>intro ht));all_goals try simp (disch:=first|omega|(simp only [lens,z6,z7,zg,z8,zh,zi,lQt,lQd,List.length_replicate];first|done|omega)) only [go_sem,q5,q7,q29,q30,hul,ua,ha,hi']))
   exact⟨m-1,by omega,i+1,w',by omega,hO2,by simp⟩
  ·obtain rfl:i=P.length:=by omega
   rw [List.take_of_length_le (Nat.le_refl _)]at hO
   rw [List.drop_of_length_le (Nat.le_refl _),show z27 []=[]from rfl]at q5
   repeat' (first|apply zs_|apply zb_|apply zc_|apply zt_ rfl|apply zf_ rfl|(apply zd_ rfl<;>intro ht<;>try omega)|((first|apply zr_|apply zk_|apply ze_|apply zq_|(apply zG<;>intro ht));all_goals try simp (disch:=first|omega|(simp only [lens,z6,z7,zg,z8,zh,zi,lQt,lQd,List.length_replicate];first|done|omega)) only [go_sem,q5,q7,q29,q30]))
   exact(hO.froze hw (z91 _)).tup2
theorem zoz(O:Store)(l:List NH)(hl:l.length<=64)(hok:∀p ∈ l,nhOk p=true):ACallsTo TC 115 [.str (knS l)] O (.tup [zw 33 (knP l),.int .i64 0]) O:=by
 have hcl:=z6t l
 have hnl:=z1y l.length
 have hC:=fun O=>zcj O 68 68 (numS l.length++z1x l) (by rw [List.length_append];omega)
 rw [if_pos rfl,z6u (by omega)]at hC
 rw [show rdV (some (l.length,z1x l))=.tup [.int .u64 l.length,.str (z1x l),.bool true]from rfl]at hC
 unfold knS
 have h3:¬(l.length:Int)>64:=by omega
 refine ACallsTo.of_body q27ok (by simp) fun hw _=> ?_
 repeat' (first|apply zs_|apply zb_|apply zc_|apply zt_ rfl|apply zf_ rfl|(apply zd_ rfl<;>intro ht<;>try omega)|((first|apply zr_|apply zk_|apply ze_|apply zq_|(apply callW.mk_pu;(first|exact(fun _=>hC _)))|(apply callW.za;(first|exact(hC _)))|(apply zG<;>intro ht));all_goals try simp (disch:=first|omega|(simp only [lens,z6,z7,zg,z8,zh,zi,lQt,lQd,List.length_replicate];first|done|omega)) only [go_sem,h3]))
 refine zW.loop (fun m J O'=>∃(i:Nat) (w:AV),m+i=l.length/\ OwnN 33 O O' w (knP (l.take i))/\ J 5=.str (z1x (l.drop i))/\ J 7=w/\ J 25=.int .u64 l.length/\ J 26=.int .u64 i) l.length ?_ ?_
 ·exact⟨0,.nilsl,by omega,⟨[],by simp,.inl ⟨rfl,rfl⟩⟩,by rw [List.drop_zero];simp (disch:=first|omega|(simp only [lens,z6,z7,zg,z8,zh,zi,lQt,lQd,List.length_replicate];first|done|omega)) only [go_sem],by simp (disch:=first|omega|(simp only [lens,z6,z7,zg,z8,zh,zi,lQt,lQd,List.length_replicate];first|done|omega)) only [go_sem],by simp (disch:=first|omega|(simp only [lens,z6,z7,zg,z8,zh,zi,lQt,lQd,List.length_replicate];first|done|omega)) only [go_sem],by simp (disch:=first|omega|(simp only [lens,z6,z7,zg,z8,zh,zi,lQt,lQd,List.length_replicate];first|done|omega)) only [go_sem];try rfl⟩
 ·rintro m J O' ⟨i,w,hm,hO,q5,q7,q25,q26⟩
  by_cases hi:i<l.length
  ·have hst:=zqo hi
   have hdr:=zrf hi
   have hcl2:=z6t (l.drop (i+1))
   rw [List.length_drop]at hcl2
   have hk:=hok l[i] (List.getElem_mem hi)
   generalize l[i]=p at*
   obtain⟨n,r⟩:=p
   obtain⟨k1,k2⟩:=of_decide_eq_true hk
   dsimp only at k1 k2 hst
   obtain⟨K,rfl⟩:∃K:Nat,n=K:=⟨n.toNat,by omega⟩
   have kl:=z1y K
   have r32:=r.2
   rw [show nhS ((K:Int),r)=numS K++r.1 from rfl,List.append_assoc]at hdr
   have hRd:=fun O=>z6n O (numS K++(r.1++z1x (l.drop (i+1)))) (by simp only [List.length_append];omega)
   rw [z6u (by omega)]at hRd
   rw [show rdV (some (K,r.1++z1x (l.drop (i+1))))=.tup [.int .u64 K,.str (r.1++z1x (l.drop (i+1))),.bool true]from rfl]at hRd
   have hU:=fun O=>z7e O (r.1++z1x (l.drop (i+1))) (by simp only [List.length_append];omega)
   rw [zkr]at hU
   rw [show unV (some (r,z1x (l.drop (i+1))))=.tup [.agg (hc r),.str (z1x (l.drop (i+1))),.bool true]from rfl]at hU
   rw [hdr]at q5
   have rl:=z6 r
   have ra:(hc r).take 32=hc r:=List.take_of_length_le (by omega)
   have k4:¬(K:Int)>4096:=by omega
   obtain⟨w',O2,ha,hO2⟩:=(hO.more [some [hc r]]).app (ys:=[.int .i64 (K:Int)::hc r]) (by simp) (by rw [zi,List.length_take];simp;omega)
   rw [hst]at hO2
   have hi':(i:Int)<l.length:=by omega
   repeat' (first|apply zs_|apply zb_|apply zc_|apply zt_ rfl|apply zf_ rfl|(apply zd_ rfl<;>intro ht<;>try omega)|((first|apply zr_|apply zk_|apply ze_|apply zq_|(apply callW.mk_pu;(first|exact(fun _=>hRd _)|exact(fun _=>hU _)))|(apply callW.za;(first|exact(hRd _)|exact(hU _)))|(apply zG<;>intro ht));all_goals try simp (disch:=first|omega|(simp only [lens,z6,z7,zg,z8,zh,zi,lQt,lQd,List.length_replicate];first|done|omega)) only [go_sem,q5,q7,q25,q26,rl,ra,ha,hi',k4]))
   exact⟨m-1,by omega,i+1,w',by omega,hO2,by simp⟩
  ·obtain rfl:i=l.length:=by omega
   rw [List.take_of_length_le (Nat.le_refl _)]at hO
   rw [List.drop_of_length_le (Nat.le_refl _),show z1x []=[]from rfl]at q5
   repeat' (first|apply zs_|apply zb_|apply zc_|apply zt_ rfl|apply zf_ rfl|(apply zd_ rfl<;>intro ht<;>try omega)|((first|apply zr_|apply zk_|apply ze_|apply zq_|(apply zG<;>intro ht));all_goals try simp (disch:=first|omega|(simp only [lens,z6,z7,zg,z8,zh,zi,lQt,lQd,List.length_replicate];first|done|omega)) only [go_sem,q5,q7,q25,q26]))
   exact(hO.froze hw (ztr _)).tup2
end
section
attribute [local irreducible] ACallsTo ACallsP
end
section
attribute [local irreducible] ACallsTo ACallsP
end
section
inductive MT where
 |gt (P:List Hdr)
 |kn (l:List NH)
structure MM where
 f:Nat
 t:Nat
 k:MT
def MT.txt:MT->List UInt8| .gt P=>gtS P| .kn l=>knS l
def MM.ml(m:MM):ML:=⟨m.f,m.t,m.k.txt⟩
def MT.Ok:MT->Prop
 | .gt P=>P ≠ []/\ P.length<=3/\ ∀q ∈ P,valH q=true
 | .kn l=>l.length<=64/\ ∀p ∈ l,nhOk p=true
structure MM.Ok(n:Nat)(m:MM):Prop where
 f:m.f<n
 t:m.t<n
 ne:m.f ≠ m.t
 k:m.k.Ok
theorem FrL.fr{O O':Store}{r:Nat}{sid sid':Option Nat}(h:FrL O O' r sid sid'):Fr O O' (r::sid.toList) (r::sid'.toList) where
 st j hj hn:=h.keep j hj (fun e=>hn (e ▸ List.mem_cons_self ..)) fun e=>hn (by rw [e];simp)
 new j hj:=by
  rcases List.mem_cons.1 hj with rfl|h2
  ·exact .inl (List.mem_cons_self ..)
  ·have:sid'=some j:=by cases sid'<;>simp_all
   rcases h.new j this with h3|h3
   ·exact .inl (by rw [h3];simp)
   ·exact .inr h3
 le:=h.len
theorem LkIs.lt2{O:Store}{r:Nat}{nodes:Int}{sid:Option Nat}{L:List ML}(h:LkIs O r nodes sid L):∀x ∈ r::sid.toList,x<O.length:=by
 intro x hx
 obtain⟨h1,h2⟩:=h.lt
 rcases List.mem_cons.1 hx with rfl|h3
 ·exact h1
 ·exact h2 x (by cases sid<;>simp_all)
theorem LkIs.keep{O O':Store}{r:Nat}{nodes:Int}{sid:Option Nat}{L:List ML}(h:LkIs O r nodes sid L)(hk:∀x ∈ r::sid.toList,O'[x]? =O[x]?):LkIs O' r nodes sid L:=by
 refine⟨by rw [hk r (List.mem_cons_self ..)];exact h.obj,?_,h.apart⟩
 have:=h.rows
 cases sid with
 |none=>exact this
 |some s=>obtain⟨junk,hj⟩:=this;exact⟨junk,by rw [hk s (by simp)];exact hj⟩
def z9k(N:Nat)(ow:Nat->List Nat):Prop:=∀i j,i<N->j<N->i ≠ j->∀x ∈ ow i,x ∉ ow j
def z2m(N:Nat)(ow:Nat->List Nat):List Nat:=(List.range N).flatMap ow
theorem mem_allOw{N:Nat}{ow:Nat->List Nat}{x:Nat}:x ∈ z2m N ow ↔ ∃i,i<N/\ x ∈ ow i:=by simp [z2m,List.mem_flatMap]
def updO(ow:Nat->List Nat)(m:Nat)(o:List Nat):Nat->List Nat:=fun j=>if j=m then o else ow j
theorem z9g{ow:Nat->List Nat}{m:Nat}{o:List Nat}:updO ow m o m=o:=if_pos rfl
theorem z5x{ow:Nat->List Nat}{m j:Nat}{o:List Nat}(h:j ≠ m):updO ow m o j=ow j:=if_neg h
theorem ziv{O O':Store}{N m:Nat}{ow:Nat->List Nat}{o:List Nat}(hm:m<N)(hlt:∀i,i<N->∀x ∈ ow i,x<O.length)(hd:z9k N ow)(hf:Fr O O' (ow m) o):
  z9k N (updO ow m o)/\ Fr O O' (z2m N ow) (z2m N (updO ow m o))/\ ∀j,j<N->j ≠ m->∀x ∈ ow j,O'[x]? =O[x]?:=by
 have hk:∀j,j<N->j ≠ m->∀x ∈ o,x ∉ ow j:=fun j hj hne x hx h2=>by
  rcases hf.new x hx with h3|h3
  ·exact hd m j hm hj (fun e=>hne e.symm) x h3 h2
  ·have:=hlt j hj x h2;omega
 refine⟨fun i j hi hj hne x hx h2=> ?_,⟨fun j hj hn=>hf.st j hj fun h=>hn (mem_allOw.2 ⟨m,hm,h⟩),fun x hx=> ?_,hf.le⟩,fun j hj hne x hx=>hf.st x (hlt j hj x hx) fun h=>hd j m hj hm hne x hx h⟩
 ·by_cases h1:i=m
  ·subst h1
   rw [z9g]at hx
   rw [z5x (fun e=>hne e.symm)]at h2
   exact hk j hj (fun e=>hne e.symm) x hx h2
  ·rw [z5x h1]at hx
   by_cases h3:j=m
   ·subst h3;rw [z9g]at h2;exact hk i hi h1 x h2 hx
   ·rw [z5x h3]at h2;exact hd i j hi hj hne x hx h2
 ·obtain⟨i,hi,h2⟩:=mem_allOw.1 hx
  by_cases h1:i=m
  ·subst h1;rw [z9g]at h2
   exact(hf.new x h2).imp_left fun h=>mem_allOw.2 ⟨i,hm,h⟩
  ·rw [z5x h1]at h2;exact .inl (mem_allOw.2 ⟨i,hi,h2⟩)
abbrev PI:=Store->Nat->Hash->List Hdr->List Nat->Prop
structure PLoc(I:PI):Prop where
 lt:∀{O p key P own},I O p key P own->∀j ∈ own,j<O.length
 keep:∀{O O' p key P own},I O p key P own->(∀j,j ∈ own->O'[j]? =O[j]?)->I O' p key P own
theorem ploc_is:PLoc PoIs:=⟨fun h _ hj=>h.lt hj,fun h hk=>h.keep hk⟩
structure CirO(I:PI)(O:Store)(c q l:Nat)(sid:Option Nat)(pp:List Nat)(ow:Nat->List Nat)(key:Hash)(PS:List (List Hdr))(M:List MM):Prop where
 o0:ow 0=[c,q]
 o1:ow 1=l::sid.toList
 len:pp.length=PS.length
 obj:O[c]? =some (some [[.sl q 0 PS.length none 1,.ptr l 0 0]])
 row:O[q]? =some (some (pp.map fun p=>[.ptr p 0 0]))
 lk:LkIs O l PS.length sid (M.map MM.ml)
 pool:∀i,i<PS.length->I O (pp.getD i 0) key (PS.getD i []) (ow (i+2))
 apart:z9k (PS.length+2) ow
def CirS(I:PI)(O:Store)(c:Nat)(key:Hash)(PS:List (List Hdr))(M:List MM)(own:List Nat):Prop:=
 ∃q l sid pp ow,own=z2m (PS.length+2) ow/\ CirO I O c q l sid pp ow key PS M
section
variable {I:PI} (hI:PLoc I) {O O':Store} {c q l:Nat} {sid:Option Nat} {pp:List Nat} {ow:Nat->List Nat} {key:Hash} {PS:List (List Hdr)} {M:List MM} {own:List Nat}
include hI
theorem CirO.lt(h:CirO I O c q l sid pp ow key PS M):∀i,i<PS.length+2->∀x ∈ ow i,x<O.length:=by
 intro i hi x hx
 match i,hi,hx with
 | 0,_,hx=>
  rw [h.o0]at hx
  rcases List.mem_cons.1 hx with rfl|h2
  ·exact slen h.obj
  ·rw [List.mem_singleton.1 h2];exact slen h.row
 | 1,_,hx=>rw [h.o1]at hx;exact h.lk.lt2 x hx
 |i+2,hi,hx=>exact hI.lt (h.pool i (by omega)) x hx
theorem CirO.keep(h:CirO I O c q l sid pp ow key PS M)(hk:∀i,i<PS.length+2->∀x ∈ ow i,O'[x]? =O[x]?):CirO I O' c q l sid pp ow key PS M where
 o0:=h.o0
 o1:=h.o1
 len:=h.len
 obj:=by rw [hk 0 (by omega) c (by rw [h.o0];simp)];exact h.obj
 row:=by rw [hk 0 (by omega) q (by rw [h.o0];simp)];exact h.row
 lk:=h.lk.keep fun x hx=>hk 1 (by omega) x (by rw [h.o1];exact hx)
 pool i hi:=hI.keep (h.pool i hi) fun j hj=>hk (i+2) (by omega) j hj
 apart:=h.apart
theorem CirS.lt(h:CirS I O c key PS M own):∀x ∈ own,x<O.length:=by
 obtain⟨q,l,sid,pp,ow,rfl,h⟩:=h
 intro x hx
 obtain⟨i,hi,h2⟩:=mem_allOw.1 hx
 exact h.lt hI i hi x h2
theorem CirS.keep(h:CirS I O c key PS M own)(hk:∀x ∈ own,O'[x]? =O[x]?):CirS I O' c key PS M own:=by
 obtain⟨q,l,sid,pp,ow,rfl,h⟩:=h
 exact⟨q,l,sid,pp,ow,rfl,h.keep hI fun i hi x hx=>hk x (mem_allOw.2 ⟨i,hi,hx⟩)⟩
theorem CirS.ext(h:CirS I O c key PS M own)(he:Ext O O'):CirS I O' c key PS M own:=h.keep hI fun x hx=>by
 have:=h.lt hI x hx
 obtain⟨y,rfl⟩:=he
 exact gapp this
theorem CirS.fr{o o':List Nat}(h:CirS I O c key PS M own)(hf:Fr O O' o o')(hd:∀x ∈ o,x ∉ own):CirS I O' c key PS M own:=
 h.keep hI fun x hx=>hf.st x (h.lt hI x hx) fun h2=>hd x h2 hx
theorem CirO.pool'(h:CirO I O c q l sid pp ow key PS M){i:Nat}(hi:i<PS.length){P:List Hdr}{o:List Nat}(hf:Fr O O' (ow (i+2)) o)(hp:I O' (pp.getD i 0) key P o):
  CirO I O' c q l sid pp (updO ow (i+2) o) key (PS.set i P) M/\ Fr O O' (z2m (PS.length+2) ow) (z2m (PS.length+2) (updO ow (i+2) o)):=by
 obtain⟨h1,h2,h3⟩:=ziv (by omega) (h.lt hI) h.apart hf
 refine⟨?_,h2⟩
 have k0:=h3 0 (by omega) (by omega)
 have k1:=h3 1 (by omega) (by omega)
 exact {
  o0:=by rw [z5x (by omega)];exact h.o0
  o1:=by rw [z5x (by omega)];exact h.o1
  len:=by rw [List.length_set];exact h.len
  obj:=by rw [List.length_set,k0 c (by rw [h.o0];simp)];exact h.obj
  row:=by rw [k0 q (by rw [h.o0];simp)];exact h.row
  lk:=by rw [List.length_set];exact h.lk.keep fun x hx=>k1 x (by rw [h.o1];exact hx)
  pool:=fun j hj=>by
   rw [List.length_set]at hj
   by_cases e:j=i
   ·subst e
    rw [z9g,show (PS.set j P).getD j []=P by simp [List.getD,hj]]
    exact hp
   ·rw [z5x (by omega),show (PS.set i P).getD j []=PS.getD j []by simp [List.getD,List.getElem?_set_ne (fun e2=>e e2.symm)]]
    exact hI.keep (h.pool j hj) (h3 (j+2) (by omega) (by omega))
  apart:=by rw [List.length_set];exact h1 }
theorem CirO.links'(h:CirO I O c q l sid pp ow key PS M){sid':Option Nat}{M':List MM}(hf:FrL O O' l sid sid')(hl:LkIs O' l PS.length sid' (M'.map MM.ml)):
  CirO I O' c q l sid' pp (updO ow 1 (l::sid'.toList)) key PS M'/\ Fr O O' (z2m (PS.length+2) ow) (z2m (PS.length+2) (updO ow 1 (l::sid'.toList))):=by
 obtain⟨h1,h2,h3⟩:=ziv (m:=1) (o:=l::sid'.toList) (by omega) (h.lt hI) h.apart (by rw [h.o1];exact hf.fr)
 refine⟨?_,h2⟩
 have k0:=h3 0 (by omega) (by omega)
 exact {
  o0:=by rw [z5x (by omega)];exact h.o0
  o1:=z9g
  len:=h.len
  obj:=by rw [k0 c (by rw [h.o0];simp)];exact h.obj
  row:=by rw [k0 q (by rw [h.o0];simp)];exact h.row
  lk:=hl
  pool:=fun j hj=>by
   rw [z5x (by omega)]
   exact hI.keep (h.pool j hj) (h3 (j+2) (by omega) (by omega))
  apart:=h1 }
end
end
section
theorem zt3{mk:AV->List AV}{O:Store}{p:Nat}{v:AV}{sid:Option Nat}(P:List Hdr)(hp:O[p]? =some (some [mk v])):
  ∃O' v' sid',O'[p]? =some (some [mk v'])/\ RowAt 36 O' sid' v' (hdrs P)/\ sid' ≠ some p/\ Fr O O' (p::sid.toList) (p::sid'.toList):=by
 have hl:=slen hp
 by_cases h0:P=[]
 ·refine⟨O.set p (some [mk .nilsl]),.nilsl,none,z1t hl,.inl ⟨rfl,by rw [h0];rfl,rfl⟩,by simp,⟨fun j hj hn=>z1a fun e=>hn (by rw [e];simp),fun j hj=> ?_,by simp⟩⟩
  simp at hj;subst hj;exact .inl (List.mem_cons_self ..)
 ·refine⟨O.set p (some [mk (.sl O.length 0 (hdrs P).length none 36)])++ [some (hdrs P)],_,some O.length,?_,.inr ⟨O.length,rfl,?_,rfl,?_⟩,?_,⟨fun j hj hn=> ?_,fun j hj=> ?_,by simp⟩⟩
  ·rw [gapp (by simpa using hl),z1t hl]
  ·intro e;have:=congrArg List.length e;rw [z8]at this;exact h0 (List.length_eq_zero_iff.1 this)
  ·rw [z16 (by simp)];simp
  ·intro e;injection e with e;omega
  ·rw [gapp (by simpa using hj)];exact z1a fun e=>hn (by rw [e];simp)
  ·simp at hj
   rcases hj with rfl|rfl
   ·exact .inl (List.mem_cons_self ..)
   ·exact .inr (Nat.le_refl _)
def PAny(I:PI):Prop:=∀{O p key P own},I O p key P own->∀P',∃O' own',I O' p key P' own'/\ Fr O O' own own'
theorem z5n:PAny PoIs:=fun {O p key P own} h P'=>by
 obtain⟨v,sid,rfl,hp,hr,hn⟩:=h
 obtain⟨O',v',sid',h1,h2,h3,h4⟩:=zt3 (mk:=poC key) (sid:=sid) P' hp
 exact⟨O',_,⟨v',sid',rfl,h1,h2,h3⟩,h4⟩
theorem Fr.trans{O O2 O3:Store}{a b c:List Nat}(h:Fr O O2 a b)(h2:Fr O2 O3 b c):Fr O O3 a c:=by
 refine⟨fun j hj hn=> ?_,fun j hj=> ?_,Nat.le_trans h.le h2.le⟩
 ·rw [h2.st j (by have:=h.le;omega) fun h3=> ?_,h.st j hj hn]
  rcases h.new j h3 with h4|h4
  ·exact hn h4
  ·omega
 ·rcases h2.new j hj with h3|h3
  ·exact h.new j h3
  ·exact .inr (by have:=h.le;omega)
section
variable {I:PI} (hI:PLoc I) (hA:PAny I) {O:Store} {c:Nat} {key:Hash} {PS:List (List Hdr)} {M:List MM} {own:List Nat}
include hI hA
theorem CirS.pools(h:CirS I O c key PS M own)(PS':List (List Hdr))(hl:PS'.length=PS.length):∀n,n<=PS.length->∃O' own',CirS I O' c key (PS'.take n++PS.drop n) M own'/\ Fr O O' own own'
 | 0,_=>⟨O,own,by simpa using h,⟨fun _ _ _=>rfl,fun _ h=> .inl h,Nat.le_refl _⟩⟩
 |n+1,hn=>by
  obtain⟨O1,own1,⟨q,l,sid,pp,ow,rfl,h1⟩,f1⟩:=CirS.pools h PS' hl n (by omega)
  have hlen:(PS'.take n++PS.drop n).length=PS.length:=by simp;omega
  obtain⟨O2,o,h2,f2⟩:=hA (h1.pool n (by omega)) (PS'.getD n [])
  obtain⟨h3,f3⟩:=h1.pool' hI (i:=n) (by omega) f2 h2
  have e:(PS'.take n++PS.drop n).set n (PS'.getD n [])=PS'.take (n+1)++PS.drop (n+1):=by
   rw [List.set_append_right _ _ (by simp;omega),List.length_take,show n-min n PS'.length=0 by omega,List.drop_eq_getElem_cons (by omega),List.set_cons_zero,List.take_succ_eq_append_getElem (show n<PS'.length by omega),List.append_assoc,show PS'.getD n []=PS'[n]'(by omega)by simp [List.getD,List.getElem?_eq_getElem (show n<PS'.length by omega)]]
   rfl
  rw [e]at h3
  exact⟨O2,_,⟨q,l,sid,pp,_,by rw [show (PS'.take (n+1)++PS.drop (n+1)).length=(PS'.take n++PS.drop n).length by simp;omega],h3⟩,f1.trans f3⟩
theorem CirS.any(h:CirS I O c key PS M own)(PS':List (List Hdr))(M':List MM)(hl:PS'.length=PS.length):∃O' own',CirS I O' c key PS' M' own'/\ Fr O O' own own':=by
 obtain⟨O1,own1,h1,f1⟩:=CirS.pools hI hA h PS' hl PS.length (Nat.le_refl _)
 rw [List.drop_length,List.append_nil,<-hl,List.take_length]at h1
 obtain⟨q,l,sid,pp,ow,rfl,h1⟩:=h1
 obtain⟨O2,sid',h2,f2⟩:=lk_any h1.lk (M'.map MM.ml)
 obtain⟨h3,f3⟩:=h1.links' hI f2 h2
 exact⟨O2,_,⟨q,l,sid',pp,_,rfl,h3⟩,f1.trans f3⟩
end
def CirP(I:PI)(O:Store)(c:Nat)(key:Hash)(own:List Nat)(v:AV)(PS:List (List Hdr))(M:List MM)(a:AV)(O':Store):Prop:=a=v/\ ∃own',CirS I O' c key PS M own'/\ Fr O O' own own'
theorem CirP.is{I:PI}(hI:PLoc I)(hA:PAny I){O:Store}{c:Nat}{key:Hash}{PS PS':List (List Hdr)}{M M':List MM}{own:List Nat}(h:CirS I O c key PS M own)(v:AV)(hl:PS'.length=PS.length):∃a O',CirP I O c key own v PS' M' a O':=by
 obtain⟨O',own',h1,h2⟩:=h.any hI hA PS' M' hl
 exact⟨v,O',rfl,own',h1,h2⟩
def isN(n:Nat)(i:Int):Bool:=decide (0<=i/\ i<n)
attribute [local irreducible] ACallsTo ACallsP
theorem z6l(O:Store)(c q l n:Nat)(i:Int)(h:O[c]? =some (some [[.sl q 0 n none 1,.ptr l 0 0]])):ACallsTo TC 63 [.ptr c 0 0,.int .i64 i] O (.bool (isN n i)) O:=by
 refine ACallsTo.of_body q2rok (by simp) fun hw _=> ?_
 unfold isN
 by_cases h1:0<=i
 ·have h1':i>=0:=h1
  by_cases h2:i<n
  ·rw [decide_eq_true ⟨h1,h2⟩]
   repeat' (first|apply zs_|apply zb_|apply zc_|apply zt_ rfl|apply zf_ rfl|(apply zd_ rfl<;>intro ht<;>try omega)|((first|apply zr_|apply zk_|apply ze_|apply zq_|(apply zG<;>intro ht));all_goals try simp (disch:=first|omega|(simp only [lens,z6,z7,zg,z8,zh,zi,lQt,lQd,List.length_replicate,lQm];first|done|omega)) only [go_sem,h,h1',h2]))
   exact DownV.same hw rl_b
  ·rw [decide_eq_false fun h=>h2 h.2]
   repeat' (first|apply zs_|apply zb_|apply zc_|apply zt_ rfl|apply zf_ rfl|(apply zd_ rfl<;>intro ht<;>try omega)|((first|apply zr_|apply zk_|apply ze_|apply zq_|(apply zG<;>intro ht));all_goals try simp (disch:=first|omega|(simp only [lens,z6,z7,zg,z8,zh,zi,lQt,lQd,List.length_replicate,lQm];first|done|omega)) only [go_sem,h,h1',h2]))
   exact DownV.same hw rl_b
 ·have h1':¬i>=0:=h1
  rw [decide_eq_false fun h=>h1 h.1]
  repeat' (first|apply zs_|apply zb_|apply zc_|apply zt_ rfl|apply zf_ rfl|(apply zd_ rfl<;>intro ht<;>try omega)|((first|apply zr_|apply zk_|apply ze_|apply zq_|(apply zG<;>intro ht));all_goals try simp (disch:=first|omega|(simp only [lens,z6,z7,zg,z8,zh,zi,lQt,lQd,List.length_replicate,lQm];first|done|omega)) only [go_sem,h,h1']))
  exact DownV.same hw rl_b
theorem zac(O:Store)(c q l n:Nat)(h:O[c]? =some (some [[.sl q 0 n none 1,.ptr l 0 0]]))(hn:0<n):ACallsTo TC 62 [.ptr c 0 0] O (.bool false) O:=by
 have h1:((n:Int)==0)=false:=beq_eq_false_iff_ne.2 (by omega)
 refine ACallsTo.of_body q2qok (by simp) fun hw _=> ?_
 repeat' (first|apply zs_|apply zb_|apply zc_|apply zt_ rfl|apply zf_ rfl|(apply zd_ rfl<;>intro ht<;>try omega)|((first|apply zr_|apply zk_|apply ze_|apply zq_|(apply zG<;>intro ht));all_goals try simp (disch:=first|omega|(simp only [lens,z6,z7,zg,z8,zh,zi,lQt,lQd,List.length_replicate,lQm];first|done|omega)) only [go_sem,h,h1]))
 exact DownV.same hw rl_b
section
variable {O:Store} {c:Nat} {key:Hash} {PS:List (List Hdr)} {M:List MM} {own:List Nat}
theorem zn8(h:CirS PoIs O c key PS M own)(hn:0<PS.length)(hl:M.length<1000000):ACallsTo TC 26 [.ptr c 0 0] O (.int .i64 M.length) O:=by
 obtain⟨q,l,sid,pp,ow,rfl,h⟩:=h
 have hN:=zac O c q l _ h.obj hn
 have hM:=zqy O l PS.length sid (M.map MM.ml) h.lk (by omega) (by simpa using hl)
 have ho:=h.obj
 have hln:(M.map MM.ml).length=M.length:=List.length_map ..
 have hsl:z1g (slOf (z6s O (M.map MM.ml)) (M.map MM.ml).length 3)=some (.int .i64 M.length):=by
  unfold z6s
  split
  ·rename_i h0
   have:M.length=0:=by rw [<-hln,h0];rfl
   rw [this];rfl
  ·rw [hln];rfl
 unfold z1g at hsl
 generalize slOf (z6s O (M.map MM.ml)) (M.map MM.ml).length 3=x at*
 refine ACallsTo.of_body q2nok (by simp) fun hw _=> ?_
 repeat' (first|apply zs_|apply zb_|apply zc_|apply zt_ rfl|apply zf_ rfl|(apply zd_ rfl<;>intro ht<;>try omega)|((first|apply zr_|apply zk_|apply ze_|apply zq_|(apply callW.mk_pu;(first|exact(fun _=>hN)|exact(fun _=>hM)))|(apply callW.za;(first|exact(hN)|exact(hM)))|(apply zG<;>intro ht));all_goals try simp (disch:=first|omega|(simp only [lens,z6,z7,zg,z8,zh,zi,lQt,lQd,List.length_replicate,lQm];first|done|omega)) only [go_sem,ho,hsl]))
 exact DownV.pure hw rl_i
def z8g(n:Nat)(M:List MM)(i:Int):List MM:=if atS n M.length i=0 then M.eraseIdx i.toNat else M
theorem znv(n:Nat)(M:List MM)(i:Int):(z8g n M i).map MM.ml=delL n (M.map MM.ml) i:=by
 unfold z8g delL
 rw [List.length_map]
 split
 ·rw [List.eraseIdx_eq_take_drop_succ,List.eraseIdx_eq_take_drop_succ,List.map_append,List.map_take,List.map_drop]
 ·rfl
theorem zp4(M:List MM)(i:Nat)(h:i<M.length):(M.map MM.ml).getD i ⟨0,0,[]⟩=(M.getD i ⟨0,0,.kn []⟩).ml:=by
 simp [List.getD,h]
end
end
section
theorem POk.val{key:Hash}{P:List Hdr}(h:POk key P):∀q ∈ P,valH q=true:=fun q hq=>by
 have:=h.chk q hq
 unfold z1m at this
 cases e:z26 q.n q.i q.s q.p
 ·rw [if_pos e]at this;cases this
 ·exact e
theorem val_nh{q:Hdr}(h:valH q=true):nhOk (q.n,q.r)=true:=by
 obtain⟨h1,h2,_⟩:=of_decide_eq_true h
 exact decide_eq_true ⟨h1,h2⟩
theorem POk.nh{key:Hash}{P:List Hdr}(h:POk key P):∀p ∈ hns P,nhOk p=true:=fun p hp=>by
 obtain⟨q,hq,rfl⟩:=List.mem_map.1 hp
 exact val_nh (h.val q hq)
def POks(key:Hash)(PS:List (List Hdr)):Prop:=∀i,i<PS.length->POk key (PS.getD i [])
theorem POks.set{key:Hash}{PS:List (List Hdr)}(h:POks key PS)(i:Nat){P:List Hdr}(hP:POk key P):POks key (PS.set i P):=fun j hj=>by
 rw [List.length_set]at hj
 by_cases e:i=j
 ·subst e;rw [show (PS.set i P).getD i []=P by simp [List.getD,hj]];exact hP
 ·rw [show (PS.set i P).getD j []=PS.getD j []by simp [List.getD,List.getElem?_set_ne e]];exact h j hj
def lrnC(key:Hash)(PS:List (List Hdr))(i:Int)(q:Hdr):Int:=if isN PS.length i=true then addC key (PS.getD i.toNat []) q else 0
def lrnS(key:Hash)(PS:List (List Hdr))(i:Int)(q:Hdr):List (List Hdr):=if isN PS.length i=true then PS.set i.toNat (addL key (PS.getD i.toNat []) q)else PS
theorem z8r{n:Nat}{i:Int}(h:isN n i=true):∃k:Nat,i=k/\ k<n:=by
 obtain⟨h1,h2⟩:=of_decide_eq_true h
 exact⟨i.toNat,by omega,by omega⟩
theorem z69{pp:List Nat}{i:Nat}(h:i<pp.length):(pp.map fun p=>[AV.ptr p 0 0])[i]? =some [.ptr (pp.getD i 0) 0 0]:=by
 simp [h,List.getD]
def twoN(n:Nat)(i k:Int):Bool:=isN n i && isN n k && !decide (i=k)
def tlkM(PS:List (List Hdr))(i k:Int):MM:=⟨i.toNat,k.toNat,.kn (hns (PS.getD i.toNat []))⟩
def tlkI(PS:List (List Hdr))(M:List MM)(i k:Int):Int:=if twoN PS.length i k=true then z1z PS.length M.length (tlkM PS i k).ml else 2
def zep(PS:List (List Hdr))(M:List MM)(i k:Int):List MM:=if tlkI PS M i k=0 then M++ [tlkM PS i k]else M
attribute [local irreducible] ACallsTo ACallsP
section
variable {O:Store} {c:Nat} {key:Hash} {PS:List (List Hdr)} {M:List MM} {own:List Nat}
theorem zn6(h:CirS PoIs O c key PS M own)(hok:POks key PS)(i:Int)(q:Hdr)(x:AV)(hx:SlV 32 (hr q.p) x)(hxl:q.p.length<1000000):ACallsP TC 21 [.ptr c 0 0,.int .i64 i,.agg (sgC q.n q.r q.i q.s x)] O (CirP PoIs O c key own (.int .i64 (lrnC key PS i q)) (lrnS key PS i q) M):=by
 have hfin:=h
 obtain⟨Q,l,sid,pp,ow,rfl,h⟩:=h
 have hb:=fun y=>z6l (O++y) c Q l PS.length i (by rw [gapp (slen h.obj)];exact h.obj)
 have hb0:=z6l O c Q l PS.length i h.obj
 have ho:=h.obj
 have lq:=z7 q.n q.r q.i q.s x
 have hco:=slen h.obj
 refine ACallsP.of_keep q2iok (by simp) ?_
 unfold lrnC lrnS
 by_cases hi:isN PS.length i=true
 ·rw [if_pos hi,if_pos hi]
  obtain⟨k,rfl,hk⟩:=z8r hi
  rw [hi]at hb hb0
  have hr:=h.row
  have hrl:=slen hr
  have hpp:=z69 (pp:=pp) (i:=k) (by rw [h.len];exact hk)
  have hpl:(pp.map fun p=>[AV.ptr p 0 0]).length=PS.length:=by rw [List.length_map,h.len]
  have E:Ext O (O++ [some [sgC q.n q.r q.i q.s x]]):=⟨_,rfl⟩
  have tq:(sgC q.n q.r q.i q.s x).take 36=sgC q.n q.r q.i q.s x:=List.take_of_length_le (by omega)
  have hk':(k:Int)<PS.length:=by omega
  repeat' (first|apply zs_|apply zb_|apply zc_|apply zt_ rfl|apply zf_ rfl|(apply zd_ rfl<;>intro ht<;>try omega)|((first|apply zr_|apply zk_|apply ze_|apply zq_|(apply callW.mk_pu;(first|exact(fun _=>hb _)))|(apply callW.za;(first|exact(hb _)))|(apply zG<;>intro ht));all_goals try simp (disch:=first|omega|(simp only [lens,z6,z7,zg,z8,zh,zi,lQt,lQd,List.length_replicate,lQm];first|done|omega)) only [go_sem,ho,hr,hpp,hpl,lq,tq,hk']))
  have hP:=ploc_is.keep (h.pool k hk) (O':=O++ [some [sgC q.n q.r q.i q.s x]]) fun j hj=>gapp (ploc_is.lt (h.pool k hk) j hj)
  refine callW.mkP (caps:=[]) (zdf _ (pp.getD k 0) key _ _ q x hP (hok k hk).sort (hok k hk).len hx hxl (fun e=>zc5 e)) (PoAddP.is hP) ?_
  rintro v O' ⟨rfl,o,f1,P1⟩
  have f2:Fr O O' (ow (k+2)) o:=(Fr.ext E).trans f1
  obtain⟨h1,h2⟩:=h.pool' ploc_is hk f2 P1
  simp (disch:=first|omega|(simp only [lens,z6,z7,zg,z8,zh,zi,lQt,lQd,List.length_replicate,lQm];first|done|omega)) only [go_sem]
  repeat' (first|apply zs_|apply zb_|apply zc_|apply zt_ rfl|apply zf_ rfl|(apply zd_ rfl<;>intro ht<;>try omega)|((first|apply zr_|apply zk_|apply ze_|apply zq_|(apply zG<;>intro ht));all_goals try simp (disch:=first|omega|(simp only [lens,z6,z7,zg,z8,zh,zi,lQt,lQd,List.length_replicate,lQm];first|done|omega)) only [go_sem]))
  exact⟨rfl,_,⟨Q,l,sid,pp,_,by rw [List.length_set],h1⟩,h2⟩
 ·rw [if_neg hi,if_neg hi]
  rw [Bool.eq_false_iff.2 hi]at hb hb0
  repeat' (first|apply zs_|apply zb_|apply zc_|apply zt_ rfl|apply zf_ rfl|(apply zd_ rfl<;>intro ht<;>try omega)|((first|apply zr_|apply zk_|apply ze_|apply zq_|(apply callW.mk_pu;(first|exact(fun _=>hb _)))|(apply callW.za;(first|exact(hb _)))|(apply zG<;>intro ht));all_goals try simp (disch:=first|omega|(simp only [lens,z6,z7,zg,z8,zh,zi,lQt,lQd,List.length_replicate,lQm];first|done|omega)) only [go_sem,lq]))
  exact⟨rfl,_,hfin.ext ploc_is ⟨_,rfl⟩,Fr.ext ⟨_,rfl⟩⟩
theorem zge(h:CirS PoIs O c key PS M own)(hok:POks key PS)(k:Nat)(hk:k<PS.length):ACallsP TC 27 [.ptr c 0 0,.int .i64 k] O (PoCopyP O key (PS.getD k [])):=by
 obtain⟨Q,l,sid,pp,ow,rfl,h⟩:=h
 have hb:=z6l O c Q l PS.length k h.obj
 rw [show isN PS.length k=true from decide_eq_true ⟨by omega,by omega⟩]at hb
 have ho:=h.obj
 have hr:=h.row
 have hpp:=z69 (pp:=pp) (i:=k) (by rw [h.len];exact hk)
 have hpl:(pp.map fun p=>[AV.ptr p 0 0]).length=PS.length:=by rw [List.length_map,h.len]
 have hk':(k:Int)<PS.length:=by omega
 have hl:=(hok k hk).len
 refine ACallsP.of_keep q2ook (by simp) ?_
 repeat' (first|apply zs_|apply zb_|apply zc_|apply zt_ rfl|apply zf_ rfl|(apply zd_ rfl<;>intro ht<;>try omega)|((first|apply zr_|apply zk_|apply ze_|apply zq_|(apply callW.mk_pu;(first|exact(fun _=>hb)))|(apply callW.za;(first|exact(hb)))|(apply zG<;>intro ht));all_goals try simp (disch:=first|omega|(simp only [lens,z6,z7,zg,z8,zh,zi,lQt,lQd,List.length_replicate,lQm];first|done|omega)) only [go_sem,ho,hr,hpp,hpl,hk']))
 refine callW.mkP (caps:=[]) (zsy O (pp.getD k 0) key _ _ (h.pool k hk) (by omega) (hok k hk).path) (PoCopyP.is _ _ _) ?_
 rintro v O' ⟨p,o,rfl,hE,hP,ho⟩
 simp (disch:=first|omega|(simp only [lens,z6,z7,zg,z8,zh,zi,lQt,lQd,List.length_replicate,lQm];first|done|omega)) only [go_sem]
 repeat' (first|apply zs_|apply zb_|apply zc_|apply zt_ rfl|apply zf_ rfl|(apply zd_ rfl<;>intro ht<;>try omega)|((first|apply zr_|apply zk_|apply ze_|apply zq_|(apply zG<;>intro ht));all_goals try simp (disch:=first|omega|(simp only [lens,z6,z7,zg,z8,zh,zi,lQt,lQd,List.length_replicate,lQm];first|done|omega)) only [go_sem]))
 exact⟨p,o,rfl,hE,hP,ho⟩
theorem znf(h:CirS PoIs O c key PS M own)(hok:POks key PS)(hn:0<PS.length)(hl:M.length<1000000)(i k:Int):ACallsP TC 22 [.ptr c 0 0,.int .i64 i,.int .i64 k] O (CirP PoIs O c key own (.int .i64 (tlkI PS M i k)) PS (zep PS M i k)):=by
 have hfin:=h
 obtain⟨Q,l,sid,pp,ow,rfl,h⟩:=h
 have hN:=zac O c Q l _ h.obj hn
 have hbi:=z6l O c Q l PS.length i h.obj
 have hbk:=z6l O c Q l PS.length k h.obj
 have ho:=h.obj
 refine ACallsP.of_keep q2jok (by simp) ?_
 unfold zep
 unfold tlkI
 by_cases ht:twoN PS.length i k=true
 ·rw [if_pos ht]
  unfold twoN at ht
  simp only [Bool.and_eq_true,Bool.not_eq_true',decide_eq_false_iff_not]at ht
  obtain⟨⟨hi,hk⟩,hne⟩:=ht
  rw [hi]at hbi
  rw [hk]at hbk
  obtain⟨a,rfl,ha⟩:=z8r hi
  obtain⟨b,rfl,hb⟩:=z8r hk
  have hne':((a:Int)==b)=false:=beq_eq_false_iff_ne.2 hne
  have hr:=h.row
  have hpp:=z69 (pp:=pp) (i:=a) (by rw [h.len];exact ha)
  have hpl:(pp.map fun p=>[AV.ptr p 0 0]).length=PS.length:=by rw [List.length_map,h.len]
  have ha':(a:Int)<PS.length:=by omega
  have hpo:=hok a ha
  have hpol:=hpo.len
  have hK:=zj3 O (pp.getD a 0) key _ _ (h.pool a ha) (by omega)
  have hPK:=zlh O (hns (PS.getD a [])) (zw 33 (kn (PS.getD a []))) (by rw [<-zhx];exact z2c _ _) (by rw [zhi];omega) hpo.nh
  have hS:=zib O l PS.length sid (M.map MM.ml) (tlkM PS a b).ml h.lk
  have hE:=zia (m:=(tlkM PS a b).ml) h.lk
  rw [List.length_map]at hS hE
  have hml:(tlkM PS a b).ml=⟨(a:Int),(b:Int),knS (hns (PS.getD a []))⟩:=rfl
  have hargs:mailC (tlkM PS a b).ml=[.int .i64 (a:Int),.int .i64 (b:Int),.str (knS (hns (PS.getD a [])))]:=by rw [hml];rfl
  rw [hargs]at hS
  have hmm:(if z1z PS.length M.length (tlkM PS a b).ml=0 then M.map MM.ml++ [(tlkM PS a b).ml]else M.map MM.ml)=(if z1z PS.length M.length (tlkM PS a b).ml=0 then M++ [tlkM PS a b]else M).map MM.ml:=by
   split
   ·rw [List.map_append];rfl
   ·rfl
  generalize z1z PS.length M.length (tlkM PS a b).ml=e at*
  generalize tlkM PS a b=m at*
  generalize knS (hns (PS.getD a []))=txt at*
  repeat' (first|apply zs_|apply zb_|apply zc_|apply zt_ rfl|apply zf_ rfl|(apply zd_ rfl<;>intro ht<;>try omega)|((first|apply zr_|apply zk_|apply ze_|apply zq_|(apply callW.mk_pu;(first|exact(fun _=>hN)|exact(fun _=>hbi)|exact(fun _=>hbk)|exact(fun _=>hK)|exact(fun _=>hPK)))|(apply callW.za;(first|exact(hN)|exact(hbi)|exact(hbk)|exact(hK)|exact(hPK)))|(apply zG<;>intro ht));all_goals try simp (disch:=first|omega|(simp only [lens,z6,z7,zg,z8,zh,zi,lQt,lQd,List.length_replicate,lQm];first|done|omega)) only [go_sem,ho,hr,hpp,hpl,ha',hne']))
  refine callW.mkP (caps:=[]) hS hE ?_
  rintro v O' ⟨rfl,sid',k1,k2⟩
  rw [hmm]at k1
  obtain⟨h1,h2⟩:=h.links' ploc_is k2 k1
  simp (disch:=first|omega|(simp only [lens,z6,z7,zg,z8,zh,zi,lQt,lQd,List.length_replicate,lQm];first|done|omega)) only [go_sem]
  repeat' (first|apply zs_|apply zb_|apply zc_|apply zt_ rfl|apply zf_ rfl|(apply zd_ rfl<;>intro ht<;>try omega)|((first|apply zr_|apply zk_|apply ze_|apply zq_|(apply zG<;>intro ht));all_goals try simp (disch:=first|omega|(simp only [lens,z6,z7,zg,z8,zh,zi,lQt,lQd,List.length_replicate,lQm];first|done|omega)) only [go_sem]))
  exact⟨rfl,_,⟨Q,l,sid',pp,_,rfl,h1⟩,h2⟩
 ·rw [if_neg ht]
  rw [if_neg (by decide)]
  have hres:CirP PoIs O c key (z2m (PS.length+2) ow) (.int .i64 2) PS M (.int .i64 2) O:=⟨rfl,_,hfin,⟨fun _ _ _=>rfl,fun _ h=> .inl h,Nat.le_refl _⟩⟩
  cases hi:isN PS.length i
  ·rw [hi]at hbi
   repeat' (first|apply zs_|apply zb_|apply zc_|apply zt_ rfl|apply zf_ rfl|(apply zd_ rfl<;>intro ht<;>try omega)|((first|apply zr_|apply zk_|apply ze_|apply zq_|(apply callW.mk_pu;(first|exact(fun _=>hN)|exact(fun _=>hbi)))|(apply callW.za;(first|exact(hN)|exact(hbi)))|(apply zG<;>intro ht));all_goals try simp (disch:=first|omega|(simp only [lens,z6,z7,zg,z8,zh,zi,lQt,lQd,List.length_replicate,lQm];first|done|omega)) only [go_sem]))
   exact hres
  ·rw [hi]at hbi
   cases hk:isN PS.length k
   ·rw [hk]at hbk
    repeat' (first|apply zs_|apply zb_|apply zc_|apply zt_ rfl|apply zf_ rfl|(apply zd_ rfl<;>intro ht<;>try omega)|((first|apply zr_|apply zk_|apply ze_|apply zq_|(apply callW.mk_pu;(first|exact(fun _=>hN)|exact(fun _=>hbi)|exact(fun _=>hbk)))|(apply callW.za;(first|exact(hN)|exact(hbi)|exact(hbk)))|(apply zG<;>intro ht));all_goals try simp (disch:=first|omega|(simp only [lens,z6,z7,zg,z8,zh,zi,lQt,lQd,List.length_replicate,lQm];first|done|omega)) only [go_sem]))
    exact hres
   ·rw [hk]at hbk
    have hik:i=k:=by
     unfold twoN at ht
     rw [hi,hk]at ht
     simpa using ht
    subst hik
    have hee:((i:Int)==i)=true:=by simp
    repeat' (first|apply zs_|apply zb_|apply zc_|apply zt_ rfl|apply zf_ rfl|(apply zd_ rfl<;>intro ht<;>try omega)|((first|apply zr_|apply zk_|apply ze_|apply zq_|(apply callW.mk_pu;(first|exact(fun _=>hN)|exact(fun _=>hbi)))|(apply callW.za;(first|exact(hN)|exact(hbi)))|(apply zG<;>intro ht));all_goals try simp (disch:=first|omega|(simp only [lens,z6,z7,zg,z8,zh,zi,lQt,lQd,List.length_replicate,lQm];first|done|omega)) only [go_sem,hee]))
    exact hres
end
end
section
def z1d(key:Hash)(P:List Hdr)(l:List Hdr):List Hdr:=l.foldl (addL key) P
theorem z86{key:Hash}{P:List Hdr}(h:POk key P):∀l,POk key (z1d key P l):=fun l=>by
 induction l generalizing P with
 |nil=>exact h
 |cons q l ih=>exact ih (h.add q)
theorem zfn{key:Hash}{P l:List Hdr}{i:Nat}(h:i<l.length):z1d key P (l.take (i+1))=addL key (z1d key P (l.take i)) l[i]:=by
 unfold z1d;rw [List.take_succ_eq_append_getElem h,List.foldl_append];rfl
def zbd(key:Hash)(PS:List (List Hdr))(m:MM):List (List Hdr):=match m.k with| .gt l=>PS.set m.t (z1d key (PS.getD m.t []) l)| .kn _=>PS
def repM(PS:List (List Hdr))(m:MM)(l:List NH):MM:=⟨m.t,m.f,.gt (z1b (PS.getD m.t []) l)⟩
def zbc(PS:List (List Hdr))(M:List MM)(m:MM):List MM:=match m.k with
 | .gt _=>M
 | .kn l=>if z1b (PS.getD m.t []) l ≠ []/\ z1z PS.length M.length (repM PS m l).ml=0 then M++ [repM PS m l]else M
theorem zxa(key:Hash)(PS:List (List Hdr))(m:MM):(zbd key PS m).length=PS.length:=by unfold zbd;split<;>simp
theorem zck{PS:List (List Hdr)}{i:Nat}(h:i<PS.length)(P:List Hdr):(PS.set i P).getD i []=P:=by simp [List.getD,h]
theorem zku{q:Hdr}(h:valH q=true):q.p.length=3:=(of_decide_eq_true h).2.2.2.2.2
attribute [local irreducible] ACallsTo ACallsP
section
variable {O:Store} {c:Nat} {key:Hash} {PS:List (List Hdr)} {M:List MM} {own:List Nat}
theorem znr(h:CirS PoIs O c key PS M own)(hok:POks key PS)(f t:Nat)(l:List Hdr)(ht:t<PS.length)(hk:(MT.gt l).Ok):
  ACallsP TC 68 [.ptr c 0 0,.agg [.int .i64 f,.int .i64 t,.str (gtS l)]] O (CirP PoIs O c key own (.tup []) (PS.set t (z1d key (PS.getD t []) l)) M):=by
 obtain⟨k0,k3,kv⟩:=hk
 have hG:=fun O=>zp1 O l k0 k3 kv
 have hsv:=z2c 36 (hdrs l)
 have r1:=hsv.len
 rw [z8]at r1
 unfold z1g at r1
 generalize zw 36 (hdrs l)=X at*
 generalize gtS l=txt at*
 have hcl:=h.lt ploc_is
 refine ACallsP.of_keep zdo (by simp) ?_
 repeat' (first|apply zs_|apply zb_|apply zc_|apply zt_ rfl|apply zf_ rfl|(apply zd_ rfl<;>intro ht<;>try omega)|((first|apply zr_|apply zk_|apply ze_|apply zq_|(apply callW.mk_pu;(first|exact(fun _=>hG _)))|(apply callW.za;(first|exact(hG _)))|(apply zG<;>intro ht));all_goals try simp (disch:=first|omega|(simp only [lens,z6,z7,zg,z8,zh,zi,lQt,lQd,List.length_replicate,lQm];first|done|omega)) only [go_sem,r1]))
 refine zW.loop (fun m J O'=>∃(i:Nat) (own':List Nat),m+i=l.length/\ CirS PoIs O' c key (PS.set t (z1d key (PS.getD t []) (l.take i))) M own'/\ Fr O O' own own'/\ O'[O.length]? =some (some [[.int .i64 (f:Int),.int .i64 (t:Int),.str txt]])/\ O.length ∉ own'/\ J 0=.ptr c 0 0/\ J 3=.ptr O.length 0 0/\ J 20=X/\ J 21=.int .i64 l.length/\ J 22=.int .i64 i) l.length ?_ ?_
 ·refine⟨0,own,by omega,?_,Fr.ext ⟨_,rfl⟩,by rw [z16 (Nat.le_refl _),Nat.sub_self];rfl,fun e=>by have:=hcl _ e;omega,by simp (disch:=first|omega|(simp only [lens,z6,z7,zg,z8,zh,zi,lQt,lQd,List.length_replicate,lQm];first|done|omega)) only [go_sem],by simp (disch:=first|omega|(simp only [lens,z6,z7,zg,z8,zh,zi,lQt,lQd,List.length_replicate,lQm];first|done|omega)) only [go_sem],by simp (disch:=first|omega|(simp only [lens,z6,z7,zg,z8,zh,zi,lQt,lQd,List.length_replicate,lQm];first|done|omega)) only [go_sem],by simp (disch:=first|omega|(simp only [lens,z6,z7,zg,z8,zh,zi,lQt,lQd,List.length_replicate,lQm];first|done|omega)) only [go_sem,r1],by simp (disch:=first|omega|(simp only [lens,z6,z7,zg,z8,zh,zi,lQt,lQd,List.length_replicate,lQm];first|done|omega)) only [go_sem];try rfl⟩
  rw [show PS.set t (z1d key (PS.getD t []) (l.take 0))=PS by
   rw [show z1d key (PS.getD t []) (l.take 0)=PS.getD t []from rfl]
   apply List.ext_getElem?
   intro j
   by_cases e:t=j
   ·subst e;simp [List.getD,ht]
   ·rw [List.getElem?_set_ne e]]
  exact h.ext ploc_is ⟨_,rfl⟩
 ·rintro m J O' ⟨i,own',hm,hS,hF,hB,hnB,q0,q3,q20,q21,q22⟩
  by_cases hi:i<l.length
  ·obtain⟨ex,rfl⟩:=hsv.vsl (by rw [z8];omega)
   have hgi:=z8o hi
   have hst:=zfn (key:=key) (P:=PS.getD t []) hi
   have hvu:=kv l[i] (List.getElem_mem hi)
   have hdl:=z8 l
   generalize l[i]=u at*
   have hup:=zku hvu
   have hul:=zg u
   have ua:(hdrC u).take 36=hdrC u:=z7i u
   have hi':(i:Int)<l.length:=by omega
   obtain⟨Q,lk,sid,pp,ow,rfl,hC⟩:=hS
   have hlen:(PS.set t (z1d key (PS.getD t []) (l.take i))).length=PS.length:=List.length_set ..
   have htt:t<(PS.set t (z1d key (PS.getD t []) (l.take i))).length:=by omega
   have hpoolI:=hC.pool t htt
   rw [zck ht]at hpoolI
   have hpok:=z86 (hok t ht) (l.take i)
   have ho:=hC.obj
   have hrw:=hC.row
   rw [hlen]at ho
   have hppl:pp.length=PS.length:=by rw [hC.len,hlen]
   have hpp:=z69 (pp:=pp) (i:=t) (by omega)
   have hpl:(pp.map fun p=>[AV.ptr p 0 0]).length=PS.length:=by rw [List.length_map,hppl]
   have ht':(t:Int)<PS.length:=by omega
   have dB:=slen hB
   have dc:=slen ho
   have dq:=slen hrw
   have E:Ext O' (O'++ [some [hdrC u]]):=⟨_,rfl⟩
   repeat' (first|apply zs_|apply zb_|apply zc_|apply zt_ rfl|apply zf_ rfl|(apply zd_ rfl<;>intro ht<;>try omega)|((first|apply zr_|apply zk_|apply ze_|apply zq_|(apply zG<;>intro ht));all_goals try simp (disch:=first|omega|(simp only [lens,z6,z7,zg,z8,zh,zi,lQt,lQd,List.length_replicate,lQm];first|done|omega)) only [go_sem,q0,q3,q20,q21,q22,hgi,hdl,hul,ua,hi',ho,hrw,hpp,hpl,ht',hB]))
   have hP:=ploc_is.keep hpoolI (O':=O'++ [some [hdrC u]]) fun j hj=>gapp (ploc_is.lt hpoolI j hj)
   have hAdd:=zdf _ (pp.getD t 0) key _ _ u _ hP hpok.sort hpok.len (z2c _ _) (by omega) (fun e=>zc5 e)
   rw [show sgC u.n u.r u.i u.s (zw 32 (hr u.p))=hdrC u from rfl]at hAdd
   refine callW.mkP (caps:=[]) hAdd (PoAddP.is hP) ?_
   rintro v O2 ⟨rfl,o,f1,P1⟩
   have f2:Fr O' O2 (ow (t+2)) o:=(Fr.ext E).trans f1
   obtain⟨h1,h2⟩:=hC.pool' ploc_is htt f2 P1
   rw [List.set_set,<-hst]at h1
   have hnB2:=h2.nin dB hnB
   have hB2:=h2.get hB hnB
   have hF2:=hF.trans h2
   have hS2:CirS PoIs O2 c key (PS.set t (z1d key (PS.getD t []) (l.take (i+1)))) M (z2m ((PS.set t (z1d key (PS.getD t []) (l.take i))).length+2) (updO ow (t+2) o)):=⟨Q,lk,sid,pp,_,by rw [List.length_set,List.length_set],h1⟩
   generalize z2m ((PS.set t (z1d key (PS.getD t []) (l.take i))).length+2) (updO ow (t+2) o)=own2 at*
   simp (disch:=first|omega|(simp only [lens,z6,z7,zg,z8,zh,zi,lQt,lQd,List.length_replicate,lQm];first|done|omega)) only [go_sem,q0,q3,q20,q21,q22]
   repeat' (first|apply zs_|apply zb_|apply zc_|apply zt_ rfl|apply zf_ rfl|(apply zd_ rfl<;>intro ht<;>try omega)|((first|apply zr_|apply zk_|apply ze_|apply zq_|(apply zG<;>intro ht));all_goals try simp (disch:=first|omega|(simp only [lens,z6,z7,zg,z8,zh,zi,lQt,lQd,List.length_replicate,lQm];first|done|omega)) only [go_sem,q0,q3,q20,q21,q22]))
   exact⟨m-1,by omega,i+1,own2,by omega,hS2,hF2,hB2,hnB2,by simp⟩
  ·rw [List.take_of_length_le (by omega)]at hS
   have hi':¬(i:Int)<l.length:=by omega
   repeat' (first|apply zs_|apply zb_|apply zc_|apply zt_ rfl|apply zf_ rfl|(apply zd_ rfl<;>intro ht<;>try omega)|((first|apply zr_|apply zk_|apply ze_|apply zq_|(apply zG<;>intro ht));all_goals try simp (disch:=first|omega|(simp only [lens,z6,z7,zg,z8,zh,zi,lQt,lQd,List.length_replicate,lQm];first|done|omega)) only [go_sem,q0,q3,q20,q21,q22,hi']))
   exact⟨rfl,own',hS,hF⟩
theorem zns(h:CirS PoIs O c key PS M own)(hok:POks key PS)(f t:Nat)(l:List NH)(ht:t<PS.length)(hk:(MT.kn l).Ok):
  ACallsP TC 68 [.ptr c 0 0,.agg [.int .i64 f,.int .i64 t,.str (knS l)]] O (CirP PoIs O c key own (.tup []) PS (zbc PS M ⟨f,t,.kn l⟩)):=by
 have hfin:=h
 obtain⟨Q,lk,sid,pp,ow,rfl,hC⟩:=h
 obtain⟨k1,k2⟩:=hk
 have hG:=fun O=>zp0 O (numS l.length++z1x l) (by have:=z1y l.length;have:=z6t l;rw [List.length_append];omega)
 rw [show 68::(numS l.length++z1x l)=knS l from rfl]at hG
 have hGK:=fun O=>zoz O l k1 k2
 have hcl:=hC.lt ploc_is
 have ho:=hC.obj
 have hrw:=hC.row
 have dc:=slen ho
 have dq:=slen hrw
 have hpo:=hok t ht
 have hpol:=hpo.len
 have hpp:=z69 (pp:=pp) (i:=t) (by rw [hC.len];exact ht)
 have hpl:(pp.map fun p=>[AV.ptr p 0 0]).length=PS.length:=by rw [List.length_map,hC.len]
 have ht':(t:Int)<PS.length:=by omega
 have E:Ext O (O++ [some [[.int .i64 (f:Int),.int .i64 (t:Int),.str (knS l)]]]):=⟨_,rfl⟩
 have hB:(O++ [some [[.int .i64 (f:Int),.int .i64 (t:Int),.str (knS l)]]])[O.length]? =some (some [[.int .i64 (f:Int),.int .i64 (t:Int),.str (knS l)]]):=by rw [z16 (Nat.le_refl _),Nat.sub_self];rfl
 have hP:=ploc_is.keep (hC.pool t ht) (O':=O++ [some [[.int .i64 (f:Int),.int .i64 (t:Int),.str (knS l)]]]) fun j hj=>gapp (ploc_is.lt (hC.pool t ht) j hj)
 have hH:=zj2 _ (pp.getD t 0) key _ _ hP (by omega) hpo.path
 have hM:=fun O=>zf4 O (PS.getD t []) l (zw 36 (hdrs (PS.getD t []))) (zw 33 (knP l)) (z2c _ _) (z2c _ _) (by omega) (by omega) hpo.path
 have hPt:=fun O=>zp2 O (z1b (PS.getD t []) l) _ (z2c _ _) (zd1 _ _) fun q hq=>(zd2 hq).2.1
 unfold zbc
 dsimp only
 have hrm:(repM PS ⟨f,t,.kn l⟩ l).ml=⟨(t:Int),(f:Int),gtS (z1b (PS.getD t []) l)⟩:=rfl
 by_cases h0:z1b (PS.getD t []) l=[]
 ·rw [if_neg fun h=>h.1 h0]
  rw [h0,zj7]at hPt
  rw [h0]at hM
  refine ACallsP.of_keep zdo (by simp) ?_
  repeat' (first|apply zs_|apply zb_|apply zc_|apply zt_ rfl|apply zf_ rfl|(apply zd_ rfl<;>intro ht<;>try omega)|((first|apply zr_|apply zk_|apply ze_|apply zq_|(apply callW.mk_pu;(first|exact(fun _=>hG _)|exact(fun _=>hGK _)|exact(fun _=>hH)|exact(fun _=>hM _)|exact(fun _=>hPt _)))|(apply callW.za;(first|exact(hG _)|exact(hGK _)|exact(hH)|exact(hM _)|exact(hPt _)))|(apply zG<;>intro ht));all_goals try simp (disch:=first|omega|(simp only [lens,z6,z7,zg,z8,zh,zi,lQt,lQd,List.length_replicate,lQm];first|done|omega)) only [go_sem,ho,hrw,hpp,hpl,ht',hB]))
  exact⟨rfl,_,hfin.ext ploc_is E,Fr.ext E⟩
 ·rw [zj8 h0 fun q hq=>(zd2 hq).2.1]at hPt
  have hlk:=hC.lk.keep (O':=O++ [some [[.int .i64 (f:Int),.int .i64 (t:Int),.str (knS l)]]]) fun x hx=>gapp (hC.lk.lt2 x hx)
  have hS:=zib _ lk PS.length sid (M.map MM.ml) (repM PS ⟨f,t,.kn l⟩ l).ml hlk
  have hE:=zia (m:=(repM PS ⟨f,t,.kn l⟩ l).ml) hlk
  rw [List.length_map]at hS hE
  have hargs:mailC (repM PS ⟨f,t,.kn l⟩ l).ml=[.int .i64 (t:Int),.int .i64 (f:Int),.str (gtS (z1b (PS.getD t []) l))]:=by rw [hrm];rfl
  rw [hargs]at hS
  have hmm:(if z1z PS.length M.length (repM PS ⟨f,t,.kn l⟩ l).ml=0 then M.map MM.ml++ [(repM PS ⟨f,t,.kn l⟩ l).ml]else M.map MM.ml)=(if z1b (PS.getD t []) l ≠ []/\ z1z PS.length M.length (repM PS ⟨f,t,.kn l⟩ l).ml=0 then M++ [repM PS ⟨f,t,.kn l⟩ l]else M).map MM.ml:=by
   by_cases e:z1z PS.length M.length (repM PS ⟨f,t,.kn l⟩ l).ml=0
   ·rw [if_pos e,if_pos ⟨h0,e⟩,List.map_append];rfl
   ·rw [if_neg e,if_neg fun h=>e h.2]
  generalize z1z PS.length M.length (repM PS ⟨f,t,.kn l⟩ l).ml=e at*
  generalize repM PS ⟨f,t,.kn l⟩ l=m at*
  generalize gtS (z1b (PS.getD t []) l)=txt at*
  generalize knS l=txt2 at*
  refine ACallsP.of_keep zdo (by simp) ?_
  repeat' (first|apply zs_|apply zb_|apply zc_|apply zt_ rfl|apply zf_ rfl|(apply zd_ rfl<;>intro ht<;>try omega)|((first|apply zr_|apply zk_|apply ze_|apply zq_|(apply callW.mk_pu;(first|exact(fun _=>hG _)|exact(fun _=>hGK _)|exact(fun _=>hH)|exact(fun _=>hM _)|exact(fun _=>hPt _)))|(apply callW.za;(first|exact(hG _)|exact(hGK _)|exact(hH)|exact(hM _)|exact(hPt _)))|(apply zG<;>intro ht));all_goals try simp (disch:=first|omega|(simp only [lens,z6,z7,zg,z8,zh,zi,lQt,lQd,List.length_replicate,lQm];first|done|omega)) only [go_sem,ho,hrw,hpp,hpl,ht',hB]))
  refine callW.mkP (caps:=[]) hS hE ?_
  rintro v O' ⟨rfl,sid',k1,k2⟩
  rw [hmm]at k1
  obtain⟨h1,h2⟩:=(hC.keep ploc_is (O':=O++ [some [[.int .i64 (f:Int),.int .i64 (t:Int),.str txt2]]]) fun i hi x hx=>gapp (hcl i hi x hx)).links' ploc_is k2 k1
  simp (disch:=first|omega|(simp only [lens,z6,z7,zg,z8,zh,zi,lQt,lQd,List.length_replicate,lQm];first|done|omega)) only [go_sem]
  repeat' (first|apply zs_|apply zb_|apply zc_|apply zt_ rfl|apply zf_ rfl|(apply zd_ rfl<;>intro ht<;>try omega)|((first|apply zr_|apply zk_|apply ze_|apply zq_|(apply zG<;>intro ht));all_goals try simp (disch:=first|omega|(simp only [lens,z6,z7,zg,z8,zh,zi,lQt,lQd,List.length_replicate,lQm];first|done|omega)) only [go_sem]))
  exact⟨rfl,_,⟨Q,lk,sid',pp,_,rfl,h1⟩,(Fr.ext E).trans h2⟩
theorem znt(h:CirS PoIs O c key PS M own)(hok:POks key PS)(m:MM)(hm:m.Ok PS.length):
  ACallsP TC 68 [.ptr c 0 0,.agg (mailC m.ml)] O (CirP PoIs O c key own (.tup []) (zbd key PS m) (zbc PS M m)):=by
 obtain⟨f,t,k⟩:=m
 cases k with
 |gt l=>exact znr h hok f t l hm.t hm.k
 |kn l=>exact zns h hok f t l hm.t hm.k
end
end
section
def mm0:MM:=⟨0,0,.kn []⟩
def MOks(n:Nat)(M:List MM):Prop:=∀m ∈ M,m.Ok n
def zae(key:Hash)(PS:List (List Hdr))(M:List MM)(i:Int):List (List Hdr):=if atS PS.length M.length i=0 then zbd key PS (M.getD i.toNat mm0)else PS
def zad(PS:List (List Hdr))(M:List MM)(i:Int):List MM:=if atS PS.length M.length i=0 then zbc PS (M.eraseIdx i.toNat) (M.getD i.toNat mm0)else M
theorem zp3{M:List MM}{i:Nat}(h:i<M.length):M.getD i mm0 ∈ M:=by
 rw [show M.getD i mm0=M[i]by simp [List.getD,h]];exact List.getElem_mem h
attribute [local irreducible] ACallsTo ACallsP
section
variable {O:Store} {c:Nat} {key:Hash} {PS:List (List Hdr)} {M:List MM} {own:List Nat}
theorem zga(h:CirS PoIs O c key PS M own)(hok:POks key PS)(hM:MOks PS.length M)(hn:0<PS.length)(hl:M.length<1000000)(i:Int):
  ACallsP TC 23 [.ptr c 0 0,.int .i64 i] O (CirP PoIs O c key own (.int .i64 (atS PS.length M.length i)) (zae key PS M i) (zad PS M i)):=by
 have hfin:=h
 obtain⟨Q,lk,sid,pp,ow,rfl,hC⟩:=h
 have hN:=zac O c Q lk _ hC.obj hn
 have ho:=hC.obj
 have hD:=zqv O lk PS.length i sid (M.map MM.ml) hC.lk (by simpa using hl)
 have hE:=zqt (i:=i) hC.lk
 unfold zae zad
 refine ACallsP.of_keep q2kok (by simp) ?_
 repeat' (first|apply zs_|apply zb_|apply zc_|apply zt_ rfl|apply zf_ rfl|(apply zd_ rfl<;>intro ht<;>try omega)|((first|apply zr_|apply zk_|apply ze_|apply zq_|(apply callW.mk_pu;(first|exact(fun _=>hN)))|(apply callW.za;(first|exact(hN)))|(apply zG<;>intro ht));all_goals try simp (disch:=first|omega|(simp only [lens,z6,z7,zg,z8,zh,zi,lQt,lQd,List.length_replicate,lQm];first|done|omega)) only [go_sem,ho]))
 refine callW.mkP (caps:=[]) hD hE ?_
 rintro v O' ⟨rfl,k1,k2⟩
 rw [<-znv]at k1
 obtain⟨h1,h2⟩:=hC.links' ploc_is k2 k1
 have S1:CirS PoIs O' c key PS (z8g PS.length M i) (z2m (PS.length+2) (updO ow 1 (lk::sid.toList))):=⟨Q,lk,sid,pp,_,rfl,h1⟩
 generalize z2m (PS.length+2) (updO ow 1 (lk::sid.toList))=own1 at*
 unfold delV delM
 rw [List.length_map]
 by_cases ha:atS PS.length M.length i=0
 ·obtain⟨_,h3,h4⟩:=zfr ha
  rw [if_pos ha,if_pos ha,if_pos ha,ha]
  unfold z8g at S1
  rw [if_pos ha]at S1
  rw [zp4 M _ (by omega)]
  rw [show M.getD i.toNat ⟨0,0,.kn []⟩=M.getD i.toNat mm0 from rfl]
  have hm:=hM _ (zp3 (M:=M) (i:=i.toNat) (by omega))
  generalize M.getD i.toNat mm0=m at*
  have hml:(mailC m.ml).length=3:=rfl
  have hmt:(mailC m.ml).take 3=mailC m.ml:=rfl
  have E:Ext O' (O'++ [some [mailC m.ml]]):=⟨_,rfl⟩
  have S2:=S1.ext ploc_is E
  generalize hmc:mailC m.ml=mc at*
  simp (disch:=first|omega|(simp only [lens,z6,z7,zg,z8,zh,zi,lQt,lQd,List.length_replicate,lQm];first|done|omega)) only [go_sem,hml,hmt]
  repeat' (first|apply zs_|apply zb_|apply zc_|apply zt_ rfl|apply zf_ rfl|(apply zd_ rfl<;>intro ht<;>try omega)|((first|apply zr_|apply zk_|apply ze_|apply zq_|(apply zG<;>intro ht));all_goals try simp (disch:=first|omega|(simp only [lens,z6,z7,zg,z8,zh,zi,lQt,lQd,List.length_replicate,lQm];first|done|omega)) only [go_sem,hml,hmt]))
  have hT:=znt S2 hok m hm
  rw [hmc]at hT
  refine callW.mkP (caps:=[]) hT (CirP.is ploc_is z5n S2 _ (zxa ..)) ?_
  rintro v O3 ⟨rfl,own3,S3,f3⟩
  simp (disch:=first|omega|(simp only [lens,z6,z7,zg,z8,zh,zi,lQt,lQd,List.length_replicate,lQm];first|done|omega)) only [go_sem]
  repeat' (first|apply zs_|apply zb_|apply zc_|apply zt_ rfl|apply zf_ rfl|(apply zd_ rfl<;>intro ht<;>try omega)|((first|apply zr_|apply zk_|apply ze_|apply zq_|(apply zG<;>intro ht));all_goals try simp (disch:=first|omega|(simp only [lens,z6,z7,zg,z8,zh,zi,lQt,lQd,List.length_replicate,lQm];first|done|omega)) only [go_sem]))
  exact⟨rfl,own3,S3,(h2.trans (Fr.ext E)).trans f3⟩
 ·rw [if_neg ha,if_neg ha,if_neg ha]
  unfold z8g at S1
  rw [if_neg ha]at S1
  have ha':(atS PS.length M.length i==0)=false:=beq_eq_false_iff_ne.2 ha
  generalize atS PS.length M.length i=e at*
  simp (disch:=first|omega|(simp only [lens,z6,z7,zg,z8,zh,zi,lQt,lQd,List.length_replicate,lQm];first|done|omega)) only [go_sem,mailC]
  repeat' (first|apply zs_|apply zb_|apply zc_|apply zt_ rfl|apply zf_ rfl|(apply zd_ rfl<;>intro ht<;>try omega)|((first|apply zr_|apply zk_|apply ze_|apply zq_|(apply zG<;>intro ht));all_goals try simp (disch:=first|omega|(simp only [lens,z6,z7,zg,z8,zh,zi,lQt,lQd,List.length_replicate,lQm];first|done|omega)) only [go_sem,ha']))
  exact⟨rfl,own1,S1.ext ploc_is ⟨_,rfl⟩,h2.trans (Fr.ext ⟨_,rfl⟩)⟩
end
end
section
def z1u(key:Hash):Nat->List Hdr->List Hdr->Nat->Nat × List Hdr
 | 0,P,_,n=>(n,P)
 |f+1,P,Q,n=>if z1b Q (hns P)=[]then(n,P)else if (z1d key P (z1b Q (hns P))).length=P.length then(n+1,z1d key P (z1b Q (hns P)))else z1u key f (z1d key P (z1b Q (hns P))) Q (n+2)
theorem zfl(key:Hash)(P:List Hdr)(q:Hdr):(addL key P q).length=if addC key P q=2 \/addC key P q=3 then P.length+1 else P.length:=by
 unfold addL
 split
 ·exact z8q P q
 ·rfl
theorem zfm(key:Hash)(l:List Hdr):∀P:List Hdr,P.length<=(z1d key P l).length:=by
 induction l with
 |nil=>intro P;exact Nat.le_refl _
 |cons q l ih=>
  intro P
  have:=ih (addL key P q)
  have h:=zfl key P q
  show P.length<=(z1d key (addL key P q) l).length
  split at h<;>omega
attribute [local irreducible] ACallsTo ACallsP
section
variable {O:Store} {c:Nat} {key:Hash} {PS:List (List Hdr)} {M:List MM} {own:List Nat}
theorem zgq(h:CirS PoIs O c key PS M own)(hok:POks key PS)(i k:Nat)(hi:i<PS.length)(hk:k<PS.length)(hik:i ≠ k):
  ACallsP TC 64 [.ptr c 0 0,.int .i64 i,.int .i64 k] O (CirP PoIs O c key own (.int .i64 ((z1u key 17 (PS.getD i []) (PS.getD k []) 1).1:Nat)) (PS.set i (z1u key 17 (PS.getD i []) (PS.getD k []) 1).2) M):=by
 have hQ:=hok k hk
 have hP0:=hok i hi
 have hset:PS.set i (PS.getD i [])=PS:=by
  apply List.ext_getElem?
  intro j
  by_cases e:i=j
  ·subst e;simp [List.getD,hi]
  ·rw [List.getElem?_set_ne e]
 have hgk:∀P:List Hdr,(PS.set i P).getD k []=PS.getD k []:=fun P=>by simp [List.getD,List.getElem?_set_ne hik]
 have hgi:∀P:List Hdr,(PS.set i P).getD i []=P:=fun P=>zck hi P
 generalize hR:z1u key 17 (PS.getD i []) (PS.getD k []) 1=R
 refine ACallsP.of_keep q2sok (by simp) ?_
 repeat' (first|apply zs_|apply zb_|apply zc_|apply zt_ rfl|apply zf_ rfl|(apply zd_ rfl<;>intro ht<;>try omega)|((first|apply zr_|apply zk_|apply ze_|apply zq_|(apply zG<;>intro ht));all_goals try simp (disch:=first|omega|(simp only [lens,z6,z7,zg,z8,zh,zi,lQt,lQd,List.length_replicate,lQm];first|done|omega)) only [go_sem]))
 refine zW.loop (fun m J O'=>∃(P:List Hdr) (n f:Nat) (own':List Nat),m+P.length=16/\ m<f/\ n+2*m<=33/\ POk key P/\ CirS PoIs O' c key (PS.set i P) M own'/\ Fr O O' own own'/\ z1u key f P (PS.getD k []) n=R/\ J 0=.ptr c 0 0/\ J 1=.int .i64 i/\ J 2=.int .i64 k/\ J 7=.int .i64 n) (16-(PS.getD i []).length) ?_ ?_
 ·exact⟨PS.getD i [],1,17,own,by have:=hP0.len;omega,by omega,by omega,hP0,by rw [hset];exact h,⟨fun _ _ _=>rfl,fun _ h=> .inl h,Nat.le_refl _⟩,hR,by simp (disch:=first|omega|(simp only [lens,z6,z7,zg,z8,zh,zi,lQt,lQd,List.length_replicate,lQm];first|done|omega)) only [go_sem],by simp (disch:=first|omega|(simp only [lens,z6,z7,zg,z8,zh,zi,lQt,lQd,List.length_replicate,lQm];first|done|omega)) only [go_sem],by simp (disch:=first|omega|(simp only [lens,z6,z7,zg,z8,zh,zi,lQt,lQd,List.length_replicate,lQm];first|done|omega)) only [go_sem],by simp (disch:=first|omega|(simp only [lens,z6,z7,zg,z8,zh,zi,lQt,lQd,List.length_replicate,lQm];first|done|omega)) only [go_sem];try rfl⟩
 ·rintro m J O' ⟨P,n,f,own',hm,hf,hn,hP,hS,hF,hG,q0,q1,q2,q7⟩
  obtain⟨f,rfl⟩:∃g,f=g+1:=⟨f-1,by omega⟩
  unfold z1u at hG
  have hS0:=hS
  obtain⟨Q,lk,sid,pp,ow,rfl,hC⟩:=hS
  have hlen:(PS.set i P).length=PS.length:=List.length_set ..
  have ho:=hC.obj
  have hrw:=hC.row
  rw [hlen]at ho
  have dc:=slen ho
  have dq:=slen hrw
  have hppl:pp.length=PS.length:=by rw [hC.len,hlen]
  have hppi:=z69 (pp:=pp) (i:=i) (by omega)
  have hppk:=z69 (pp:=pp) (i:=k) (by omega)
  have hpl:(pp.map fun p=>[AV.ptr p 0 0]).length=PS.length:=by rw [List.length_map,hppl]
  have hi':(i:Int)<PS.length:=by omega
  have hk':(k:Int)<PS.length:=by omega
  have hIk:=hC.pool k (by omega)
  have hIi:=hC.pool i (by omega)
  rw [hgk]at hIk
  rw [hgi]at hIi
  have hPl:=hP.len
  have hQl:=hQ.len
  have hHd:=zj2 O' (pp.getD k 0) key _ _ hIk (by omega) hQ.path
  have hKn:=zj3 O' (pp.getD i 0) key _ _ hIi (by omega)
  have hMs:=zf4 O' (PS.getD k []) (hns P) (zw 36 (hdrs (PS.getD k []))) (zw 33 (kn P)) (z2c _ _) (by rw [<-zhx];exact z2c _ _) (by omega) (by rw [zhi];omega) hQ.path
  have hXm:=zd1 (PS.getD k []) (hns P)
  have hXv:∀q ∈ z1b (PS.getD k []) (hns P),valH q=true:=fun q hq=>(zd2 hq).2.1
  generalize z1b (PS.getD k []) (hns P)=X at*
  have hsv:=z2c 36 (hdrs X)
  have r1:=hsv.len
  rw [z8]at r1
  unfold z1g at r1
  generalize zw 36 (hdrs X)=x at*
  repeat' (first|apply zs_|apply zb_|apply zc_|apply zt_ rfl|apply zf_ rfl|(apply zd_ rfl<;>intro ht<;>try omega)|((first|apply zr_|apply zk_|apply ze_|apply zq_|(apply callW.mk_pu;(first|exact(fun _=>hHd)|exact(fun _=>hKn)|exact(fun _=>hMs)))|(apply callW.za;(first|exact(hHd)|exact(hKn)|exact(hMs)))|(apply zG<;>intro ht));all_goals try simp (disch:=first|omega|(simp only [lens,z6,z7,zg,z8,zh,zi,lQt,lQd,List.length_replicate,lQm];first|done|omega)) only [go_sem,q0,q1,q2,q7,ho,hrw,hppi,hppk,hpl,hi',hk',r1]))
  refine zW.loop (fun m2 J O2=>∃(j:Nat) (own2:List Nat),m2+j=X.length/\ CirS PoIs O2 c key (PS.set i (z1d key P (X.take j))) M own2/\ Fr O O2 own own2/\ J 0=.ptr c 0 0/\ J 1=.int .i64 i/\ J 2=.int .i64 k/\ J 7=.int .i64 n/\ J 8=x/\ J 9=.bool (decide (P.length<(z1d key P (X.take j)).length))/\ J 32=x/\ J 33=.int .i64 X.length/\ J 34=.int .i64 j) X.length ?_ ?_
  ·exact⟨0,_,by omega,by rw [show z1d key P (X.take 0)=P from rfl];exact hS0,hF,by simp (disch:=first|omega|(simp only [lens,z6,z7,zg,z8,zh,zi,lQt,lQd,List.length_replicate,lQm];first|done|omega)) only [go_sem,q0],by simp (disch:=first|omega|(simp only [lens,z6,z7,zg,z8,zh,zi,lQt,lQd,List.length_replicate,lQm];first|done|omega)) only [go_sem,q1],by simp (disch:=first|omega|(simp only [lens,z6,z7,zg,z8,zh,zi,lQt,lQd,List.length_replicate,lQm];first|done|omega)) only [go_sem,q2],by simp (disch:=first|omega|(simp only [lens,z6,z7,zg,z8,zh,zi,lQt,lQd,List.length_replicate,lQm];first|done|omega)) only [go_sem,q7],by simp (disch:=first|omega|(simp only [lens,z6,z7,zg,z8,zh,zi,lQt,lQd,List.length_replicate,lQm];first|done|omega)) only [go_sem],by rw [show z1d key P (X.take 0)=P from rfl,decide_eq_false (by omega)];simp (disch:=first|omega|(simp only [lens,z6,z7,zg,z8,zh,zi,lQt,lQd,List.length_replicate,lQm];first|done|omega)) only [go_sem],by simp (disch:=first|omega|(simp only [lens,z6,z7,zg,z8,zh,zi,lQt,lQd,List.length_replicate,lQm];first|done|omega)) only [go_sem],by simp (disch:=first|omega|(simp only [lens,z6,z7,zg,z8,zh,zi,lQt,lQd,List.length_replicate,lQm];first|done|omega)) only [go_sem,r1],by simp (disch:=first|omega|(simp only [lens,z6,z7,zg,z8,zh,zi,lQt,lQd,List.length_replicate,lQm];first|done|omega)) only [go_sem];try rfl⟩
  ·clear q0 q1 q2 q7 hHd hKn hMs hIk hIi hC hrw ho hppi hppk hpl dc dq hppl hS0 hF
   clear ow sid pp lk Q
   rintro m2 J O2 ⟨j,own2,hm2,hS2,hF2,q0,q1,q2,q7,q8,q9,q32,q33,q34⟩
   by_cases hj:j<X.length
   ·obtain⟨ex,rfl⟩:=hsv.vsl (by rw [z8];omega)
    have hgj:=z8o hj
    have hst:=zfn (key:=key) (P:=P) hj
    have hvu:=hXv X[j] (List.getElem_mem hj)
    have hdl:=z8 X
    generalize X[j]=u at*
    have hup:=zku hvu
    have hul:=zg u
    have ua:(hdrC u).take 36=hdrC u:=z7i u
    have hj':(j:Int)<X.length:=by omega
    obtain⟨Q,lk,sid,pp,ow,rfl,hC⟩:=hS2
    have hpok:=z86 hP (X.take j)
    have hge:=zfm key (X.take j) P
    have hstl:=zfl key (z1d key P (X.take j)) u
    rw [<-hst]at hstl
    have hlen2:(PS.set i (z1d key P (X.take j))).length=PS.length:=List.length_set ..
    have hIi:=hC.pool i (by omega)
    rw [hgi]at hIi
    have ho:=hC.obj
    have hrw:=hC.row
    rw [hlen2]at ho
    have dc:=slen ho
    have dq:=slen hrw
    have hppl:pp.length=PS.length:=by rw [hC.len,hlen2]
    have hppi:=z69 (pp:=pp) (i:=i) (by omega)
    have hpl:(pp.map fun p=>[AV.ptr p 0 0]).length=PS.length:=by rw [List.length_map,hppl]
    have E:Ext O2 (O2++ [some [hdrC u]]):=⟨_,rfl⟩
    repeat' (first|apply zs_|apply zb_|apply zc_|apply zt_ rfl|apply zf_ rfl|(apply zd_ rfl<;>intro ht<;>try omega)|((first|apply zr_|apply zk_|apply ze_|apply zq_|(apply zG<;>intro ht));all_goals try simp (disch:=first|omega|(simp only [lens,z6,z7,zg,z8,zh,zi,lQt,lQd,List.length_replicate,lQm];first|done|omega)) only [go_sem,q0,q1,q2,q7,q8,q9,q32,q33,q34,hgj,hdl,hul,ua,hj',ho,hrw,hppi,hpl,hi']))
    have hPk:=ploc_is.keep hIi (O':=O2++ [some [hdrC u]]) fun j hj=>gapp (ploc_is.lt hIi j hj)
    have hAdd:=zdf _ (pp.getD i 0) key _ _ u _ hPk hpok.sort hpok.len (z2c _ _) (by omega) (fun e=>zc5 e)
    rw [show sgC u.n u.r u.i u.s (zw 32 (hr u.p))=hdrC u from rfl]at hAdd
    refine callW.mkP (caps:=[]) hAdd (PoAddP.is hPk) ?_
    rintro v O3 ⟨rfl,o,f1,P1⟩
    have f2:Fr O2 O3 (ow (i+2)) o:=(Fr.ext E).trans f1
    obtain⟨h1,h2⟩:=hC.pool' ploc_is (by omega) f2 P1
    rw [List.set_set,<-hst]at h1
    have hF3:=hF2.trans h2
    have hS3:CirS PoIs O3 c key (PS.set i (z1d key P (X.take (j+1)))) M (z2m ((PS.set i (z1d key P (X.take j))).length+2) (updO ow (i+2) o)):=⟨Q,lk,sid,pp,_,by rw [List.length_set,List.length_set],h1⟩
    generalize z2m ((PS.set i (z1d key P (X.take j))).length+2) (updO ow (i+2) o)=own3 at*
    generalize addC key (z1d key P (X.take j)) u=e at*
    have hflag:∀b:Bool,decide (P.length<(z1d key P (X.take j)).length)=b->decide (P.length<(z1d key P (X.take (j+1))).length)=(b ||decide (e=2 \/e=3)):=by
     intro b hb
     subst hb
     rw [hstl]
     by_cases e1:e=2 \/e=3
     ·rw [if_pos e1,decide_eq_true e1,Bool.or_true];exact decide_eq_true (by omega)
     ·rw [if_neg e1,decide_eq_false e1,Bool.or_false]
    generalize decide (P.length<(z1d key P (X.take j)).length)=b at*
    have hfl:=hflag b rfl
    cases b
    ·by_cases e2:e=2
     ·subst e2
      simp (disch:=first|omega|(simp only [lens,z6,z7,zg,z8,zh,zi,lQt,lQd,List.length_replicate,lQm];first|done|omega)) only [go_sem,q0,q1,q2,q7,q8,q9,q32,q33,q34]
      repeat' (first|apply zs_|apply zb_|apply zc_|apply zt_ rfl|apply zf_ rfl|(apply zd_ rfl<;>intro ht<;>try omega)|((first|apply zr_|apply zk_|apply ze_|apply zq_|(apply zG<;>intro ht));all_goals try simp (disch:=first|omega|(simp only [lens,z6,z7,zg,z8,zh,zi,lQt,lQd,List.length_replicate,lQm];first|done|omega)) only [go_sem,q0,q1,q2,q7,q8,q9,q32,q33,q34]))
      exact⟨m2-1,by omega,j+1,own3,by omega,hS3,hF3,by rw [hfl];simp⟩
     ·by_cases e3:e=3
      ·subst e3
       simp (disch:=first|omega|(simp only [lens,z6,z7,zg,z8,zh,zi,lQt,lQd,List.length_replicate,lQm];first|done|omega)) only [go_sem,q0,q1,q2,q7,q8,q9,q32,q33,q34]
       repeat' (first|apply zs_|apply zb_|apply zc_|apply zt_ rfl|apply zf_ rfl|(apply zd_ rfl<;>intro ht<;>try omega)|((first|apply zr_|apply zk_|apply ze_|apply zq_|(apply zG<;>intro ht));all_goals try simp (disch:=first|omega|(simp only [lens,z6,z7,zg,z8,zh,zi,lQt,lQd,List.length_replicate,lQm];first|done|omega)) only [go_sem,q0,q1,q2,q7,q8,q9,q32,q33,q34]))
       exact⟨m2-1,by omega,j+1,own3,by omega,hS3,hF3,by rw [hfl];simp⟩
      ·have e2':(e==2)=false:=beq_eq_false_iff_ne.2 e2
       have e3':(e==3)=false:=beq_eq_false_iff_ne.2 e3
       rw [decide_eq_false (show ¬(e=2 \/e=3)by omega),Bool.or_false]at hfl
       simp (disch:=first|omega|(simp only [lens,z6,z7,zg,z8,zh,zi,lQt,lQd,List.length_replicate,lQm];first|done|omega)) only [go_sem,q0,q1,q2,q7,q8,q9,q32,q33,q34]
       repeat' (first|apply zs_|apply zb_|apply zc_|apply zt_ rfl|apply zf_ rfl|(apply zd_ rfl<;>intro ht<;>try omega)|((first|apply zr_|apply zk_|apply ze_|apply zq_|(apply zG<;>intro ht));all_goals try simp (disch:=first|omega|(simp only [lens,z6,z7,zg,z8,zh,zi,lQt,lQd,List.length_replicate,lQm];first|done|omega)) only [go_sem,q0,q1,q2,q7,q8,q9,q32,q33,q34,e2',e3']))
       exact⟨m2-1,by omega,j+1,own3,by omega,hS3,hF3,by rw [hfl];simp⟩
    ·rw [Bool.true_or]at hfl
     simp (disch:=first|omega|(simp only [lens,z6,z7,zg,z8,zh,zi,lQt,lQd,List.length_replicate,lQm];first|done|omega)) only [go_sem,q0,q1,q2,q7,q8,q9,q32,q33,q34]
     repeat' (first|apply zs_|apply zb_|apply zc_|apply zt_ rfl|apply zf_ rfl|(apply zd_ rfl<;>intro ht<;>try omega)|((first|apply zr_|apply zk_|apply ze_|apply zq_|(apply zG<;>intro ht));all_goals try simp (disch:=first|omega|(simp only [lens,z6,z7,zg,z8,zh,zi,lQt,lQd,List.length_replicate,lQm];first|done|omega)) only [go_sem,q0,q1,q2,q7,q8,q9,q32,q33,q34]))
     exact⟨m2-1,by omega,j+1,own3,by omega,hS3,hF3,by rw [hfl];simp⟩
   ·rw [List.take_of_length_le (by omega)]at hS2 q9
    have hj':¬(j:Int)<X.length:=by omega
    have hge:=zfm key X P
    have hPX:=z86 hP X
    have hXl:=hPX.len
    by_cases h0:X=[]
    ·rw [if_pos h0]at hG
     subst h0
     subst hG
     have hz:([]:List Hdr).length=0:=rfl
     rw [hz]at r1
     repeat' (first|apply zs_|apply zb_|apply zc_|apply zt_ rfl|apply zf_ rfl|(apply zd_ rfl<;>intro ht<;>try omega)|((first|apply zr_|apply zk_|apply ze_|apply zq_|(apply zG<;>intro ht));all_goals try simp (disch:=first|omega|(simp only [lens,z6,z7,zg,z8,zh,zi,lQt,lQd,List.length_replicate,lQm];first|done|omega)) only [go_sem,q0,q1,q2,q7,q8,q9,q32,q33,q34,hj',r1]))
     exact⟨rfl,own2,hS2,hF2⟩
    ·rw [if_neg h0]at hG
     have hz:((X.length:Int)==0)=false:=beq_eq_false_iff_ne.2 (by have:=List.length_pos_iff.2 h0;omega)
     by_cases hmo:(z1d key P X).length=P.length
     ·rw [if_pos hmo]at hG
      rw [decide_eq_false (by omega)]at q9
      subst hG
      repeat' (first|apply zs_|apply zb_|apply zc_|apply zt_ rfl|apply zf_ rfl|(apply zd_ rfl<;>intro ht<;>try omega)|((first|apply zr_|apply zk_|apply ze_|apply zq_|(apply zG<;>intro ht));all_goals try simp (disch:=first|omega|(simp only [lens,z6,z7,zg,z8,zh,zi,lQt,lQd,List.length_replicate,lQm];first|done|omega)) only [go_sem,q0,q1,q2,q7,q8,q9,q32,q33,q34,hj',r1,hz]))
      exact⟨by simp,own2,hS2,hF2⟩
     ·rw [if_neg hmo]at hG
      rw [decide_eq_true (by omega)]at q9
      repeat' (first|apply zs_|apply zb_|apply zc_|apply zt_ rfl|apply zf_ rfl|(apply zd_ rfl<;>intro ht<;>try omega)|((first|apply zr_|apply zk_|apply ze_|apply zq_|(apply zG<;>intro ht));all_goals try simp (disch:=first|omega|(simp only [lens,z6,z7,zg,z8,zh,zi,lQt,lQd,List.length_replicate,lQm];first|done|omega)) only [go_sem,q0,q1,q2,q7,q8,q9,q32,q33,q34,hj',r1,hz]))
      exact⟨16-(z1d key P X).length,by omega,z1d key P X,n+2,f,own2,by omega,by omega,by omega,hPX,hS2,hF2,hG,by simp⟩
def metN(key:Hash)(PS:List (List Hdr))(i k:Nat):Nat × List (List Hdr):=
 let a:=z1u key 17 (PS.getD i []) (PS.getD k []) 1
 let b:=z1u key 17 (PS.getD k []) a.2 1
 (a.1+b.1,(PS.set i a.2).set k b.2)
theorem zj6(key:Hash)(Q:List Hdr):∀(f:Nat) {P:List Hdr} (n:Nat),POk key P->POk key (z1u key f P Q n).2
 | 0,P,n,h=>h
 |f+1,P,n,h=>by
  unfold z1u
  split
  ·exact h
  ·split
   ·exact z86 h _
   ·exact zj6 key Q f _ (z86 h _)
theorem zdi(key:Hash)(Q:List Hdr):∀(f:Nat) (P:List Hdr) (n:Nat),(z1u key f P Q n).1<=n+2*f
 | 0,P,n=>by simp [z1u]
 |f+1,P,n=>by
  unfold z1u
  split
  ·dsimp only;omega
  ·split
   ·dsimp only;omega
   ·have:=zdi key Q f (z1d key P (z1b Q (hns P))) (n+2);omega
def metI(key:Hash)(PS:List (List Hdr))(i k:Int):AV:=if twoN PS.length i k=true then .tup [.int .i64 (metN key PS i.toNat k.toNat).1,.int .i64 0]else .tup [.int .i64 0,.int .i64 2]
def metS(key:Hash)(PS:List (List Hdr))(i k:Int):List (List Hdr):=if twoN PS.length i k=true then(metN key PS i.toNat k.toNat).2 else PS
theorem zgd(h:CirS PoIs O c key PS M own)(hok:POks key PS)(hn:0<PS.length)(i k:Int):
  ACallsP TC 20 [.ptr c 0 0,.int .i64 i,.int .i64 k] O (CirP PoIs O c key own (metI key PS i k) (metS key PS i k) M):=by
 have hfin:=h
 obtain⟨Q,lk,sid,pp,ow,hown,hC⟩:=h
 have hN:=zac O c Q lk _ hC.obj hn
 have hbi:=z6l O c Q lk PS.length i hC.obj
 have hbk:=z6l O c Q lk PS.length k hC.obj
 clear hC hown
 refine ACallsP.of_keep q2hok (by simp) ?_
 unfold metI metS
 by_cases ht:twoN PS.length i k=true
 ·rw [if_pos ht,if_pos ht]
  unfold twoN at ht
  simp only [Bool.and_eq_true,Bool.not_eq_true',decide_eq_false_iff_not]at ht
  obtain⟨⟨hi,hk⟩,hne⟩:=ht
  rw [hi]at hbi
  rw [hk]at hbk
  obtain⟨a,rfl,ha⟩:=z8r hi
  obtain⟨b,rfl,hb⟩:=z8r hk
  have hne':((a:Int)==b)=false:=beq_eq_false_iff_ne.2 hne
  have hab:a ≠ b:=fun e=>hne (by rw [e])
  repeat' (first|apply zs_|apply zb_|apply zc_|apply zt_ rfl|apply zf_ rfl|(apply zd_ rfl<;>intro ht<;>try omega)|((first|apply zr_|apply zk_|apply ze_|apply zq_|(apply callW.mk_pu;(first|exact(fun _=>hN)|exact(fun _=>hbi)|exact(fun _=>hbk)))|(apply callW.za;(first|exact(hN)|exact(hbi)|exact(hbk)))|(apply zG<;>intro ht));all_goals try simp (disch:=first|omega|(simp only [lens,z6,z7,zg,z8,zh,zi,lQt,lQd,List.length_replicate,lQm];first|done|omega)) only [go_sem,hne']))
  refine callW.mkP (caps:=[]) (zgq hfin hok a b ha hb hab) (CirP.is ploc_is z5n hfin _ (by simp)) ?_
  rintro v O2 ⟨rfl,own2,S2,f2⟩
  have hn1:=zdi key (PS.getD b []) 17 (PS.getD a []) 1
  have hok2:POks key (PS.set a (z1u key 17 (PS.getD a []) (PS.getD b []) 1).2):=hok.set a (zj6 key _ 17 1 (hok a ha))
  have hga:(PS.set a (z1u key 17 (PS.getD a []) (PS.getD b []) 1).2).getD a []=(z1u key 17 (PS.getD a []) (PS.getD b []) 1).2:=zck ha _
  have hgb:(PS.set a (z1u key 17 (PS.getD a []) (PS.getD b []) 1).2).getD b []=PS.getD b []:=by simp [List.getD,List.getElem?_set_ne hab]
  have hA:=zgq S2 hok2 b a (by simpa using hb) (by simpa using ha) (fun e=>hab e.symm)
  rw [hga,hgb]at hA
  unfold metN
  dsimp only
  have hn2:=zdi key (z1u key 17 (PS.getD a []) (PS.getD b []) 1).2 17 (PS.getD b []) 1
  generalize (z1u key 17 (PS.getD b []) (z1u key 17 (PS.getD a []) (PS.getD b []) 1).2 1)=r2 at*
  generalize (z1u key 17 (PS.getD a []) (PS.getD b []) 1)=r1 at*
  simp (disch:=first|omega|(simp only [lens,z6,z7,zg,z8,zh,zi,lQt,lQd,List.length_replicate,lQm];first|done|omega)) only [go_sem]
  repeat' (first|apply zs_|apply zb_|apply zc_|apply zt_ rfl|apply zf_ rfl|(apply zd_ rfl<;>intro ht<;>try omega)|((first|apply zr_|apply zk_|apply ze_|apply zq_|(apply zG<;>intro ht));all_goals try simp (disch:=first|omega|(simp only [lens,z6,z7,zg,z8,zh,zi,lQt,lQd,List.length_replicate,lQm];first|done|omega)) only [go_sem]))
  refine callW.mkP (caps:=[]) hA (CirP.is ploc_is z5n S2 _ (by simp)) ?_
  rintro v O3 ⟨rfl,own3,S3,f3⟩
  simp (disch:=first|omega|(simp only [lens,z6,z7,zg,z8,zh,zi,lQt,lQd,List.length_replicate,lQm];first|done|omega)) only [go_sem]
  repeat' (first|apply zs_|apply zb_|apply zc_|apply zt_ rfl|apply zf_ rfl|(apply zd_ rfl<;>intro ht<;>try omega)|((first|apply zr_|apply zk_|apply ze_|apply zq_|(apply zG<;>intro ht));all_goals try simp (disch:=first|omega|(simp only [lens,z6,z7,zg,z8,zh,zi,lQt,lQd,List.length_replicate,lQm];first|done|omega)) only [go_sem]))
  exact⟨by simp,own3,S3,f2.trans f3⟩
 ·rw [if_neg ht,if_neg ht]
  have hres:CirP PoIs O c key own (.tup [.int .i64 0,.int .i64 2]) PS M (.tup [.int .i64 0,.int .i64 2]) O:=⟨rfl,_,hfin,⟨fun _ _ _=>rfl,fun _ h=> .inl h,Nat.le_refl _⟩⟩
  cases hi:isN PS.length i
  ·rw [hi]at hbi
   repeat' (first|apply zs_|apply zb_|apply zc_|apply zt_ rfl|apply zf_ rfl|(apply zd_ rfl<;>intro ht<;>try omega)|((first|apply zr_|apply zk_|apply ze_|apply zq_|(apply callW.mk_pu;(first|exact(fun _=>hN)|exact(fun _=>hbi)))|(apply callW.za;(first|exact(hN)|exact(hbi)))|(apply zG<;>intro ht));all_goals try simp (disch:=first|omega|(simp only [lens,z6,z7,zg,z8,zh,zi,lQt,lQd,List.length_replicate,lQm];first|done|omega)) only [go_sem]))
   exact hres
  ·rw [hi]at hbi
   cases hk:isN PS.length k
   ·rw [hk]at hbk
    repeat' (first|apply zs_|apply zb_|apply zc_|apply zt_ rfl|apply zf_ rfl|(apply zd_ rfl<;>intro ht<;>try omega)|((first|apply zr_|apply zk_|apply ze_|apply zq_|(apply callW.mk_pu;(first|exact(fun _=>hN)|exact(fun _=>hbi)|exact(fun _=>hbk)))|(apply callW.za;(first|exact(hN)|exact(hbi)|exact(hbk)))|(apply zG<;>intro ht));all_goals try simp (disch:=first|omega|(simp only [lens,z6,z7,zg,z8,zh,zi,lQt,lQd,List.length_replicate,lQm];first|done|omega)) only [go_sem]))
    exact hres
   ·rw [hk]at hbk
    have hik:i=k:=by
     unfold twoN at ht
     rw [hi,hk]at ht
     simpa using ht
    subst hik
    have hee:((i:Int)==i)=true:=by simp
    repeat' (first|apply zs_|apply zb_|apply zc_|apply zt_ rfl|apply zf_ rfl|(apply zd_ rfl<;>intro ht<;>try omega)|((first|apply zr_|apply zk_|apply ze_|apply zq_|(apply callW.mk_pu;(first|exact(fun _=>hN)|exact(fun _=>hbi)))|(apply callW.za;(first|exact(hN)|exact(hbi)))|(apply zG<;>intro ht));all_goals try simp (disch:=first|omega|(simp only [lens,z6,z7,zg,z8,zh,zi,lQt,lQd,List.length_replicate,lQm];first|done|omega)) only [go_sem,hee]))
    exact hres
end
end
section
theorem ztt{O:Store}{sid:Option Nat}{w x:AV}{rows:List (List AV)}(h:RowAt 1 O sid w rows)(hl:rows.length<1000000):
  ∃O2,aApp O 1 w [[x]]=some (.sl O.length 0 (rows.length+1) none 1,O2)/\ O2[O.length]? =some (some (rows++ [[x]]))/\ O2.length=O.length+1/\ ∀j,j<O.length->sid ≠ some j->O2[j]? =O[j]?:=by
 rcases h with⟨rfl,rfl,rfl⟩| ⟨q,rfl,hne,rfl,hq⟩
 ·refine⟨O++ [some [[x]]],by simp [aApp],by simp,by simp,fun j hj _=>gapp hj⟩
 ·refine⟨O.set q none++ [some (rows++ [[x]])],?_,by rw [z16 (by simp)];simp,by simp,fun j hj hn=> ?_⟩
  ·unfold aApp
   rw [if_neg (by simp)]
   simp only [hq]
   rw [if_pos ⟨trivial,by omega,by simp;omega⟩,if_neg (by simp)]
   simp
  ·rw [gapp (by simpa using hj)]
   exact z1a fun e=>hn (by rw [e])
theorem zod{O O':Store}(hl:O.length<=O'.length)(h:∀j,j<O.length->O'[j]? =O[j]?):Ext O O':=by
 refine⟨O'.drop O.length,List.ext_getElem? fun j=> ?_⟩
 by_cases hj:j<O.length
 ·rw [gapp hj,h j hj]
 ·rw [z16 (by omega),List.getElem?_drop];congr 1;omega
structure NewS(τ O:Store)(key:Hash)(n i:Nat)(w:AV)(pp:List Nat)(sid:Option Nat):Prop where
 ext:Ext τ O
 len:pp.length=i
 box:O[τ.length]? =some (some [hc key])
 lk:O[τ.length+1]? =some (some [[.int .i64 n,.nilsl]])
 obj:O[τ.length+2]? =some (some [[w,.ptr (τ.length+1) 0 0]])
 row:RowAt 1 O sid w (pp.map fun p=>[.ptr p 0 0])
 pool:∀p ∈ pp,O[p]? =some (some [poC key .nilsl])/\ τ.length+2<p
 nd:pp.Nodup
 sid:∀s,sid=some s->τ.length+2<s/\ s ∉ pp
theorem NewS.step{τ O O2:Store}{key:Hash}{n i:Nat}{w:AV}{pp:List Nat}{sid:Option Nat}(h:NewS τ O key n i w pp sid)
  (hr:O2[O.length+2]? =some (some ((pp.map fun p=>[.ptr p 0 0])++ [[.ptr (O.length+1) 0 0]]))) (hl:O2.length=O.length+3) (hk:∀j,j<O.length+2->sid ≠ some j->O2[j]? =(O++ [some [hc key],some [poC key .nilsl]])[j]?):
  NewS τ (O2.set (τ.length+2) (some [[.sl (O.length+2) 0 (i+1) none 1,.ptr (τ.length+1) 0 0]])) key n (i+1) (.sl (O.length+2) 0 (i+1) none 1) (pp++ [O.length+1]) (some (O.length+2)):=by
 have d:=slen h.obj
 have hns:∀j,j<=τ.length+2->sid ≠ some j:=fun j hj e=>by have:=(h.sid j e).1;omega
 have hlow:∀j,j<O.length->j ≠ τ.length+2->sid ≠ some j->(O2.set (τ.length+2) (some [[.sl (O.length+2) 0 (i+1) none 1,.ptr (τ.length+1) 0 0]]))[j]? =O[j]?:=fun j hj h1 h2=>by
  rw [z1a (fun e=>h1 e.symm),hk j (by omega) h2,gapp hj]
 have hpl:∀p ∈ pp,p<O.length:=fun p hp=>slen (h.pool p hp).1
 have hmap:((pp++ [O.length+1]).map fun p=>[AV.ptr p 0 0])=(pp.map fun p=>[.ptr p 0 0])++ [[.ptr (O.length+1) 0 0]]:=by simp
 refine { ext:= ?_,len:=by rw [List.length_append,h.len];rfl,box:= ?_,lk:= ?_,obj:= ?_,row:= ?_,pool:= ?_,nd:= ?_,sid:= ?_ }
 ·obtain⟨y,hy⟩:=h.ext
  refine zod (by rw [List.length_set,hl];omega) fun j hj=> ?_
  rw [hlow j (by omega) (by omega) (hns j (by omega)),hy,gapp hj]
 ·rw [hlow _ (by omega) (by omega) (hns _ (by omega))];exact h.box
 ·rw [hlow _ (by omega) (by omega) (hns _ (by omega))];exact h.lk
 ·exact z1t (by omega)
 ·refine .inr ⟨_,rfl,by simp,?_,?_⟩
  ·rw [List.length_map,List.length_append,h.len];rfl
  ·rw [z1a (by omega),hr,hmap]
 ·intro p hp
  rcases List.mem_append.1 hp with h1|h1
  ·obtain⟨h2,h3⟩:=h.pool p h1
   refine⟨?_,h3⟩
   rw [hlow p (hpl p h1) (by omega) fun e=>(h.sid p e).2 h1];exact h2
  ·rw [List.mem_singleton.1 h1]
   refine⟨?_,by omega⟩
   rw [z1a (by omega),hk _ (by omega) fun e=>by
    have hh:=h.row
    rcases hh with⟨e2,_⟩| ⟨q,e2,_,_,hq⟩
    ·rw [e2]at e;cases e
    ·rw [e2]at e;injection e with e;have:=slen hq;omega,z16 (by omega)]
   rw [show O.length+1-O.length=1 by omega];rfl
 ·rw [List.nodup_append]
  refine⟨h.nd,by simp,fun a ha b hb=> ?_⟩
  rw [List.mem_singleton.1 hb];have:=hpl a ha;omega
 ·intro s hs
  injection hs with hs;subst hs
  refine⟨by omega,fun hm=> ?_⟩
  rcases List.mem_append.1 hm with h1|h1
  ·have:=hpl _ h1;omega
  ·have:=List.mem_singleton.1 h1;omega
def CNewP(τ:Store)(key:Hash)(n:Nat)(v:AV)(O':Store):Prop:=∃c own,v=.tup [.ptr c 0 0,.int .i64 0]/\ Ext τ O'/\ CirS PoIs O' c key (List.replicate n []) [] own/\ ∀x ∈ own,τ.length<=x
theorem NewS.fin{τ O:Store}{key:Hash}{n:Nat}{w:AV}{pp:List Nat}{sid:Option Nat}(h:NewS τ O key n n w pp sid)(h0:0<n):CNewP τ key n (.tup [.ptr (τ.length+2) 0 0,.int .i64 0]) O:=by
 obtain⟨y,hy⟩:=h.ext
 have hrow:=h.row
 rcases hrow with⟨_,h1,_⟩| ⟨q,hq,h1,hw,hg⟩
 ·have:=congrArg List.length h1
  rw [List.length_map,h.len]at this;simp at this;omega
 have hql:(pp.map fun p=>[AV.ptr p 0 0]).length=n:=by rw [List.length_map,h.len]
 rw [hql]at hw
 subst hw
 have hsid:=h.sid q hq
 let ow:Nat->List Nat:=fun j=>if j=0 then [τ.length+2,q]else if j=1 then [τ.length+1]else [pp.getD (j-2) 0]
 have hpm:∀j,j<n->pp.getD j 0 ∈ pp:=fun j hj=>by
  rw [show pp.getD j 0=pp[j]'(by rw [h.len];exact hj)by simp [List.getD,h.len,hj]];exact List.getElem_mem _
 have hge:∀j,j<n+2->∀x ∈ ow j,τ.length<=x:=by
  intro j hj x hx
  show τ.length<=x
  simp only [ow]at hx
  split at hx
  ·simp at hx;omega
  ·split at hx
   ·simp at hx;omega
   ·rw [List.mem_singleton]at hx;have:=(h.pool _ (hpm (j-2) (by omega))).2;omega
 refine⟨τ.length+2,z2m (n+2) ow,rfl,h.ext,⟨q,τ.length+1,none,pp,ow,by rw [List.length_replicate],?_⟩,fun x hx=> ?_⟩
 ·exact {
   o0:=rfl
   o1:=rfl
   len:=by rw [h.len,List.length_replicate]
   obj:=by rw [List.length_replicate];exact h.obj
   row:=hg
   lk:=⟨by rw [List.length_replicate];exact h.lk,rfl,by simp⟩
   pool:=fun i hi=>by
    rw [List.length_replicate]at hi
    obtain⟨h2,h3⟩:=h.pool _ (hpm i hi)
    refine⟨.nilsl,none,?_,h2,.inl ⟨rfl,?_,rfl⟩,by simp⟩
    ·simp [ow]
    ·simp [List.getD,hi,hdrs]
   apart:=by
    rw [List.length_replicate]
    intro i j hi hj hne x hx hx2
    simp only [ow]at hx hx2
    have hp:=fun k (hk:k<n+2) (h2:¬k=0) (h3:¬k=1)=>(h.pool _ (hpm (k-2) (by omega))).2
    have hqq:=fun k (hk:k<n+2) (h2:¬k=0) (h3:¬k=1) (e:q=pp.getD (k-2) 0)=>hsid.2 (by rw [e];exact hpm (k-2) (by omega))
    by_cases i0:i=0
    ·rw [if_pos i0]at hx
     rw [if_neg (by omega)]at hx2
     by_cases j1:j=1
     ·rw [if_pos j1]at hx2;simp at hx hx2;omega
     ·rw [if_neg j1]at hx2;simp at hx hx2
      have:=hp j hj (by omega) j1
      rcases hx with rfl|rfl
      ·simp [List.getD]at this;omega
      ·exact hqq j hj (by omega) j1 (by simp [List.getD];exact hx2)
    ·rw [if_neg i0]at hx
     by_cases i1:i=1
     ·rw [if_pos i1]at hx
      by_cases j0:j=0
      ·rw [if_pos j0]at hx2;simp at hx hx2;omega
      ·rw [if_neg j0,if_neg (by omega)]at hx2
       have:=hp j hj j0 (by omega)
       simp at hx hx2;simp [List.getD]at this;omega
     ·rw [if_neg i1]at hx
      have hpi:=hp i hi i0 i1
      by_cases j0:j=0
      ·rw [if_pos j0]at hx2
       simp at hx hx2
       rcases hx2 with rfl|rfl
       ·simp [List.getD]at hpi;omega
       ·exact hqq i hi i0 i1 (by simp [List.getD];exact hx)
      ·rw [if_neg j0]at hx2
       by_cases j1:j=1
       ·rw [if_pos j1]at hx2
        simp at hx hx2;simp [List.getD]at hpi;omega
       ·rw [if_neg j1]at hx2
        rw [List.mem_singleton]at hx hx2
        rw [hx]at hx2
        have a1:i-2<pp.length:=by rw [h.len];omega
        have a2:j-2<pp.length:=by rw [h.len];omega
        rw [show pp.getD (i-2) 0=pp[i-2]by simp [List.getD,a1],show pp.getD (j-2) 0=pp[j-2]by simp [List.getD,a2]]at hx2
        rcases Nat.lt_or_gt_of_ne (show i-2 ≠ j-2 by omega)with hlt|hlt
        ·exact List.pairwise_iff_getElem.1 h.nd _ _ a1 a2 hlt hx2
        ·exact List.pairwise_iff_getElem.1 h.nd _ _ a2 a1 hlt hx2.symm }
 ·obtain⟨j,hj,h2⟩:=mem_allOw.1 hx
  exact hge j hj x h2
theorem CNewP.is(τ:Store)(key:Hash)(n:Nat)(h0:0<n):∃v O',CNewP τ key n v O':=by
 have hs:∀i,∃O w pp sid,NewS τ O key n i w pp sid:=by
  intro i
  induction i with
  |zero=>
   exact⟨τ++ [some [hc key],some [[.int .i64 n,.nilsl]],some [[.nilsl,.ptr (τ.length+1) 0 0]]],.nilsl,[],none,⟨_,rfl⟩,rfl,by rw [z16 (by omega),Nat.sub_self];rfl,by rw [z16 (by omega),Nat.add_sub_cancel_left];rfl,by rw [z16 (by omega),Nat.add_sub_cancel_left];rfl,.inl ⟨rfl,rfl,rfl⟩,by simp,by simp,by simp⟩
  |succ i ih=>
   obtain⟨O,w,pp,sid,h⟩:=ih
   refine⟨_,_,_,_,h.step (O2:=O++ [some [hc key],some [poC key .nilsl],some ((pp.map fun p=>[.ptr p 0 0])++ [[.ptr (O.length+1) 0 0]])]) ?_ (by simp) fun j hj _=> ?_⟩
   ·rw [z16 (by omega),Nat.add_sub_cancel_left];rfl
   ·rw [show O++ [some [hc key],some [poC key .nilsl],some ((pp.map fun p=>[AV.ptr p 0 0])++ [[.ptr (O.length+1) 0 0]])]=(O++ [some [hc key],some [poC key .nilsl]])++ [some ((pp.map fun p=>[AV.ptr p 0 0])++ [[.ptr (O.length+1) 0 0]])]by simp,gapp (by simpa using hj)]
 obtain⟨O,w,pp,sid,h⟩:=hs n
 exact⟨_,O,h.fin h0⟩
attribute [local irreducible] ACallsTo ACallsP
theorem zna(O:Store)(key:Hash)(n:Nat)(h2:2<=n)(h8:n<=8):ACallsP TC 28 [.agg (hc key),.int .i64 n] O (CNewP O key n):=by
 have l:=z6 key
 have tk:(hc key).take 32=hc key:=List.take_of_length_le (by omega)
 have c1:¬(n:Int)<2:=by omega
 have c2:¬(n:Int)>8:=by omega
 have hL:=fun O=>zqz O n ⟨by omega,by omega⟩
 refine ACallsP.of_keep q2pok (by simp) ?_
 repeat' (first|apply zs_|apply zb_|apply zc_|apply zt_ rfl|apply zf_ rfl|(apply zd_ rfl<;>intro ht<;>try omega)|((first|apply zr_|apply zk_|apply ze_|apply zq_|(apply callW.mk_pu;(first|exact(fun _=>hL _)))|(apply callW.za;(first|exact(hL _)))|(apply zG<;>intro ht));all_goals try simp (disch:=first|omega|(simp only [lens,z6,z7,zg,z8,zh,zi,lQt,lQd,List.length_replicate,lQm];first|done|omega)) only [go_sem,c1,c2,l]))
 refine zW.loop (fun m J O'=>∃(i:Nat) (w:AV) (pp:List Nat) (sid:Option Nat),m+i=n/\ NewS O O' key n i w pp sid/\ J 2=.ptr O.length 0 0/\ J 8=.ptr (O.length+2) 0 0/\ J 26=.int .i64 n/\ J 27=.int .i64 i) n ?_ ?_
 ·refine⟨0,.nilsl,[],none,by omega,?_,by simp (disch:=first|omega|(simp only [lens,z6,z7,zg,z8,zh,zi,lQt,lQd,List.length_replicate,lQm];first|done|omega)) only [go_sem],by simp (disch:=first|omega|(simp only [lens,z6,z7,zg,z8,zh,zi,lQt,lQd,List.length_replicate,lQm];first|done|omega)) only [go_sem],by simp (disch:=first|omega|(simp only [lens,z6,z7,zg,z8,zh,zi,lQt,lQd,List.length_replicate,lQm];first|done|omega)) only [go_sem],by simp (disch:=first|omega|(simp only [lens,z6,z7,zg,z8,zh,zi,lQt,lQd,List.length_replicate,lQm];first|done|omega)) only [go_sem];try rfl⟩
  exact⟨⟨_,rfl⟩,rfl,by simp,by simp,by simp,.inl ⟨rfl,rfl,rfl⟩,by simp,by simp,by simp⟩
 ·rintro m J O' ⟨i,w,pp,sid,hm,hS,q2,q8,q26,q27⟩
  by_cases hi:i<n
  ·have hi':(i:Int)<n:=by omega
   have hb:=hS.box
   have ho:=hS.obj
   have db:=slen hb
   have do':=slen ho
   have hE:=zsz O' key
   repeat' (first|apply zs_|apply zb_|apply zc_|apply zt_ rfl|apply zf_ rfl|(apply zd_ rfl<;>intro ht<;>try omega)|((first|apply zr_|apply zk_|apply ze_|apply zq_|(apply zG<;>intro ht));all_goals try simp (disch:=first|omega|(simp only [lens,z6,z7,zg,z8,zh,zi,lQt,lQd,List.length_replicate,lQm];first|done|omega)) only [go_sem,q2,q8,q26,q27,hb,ho,hi',tk,l]))
   refine callW.mkP_ef (caps:=[]) hE ⟨_,_,rfl,rfl⟩ ?_
   rintro v O1 ⟨rfl,rfl⟩
   have hrow:RowAt 1 (O'++ [some [hc key],some [poC key .nilsl]]) sid w (pp.map fun p=>[.ptr p 0 0]):=hS.row.keep fun q hq=>gapp (hS.row.lt hq)
   obtain⟨O2,ha,hr,hl2,hk⟩:=ztt (x:=.ptr (O'.length+1) 0 0) hrow (by rw [List.length_map,hS.len];omega)
   have hlen:(O'++ [some [hc key],some [poC key .nilsl]]).length=O'.length+2:=by simp
   rw [hlen]at hr hl2 hk ha
   have hN:=hS.step hr hl2 hk
   rw [List.length_map,hS.len]at ha
   have ho2:O2[O.length+2]? =some (some [[w,.ptr (O.length+1) 0 0]]):=by
    rw [hk _ (by omega) fun e=>by have:=(hS.sid _ e).1;omega,gapp do'];exact ho
   refine⟨by simp (disch:=first|omega|(simp only [lens,z6,z7,zg,z8,zh,zi,lQt,lQd,List.length_replicate,lQm];first|done|omega)) only [go_sem,hb,ho,tk,l],?_⟩
   simp (disch:=first|omega|(simp only [lens,z6,z7,zg,z8,zh,zi,lQt,lQd,List.length_replicate,lQm];first|done|omega)) only [go_sem,q2,q8,q26,q27,hb,ho,ho2,ha]
   repeat' (first|apply zs_|apply zb_|apply zc_|apply zt_ rfl|apply zf_ rfl|(apply zd_ rfl<;>intro ht<;>try omega)|((first|apply zr_|apply zk_|apply ze_|apply zq_|(apply zG<;>intro ht));all_goals try simp (disch:=first|omega|(simp only [lens,z6,z7,zg,z8,zh,zi,lQt,lQd,List.length_replicate,lQm];first|done|omega)) only [go_sem,q2,q8,q26,q27,hb,ho,ho2,ha]))
   exact⟨m-1,by omega,i+1,_,_,_,by omega,hN,by simp⟩
  ·obtain rfl:i=n:=by omega
   repeat' (first|apply zs_|apply zb_|apply zc_|apply zt_ rfl|apply zf_ rfl|(apply zd_ rfl<;>intro ht<;>try omega)|((first|apply zr_|apply zk_|apply ze_|apply zq_|(apply zG<;>intro ht));all_goals try simp (disch:=first|omega|(simp only [lens,z6,z7,zg,z8,zh,zi,lQt,lQd,List.length_replicate,lQm];first|done|omega)) only [go_sem,q2,q8,q26,q27]))
   exact hS.fin (by omega)
end
section
theorem ztc{h:Hdr}(hv:valH h=true):(z2a h).length<=20000:=by
 obtain⟨N,I,e1,e2,h1,h2,h3,h4⟩:=z9h (show z26 h.n h.i h.s h.p=true from hv)
 unfold z2a putH
 have a1:=z1y h.n.toNat
 have a2:=z1y h.i.toNat
 have a3:=z1y h.s.length
 have a4:=zcp (l:=h.p)
 have a5:=h.r.2
 unfold z25
 simp only [List.length_append]
 omega
theorem zhb:∀{P:List Hdr},(∀q ∈ P,valH q=true)->(z27 P).length<=20011*P.length
 | [],_=>by simp [z27]
 |q::P,h=>by
  have h1:=zhb (P:=P) fun q hq=>h q (List.mem_cons_of_mem _ hq)
  have h2:=ztc (h q (by simp))
  have h3:=zeo (z2a q)
  unfold z27 at h1 ⊢
  simp only [List.map_cons,List.flatten_cons,List.length_append,List.length_cons]
  omega
theorem txt_le{k:MT}(h:k.Ok):(k.txt.length:Int)<=65536:=by
 cases k with
 |gt P=>
  obtain⟨h0,h1,h2⟩:=h
  have a:=zhb h2
  have b:=z1y P.length
  show ((gtS P).length:Int)<=65536
  unfold gtS
  rw [List.length_cons,List.length_append];omega
 |kn l=>
  obtain⟨h1,h2⟩:=h
  have a:=z6t l
  have b:=z1y l.length
  show ((knS l).length:Int)<=65536
  unfold knS
  rw [List.length_cons,List.length_append];omega
theorem zjv{n len:Nat}{m:MM}(h:m.Ok n)(hl:len<200):z1z n len m.ml=0:=by
 have h1:=h.f
 have h2:=h.t
 have h3:=h.ne
 have h4:=txt_le h.k
 unfold z1z
 rw [if_neg (by omega),if_neg (by show ¬((m.f:Int)<0 \/(n:Int)<=m.f \/(m.t:Int)<0 \/(n:Int)<=m.t \/(m.f:Int)=m.t);omega),if_neg (by show ¬(65536:Int)<m.k.txt.length;omega),if_neg (by omega)]
theorem zgl{key:Hash}{q:Hdr}(h:z1m key q.n q.i q.r q.s q.p=0):valH q=true:=by
 unfold z1m at h
 cases e:z26 q.n q.i q.s q.p
 ·rw [if_pos e]at h;cases h
 ·exact e
theorem z85{key:Hash}{h:Hdr}(hc:z1m key h.n h.i h.r h.s h.p=0):addC key [] h=2/\ addL key [] h=[h]:=by
 obtain⟨h1,h2⟩:=zm3 (P:=[]) (b:=0) hc rfl (fun⟨e,_⟩=>by simp at e) (by simp)
 rw [h1,h2]
 refine⟨?_,rfl⟩
 rw [if_neg]
 rintro(⟨e,_⟩|e)
 ·omega
 ·simp at e
section
variable {K:Hash} {h:Hdr} (hc:z1m K h.n h.i h.r h.s h.p=0)
include hc
theorem told1:lrnC K [[],[],[]] 0 h=2:=(if_pos (show isN 3 0=true by decide)).trans (z85 hc).1
theorem told2:lrnS K [[],[],[]] 0 h=[[h],[],[]]:=(if_pos (show isN 3 0=true by decide)).trans (by rw [show ([[],[],[]]:List (List Hdr)).getD (0:Int).toNat []=[]from rfl,(z85 hc).2];rfl)
omit hc in
theorem zin:(⟨1,0,.kn []⟩:MM).Ok 3:=⟨by decide,by decide,by decide,by decide,fun _ h=>by simp at h⟩
theorem zil:(⟨0,1,.gt [h]⟩:MM).Ok 3:=⟨by show 0<3;omega,by show 1<3;omega,by show 0 ≠ 1;omega,by simp,by simp,fun q hq=>by rw [List.mem_singleton.1 hq];exact zgl hc⟩
omit hc in
theorem told3:tlkI [[h],[],[]] [] 1 0=0:=(if_pos (show twoN 3 1 0=true by decide)).trans (zjv (m:=⟨1,0,.kn []⟩) zin (by decide))
omit hc in
theorem told4:zep [[h],[],[]] [] 1 0=[⟨1,0,.kn []⟩]:=if_pos told3
omit hc in
theorem told5:zae K [[h],[],[]] [⟨1,0,.kn []⟩] 0=[[h],[],[]]:=if_pos (show atS 3 1 0=0 by decide)
theorem zcz:z1b [h] []=[h]:=by simp [z1b,z44,zgl hc,List.filter]
omit hc in
theorem zd0:z1b [h] (hns [h])=[]:=by simp [z1b,z44,hns,List.filter]
omit hc in
theorem miss0(l:List NH):z1b [] l=[]:=rfl
theorem told6:zad [[h],[],[]] [⟨1,0,.kn []⟩] 0=[⟨0,1,.gt [h]⟩]:=by
 have e:repM [[h],[],[]] ⟨1,0,.kn []⟩ []=⟨0,1,.gt [h]⟩:=by
  show (⟨0,1,.gt (z1b [h] [])⟩:MM)=_
  rw [zcz hc]
 refine(if_pos (show atS 3 1 0=0 by decide)).trans ?_
 show (if z1b [h] [] ≠ []/\ z1z 3 0 (repM [[h],[],[]] ⟨1,0,.kn []⟩ []).ml=0 then []++ [repM [[h],[],[]] ⟨1,0,.kn []⟩ []]else [])=_
 rw [e,if_pos ⟨by rw [zcz hc];simp,zjv (zil hc) (by decide)⟩];rfl
theorem told7:zae K [[h],[],[]] [⟨0,1,.gt [h]⟩] 0=[[h],[h],[]]:=by
 refine(if_pos (show atS 3 1 0=0 by decide)).trans ?_
 show [[h],addL K [] h,[]]=_
 rw [(z85 hc).2]
omit hc in
theorem told8:zad [[h],[],[]] [⟨0,1,.gt [h]⟩] 0=[]:=if_pos (show atS 3 1 0=0 by decide)
omit hc in
theorem zax(P Q:List Hdr)(f n:Nat)(e:z1b Q (hns P)=[]):z1u K (f+1) P Q n=(n,P):=by unfold z1u;rw [if_pos e]
theorem zta(n:Nat):z1u K 17 [] [h] n=(n+2,[h]):=by
 unfold z1u
 rw [show z1b [h] (hns [])=[h]from zcz hc,if_neg (by simp),show z1d K [] [h]=[h]from(z85 hc).2,if_neg (by simp)]
 exact zax _ _ _ _ zd0
theorem told9:metN K [[h],[h],[]] 1 2=(4,[[h],[h],[h]]):=by
 unfold metN
 rw [show ([[h],[h],[]]:List (List Hdr)).getD 1 []=[h]from rfl,show ([[h],[h],[]]:List (List Hdr)).getD 2 []=[]from rfl,zax [h] [] 16 1 (miss0 _)]
 dsimp only
 rw [zta hc];rfl
omit hc in
theorem zkk:metN K [[h],[h],[h]] 1 2=(2,[[h],[h],[h]]):=by
 unfold metN
 rw [show ([[h],[h],[h]]:List (List Hdr)).getD 1 []=[h]from rfl,show ([[h],[h],[h]]:List (List Hdr)).getD 2 []=[h]from rfl,zax [h] [h] 16 1 zd0]
 dsimp only
 rw [zax [h] [h] 16 1 zd0];rfl
theorem zkl:metI K [[h],[h],[]] 1 2=.tup [.int .i64 4,.int .i64 0]/\ metS K [[h],[h],[]] 1 2=[[h],[h],[h]]:=by
 refine⟨(if_pos (show twoN 3 1 2=true by decide)).trans ?_,(if_pos (show twoN 3 1 2=true by decide)).trans ?_⟩
 ·rw [show metN K [[h],[h],[]] (1:Int).toNat (2:Int).toNat=metN K [[h],[h],[]] 1 2 from rfl,told9 hc];rfl
 ·rw [show metN K [[h],[h],[]] (1:Int).toNat (2:Int).toNat=metN K [[h],[h],[]] 1 2 from rfl,told9 hc]
omit hc in
theorem told13:metI K [[h],[h],[h]] 1 2=.tup [.int .i64 2,.int .i64 0]/\ metS K [[h],[h],[h]] 1 2=[[h],[h],[h]]:=by
 refine⟨(if_pos (show twoN 3 1 2=true by decide)).trans ?_,(if_pos (show twoN 3 1 2=true by decide)).trans ?_⟩
 ·rw [show metN K [[h],[h],[h]] (1:Int).toNat (2:Int).toNat=metN K [[h],[h],[h]] 1 2 from rfl,zkk];rfl
 ·rw [show metN K [[h],[h],[h]] (1:Int).toNat (2:Int).toNat=metN K [[h],[h],[h]] 1 2 from rfl,zkk]
theorem POk.one:POk K [h]:=by have:=(POk.nil K).add h;rwa [(z85 hc).2]at this
end
end
section
theorem zu6(seed:List UInt8)(a r k b:Nat)(hb:b%8 ≠ 0):z1m (z1q (keyL seed)) (z4c seed a r k b).n (z4c seed a r k b).i (z4c seed a r k b).r (z4c seed a r k b).s (z4c seed a r k b).p=0:=by
 rw [zju seed a r k b hb]
 exact zug seed (k%8) (z30 a) (z2v r) (Nat.mod_lt _ (by omega)) (by unfold z30;omega)
attribute [local irreducible] ACallsTo ACallsP
theorem zxh:ACallsTo TC 19 [] [] (.bool true) []:=by
 have hNew:=fun O=>zqj O [107] (by simp)
 refine ACallsTo.of_body q2gok (by simp) fun hw _=> ?_
 repeat' (first|apply zs_|apply zb_|apply zc_|apply zt_ rfl|apply zf_ rfl|(apply zd_ rfl<;>intro ht<;>try omega)|((first|apply zr_|apply zk_|apply ze_|apply zq_|(apply callW.mk_pu;(first|exact(fun _=>hNew _)))|(apply callW.za;(first|exact(hNew _)))|(apply zG<;>intro ht));all_goals try simp (disch:=first|omega|(simp only [lens,z6,z7,zg,z8,zh,zi,lQt,lQd,List.length_replicate,lQm];first|done|omega)) only [go_sem]))
 try simp only [List.nil_append,List.length_nil]
 have hsl:([107]:List UInt8).length<1000000:=by simp
 generalize ([107]:List UInt8)=seed at*
 have hRt:=zxj [some [z1k true seed (keyL seed)]] 0 seed (keyL seed) rfl (z3m seed)
 have hN:ACallsP TC 28 [.agg (hc (z1q (keyL seed))),.int .i64 3] [some [z1k true seed (keyL seed)]] (CNewP [some [z1k true seed (keyL seed)]] (z1q (keyL seed)) 3):=zna _ _ 3 (by omega) (by omega)
 have hchk:=zu6 seed 0 0 0 1 (by omega)
 repeat' (first|apply zs_|apply zb_|apply zc_|apply zt_ rfl|apply zf_ rfl|(apply zd_ rfl<;>intro ht<;>try omega)|((first|apply zr_|apply zk_|apply ze_|apply zq_|(apply callW.mk_pu;(first|exact(fun _=>hRt)))|(apply callW.za;(first|exact(hRt)))|(apply zG<;>intro ht));all_goals try simp (disch:=first|omega|(simp only [lens,z6,z7,zg,z8,zh,zi,lQt,lQd,List.length_replicate,lQm];first|done|omega)) only [go_sem]))
 refine callW.mkP (caps:=[]) hN (CNewP.is _ _ 3 (by omega)) ?_
 rintro v O1 ⟨c,own,rfl,hE1,S1,hge⟩
 have S1:CirS PoIs O1 c (z1q (keyL seed)) [[],[],[]] [] own:=S1
 obtain⟨y1,hy1⟩:=hE1
 have g0:O1[0]? =some (some [z1k true seed (keyL seed)]):=by rw [hy1];rfl
 have hOf:ACallsTo TC 12 [.agg [.int .u8 0,.int .u8 0,.int .u8 0,.int .u8 1],.ptr 0 0 0] O1 (.agg (hdrC (z4c seed 0 0 0 1))) O1:=zu5 O1 0 seed 0 0 0 1 g0 hsl (by omega) (by omega) (by omega) (by omega)
 generalize z4c seed 0 0 0 1=h at*
 generalize z1q (keyL seed)=K at*
 have hpl:=zcs hchk
 have hl:=zg h
 have hh:=zhf h
 have ha:(hdrC h).take 36=hdrC h:=z7i h
 have E:Ext O1 (O1++ [some [hdrC h]]):=⟨_,rfl⟩
 have S2:=S1.ext ploc_is E
 have hB:(O1++ [some [hdrC h]])[O1.length]? =some (some [hdrC h]):=by rw [z16 (Nat.le_refl _),Nat.sub_self];rfl
 have hnB:O1.length ∉ own:=fun e=>by have:=S1.lt ploc_is _ e;omega
 have k0:POks K [[],[],[]]:=fun i hi=>by
  have:([[],[],[]]:List (List Hdr)).getD i []=[]:=by
   match i,hi with
   | 0,_=>rfl
   | 1,_=>rfl
   | 2,_=>rfl
  rw [this];exact POk.nil K
 have k1:POks K [[h],[],[]]:=k0.set 0 (POk.one hchk)
 have k2:POks K [[h],[h],[]]:=k1.set 1 (POk.one hchk)
 have k3:POks K [[h],[h],[h]]:=k2.set 2 (POk.one hchk)
 simp (disch:=first|omega|(simp only [lens,z6,z7,zg,z8,zh,zi,lQt,lQd,List.length_replicate,lQm];first|done|omega)) only [go_sem,hl,ha]
 repeat' (first|apply zs_|apply zb_|apply zc_|apply zt_ rfl|apply zf_ rfl|(apply zd_ rfl<;>intro ht<;>try omega)|((first|apply zr_|apply zk_|apply ze_|apply zq_|(apply callW.mk_pu;(first|exact(fun _=>hOf)))|(apply callW.za;(first|exact(hOf)))|(apply zG<;>intro ht));all_goals try simp (disch:=first|omega|(simp only [lens,z6,z7,zg,z8,zh,zi,lQt,lQd,List.length_replicate,lQm];first|done|omega)) only [go_sem,hl,ha]))
 have hL:=zn6 S2 k0 0 h _ (z2c 32 (hr h.p)) (by omega)
 rw [show sgC h.n h.r h.i h.s (zw 32 (hr h.p))=hdrC h from rfl,told1 hchk,told2 hchk]at hL
 refine callW.mkP (caps:=[]) hL (CirP.is ploc_is z5n S2 _ rfl) ?_
 rintro v O3 ⟨rfl,own3,S3,f3⟩
 have hB3:=f3.get hB hnB
 have hnB3:=f3.nin (slen hB) hnB
 simp (disch:=first|omega|(simp only [lens,z6,z7,zg,z8,zh,zi,lQt,lQd,List.length_replicate,lQm];first|done|omega)) only [go_sem]
 repeat' (first|apply zs_|apply zb_|apply zc_|apply zt_ rfl|apply zf_ rfl|(apply zd_ rfl<;>intro ht<;>try omega)|((first|apply zr_|apply zk_|apply ze_|apply zq_|(apply zG<;>intro ht));all_goals try simp (disch:=first|omega|(simp only [lens,z6,z7,zg,z8,zh,zi,lQt,lQd,List.length_replicate,lQm];first|done|omega)) only [go_sem]))
 have hT:=znf S3 k1 (by simp) (by simp) 1 0
 rw [told3,told4]at hT
 refine callW.mkP (caps:=[]) hT (CirP.is ploc_is z5n S3 _ rfl) ?_
 rintro v O4 ⟨rfl,own4,S4,f4⟩
 have hB4:=f4.get hB3 hnB3
 have hnB4:=f4.nin (slen hB3) hnB3
 simp (disch:=first|omega|(simp only [lens,z6,z7,zg,z8,zh,zi,lQt,lQd,List.length_replicate,lQm];first|done|omega)) only [go_sem]
 repeat' (first|apply zs_|apply zb_|apply zc_|apply zt_ rfl|apply zf_ rfl|(apply zd_ rfl<;>intro ht<;>try omega)|((first|apply zr_|apply zk_|apply ze_|apply zq_|(apply zG<;>intro ht));all_goals try simp (disch:=first|omega|(simp only [lens,z6,z7,zg,z8,zh,zi,lQt,lQd,List.length_replicate,lQm];first|done|omega)) only [go_sem]))
 have hD:=zga S4 k1 (fun m hm=>by rw [List.mem_singleton.1 hm];exact zin) (by simp) (by simp) 0
 rw [told5,told6 hchk,show atS ([[h],[],[]]:List (List Hdr)).length ([⟨1,0,.kn []⟩]:List MM).length 0=0 by show atS 3 1 0=0;decide]at hD
 refine callW.mkP (caps:=[]) hD (CirP.is ploc_is z5n S4 _ rfl) ?_
 rintro v O5 ⟨rfl,own5,S5,f5⟩
 have hB5:=f5.get hB4 hnB4
 have hnB5:=f5.nin (slen hB4) hnB4
 simp (disch:=first|omega|(simp only [lens,z6,z7,zg,z8,zh,zi,lQt,lQd,List.length_replicate,lQm];first|done|omega)) only [go_sem]
 repeat' (first|apply zs_|apply zb_|apply zc_|apply zt_ rfl|apply zf_ rfl|(apply zd_ rfl<;>intro ht<;>try omega)|((first|apply zr_|apply zk_|apply ze_|apply zq_|(apply zG<;>intro ht));all_goals try simp (disch:=first|omega|(simp only [lens,z6,z7,zg,z8,zh,zi,lQt,lQd,List.length_replicate,lQm];first|done|omega)) only [go_sem]))
 have hD:=zga S5 k1 (fun m hm=>by rw [List.mem_singleton.1 hm];exact zil hchk) (by simp) (by simp) 0
 rw [told7 hchk,told8,show atS ([[h],[],[]]:List (List Hdr)).length ([⟨0,1,.gt [h]⟩]:List MM).length 0=0 by show atS 3 1 0=0;decide]at hD
 refine callW.mkP (caps:=[]) hD (CirP.is ploc_is z5n S5 _ rfl) ?_
 rintro v O6 ⟨rfl,own6,S6,f6⟩
 have hB6:=f6.get hB5 hnB5
 have hnB6:=f6.nin (slen hB5) hnB5
 simp (disch:=first|omega|(simp only [lens,z6,z7,zg,z8,zh,zi,lQt,lQd,List.length_replicate,lQm];first|done|omega)) only [go_sem]
 repeat' (first|apply zs_|apply zb_|apply zc_|apply zt_ rfl|apply zf_ rfl|(apply zd_ rfl<;>intro ht<;>try omega)|((first|apply zr_|apply zk_|apply ze_|apply zq_|(apply zG<;>intro ht));all_goals try simp (disch:=first|omega|(simp only [lens,z6,z7,zg,z8,zh,zi,lQt,lQd,List.length_replicate,lQm];first|done|omega)) only [go_sem]))
 have hPo:ACallsP TC 27 [.ptr c 0 0,.int .i64 1] O6 (PoCopyP O6 K [h]):=zge S6 k2 1 (by simp)
 refine callW.mkP_ef (caps:=[]) hPo (PoCopyP.is _ _ _) ?_
 rintro v O7 ⟨p7,o7,rfl,E7,P7,_⟩
 have S7:=S6.ext ploc_is E7
 have hB7:O7[O1.length]? =some (some [hdrC h]):=by obtain⟨y,rfl⟩:=E7;rw [gapp (slen hB6)];exact hB6
 have hH7:=P7.has (POk.one hchk).sort (by simp) h.n h.r
 rw [show isP [h] h.n h.r=true from(zht (POk.one hchk).sort h.n h.r).2 ⟨h,by simp,rfl,rfl⟩]at hH7
 have hM7:=zn8 S7 (by simp) (by simp)
 rw [show ((([]:List MM).length:Nat):Int)=0 from rfl]at hM7
 refine⟨by simp (disch:=first|omega|(simp only [lens,z6,z7,zg,z8,zh,zi,lQt,lQd,List.length_replicate,lQm];first|done|omega)) only [go_sem,hB7,hl,hh],?_⟩
 simp (disch:=first|omega|(simp only [lens,z6,z7,zg,z8,zh,zi,lQt,lQd,List.length_replicate,lQm];first|done|omega)) only [go_sem,hB6,hB7,hl,hh]
 repeat' (first|apply zs_|apply zb_|apply zc_|apply zt_ rfl|apply zf_ rfl|(apply zd_ rfl<;>intro ht<;>try omega)|((first|apply zr_|apply zk_|apply ze_|apply zq_|(apply callW.mk_pu;(first|exact(fun _=>hH7)|exact(fun _=>hM7)))|(apply callW.za;(first|exact(hH7)|exact(hM7)))|(apply zG<;>intro ht));all_goals try simp (disch:=first|omega|(simp only [lens,z6,z7,zg,z8,zh,zi,lQt,lQd,List.length_replicate,lQm];first|done|omega)) only [go_sem,hB6,hB7,hl,hh]))
 have hMe:=zgd S7 k2 (by simp) 1 2
 rw [(zkl hchk).1,(zkl hchk).2]at hMe
 refine callW.mkP (caps:=[]) hMe (CirP.is ploc_is z5n S7 _ rfl) ?_
 rintro v O8 ⟨rfl,own8,S8,f8⟩
 have hB8:=f8.get hB7 hnB6
 have hnB8:=f8.nin (slen hB7) hnB6
 simp (disch:=first|omega|(simp only [lens,z6,z7,zg,z8,zh,zi,lQt,lQd,List.length_replicate,lQm];first|done|omega)) only [go_sem]
 repeat' (first|apply zs_|apply zb_|apply zc_|apply zt_ rfl|apply zf_ rfl|(apply zd_ rfl<;>intro ht<;>try omega)|((first|apply zr_|apply zk_|apply ze_|apply zq_|(apply zG<;>intro ht));all_goals try simp (disch:=first|omega|(simp only [lens,z6,z7,zg,z8,zh,zi,lQt,lQd,List.length_replicate,lQm];first|done|omega)) only [go_sem]))
 have hMe:=zgd S8 k3 (by simp) 1 2
 rw [told13.1,told13.2]at hMe
 refine callW.mkP (caps:=[]) hMe (CirP.is ploc_is z5n S8 _ rfl) ?_
 rintro v O9 ⟨rfl,own9,S9,f9⟩
 have hB9:=f9.get hB8 hnB8
 simp (disch:=first|omega|(simp only [lens,z6,z7,zg,z8,zh,zi,lQt,lQd,List.length_replicate,lQm];first|done|omega)) only [go_sem]
 repeat' (first|apply zs_|apply zb_|apply zc_|apply zt_ rfl|apply zf_ rfl|(apply zd_ rfl<;>intro ht<;>try omega)|((first|apply zr_|apply zk_|apply ze_|apply zq_|(apply zG<;>intro ht));all_goals try simp (disch:=first|omega|(simp only [lens,z6,z7,zg,z8,zh,zi,lQt,lQd,List.length_replicate,lQm];first|done|omega)) only [go_sem]))
 have hPo:ACallsP TC 27 [.ptr c 0 0,.int .i64 2] O9 (PoCopyP O9 K [h]):=zge S9 k3 2 (by simp)
 refine callW.mkP_ef (caps:=[]) hPo (PoCopyP.is _ _ _) ?_
 rintro v σa ⟨pa,oa,rfl,Ea,Pa,_⟩
 have hBa:σa[O1.length]? =some (some [hdrC h]):=by obtain⟨y,rfl⟩:=Ea;rw [gapp (slen hB9)];exact hB9
 have hHa:=Pa.has (POk.one hchk).sort (by simp) h.n h.r
 rw [show isP [h] h.n h.r=true from(zht (POk.one hchk).sort h.n h.r).2 ⟨h,by simp,rfl,rfl⟩]at hHa
 refine⟨by simp (disch:=first|omega|(simp only [lens,z6,z7,zg,z8,zh,zi,lQt,lQd,List.length_replicate,lQm];first|done|omega)) only [go_sem,hBa,hl,hh],?_⟩
 simp (disch:=first|omega|(simp only [lens,z6,z7,zg,z8,zh,zi,lQt,lQd,List.length_replicate,lQm];first|done|omega)) only [go_sem,hB9,hBa,hl,hh]
 repeat' (first|apply zs_|apply zb_|apply zc_|apply zt_ rfl|apply zf_ rfl|(apply zd_ rfl<;>intro ht<;>try omega)|((first|apply zr_|apply zk_|apply ze_|apply zq_|(apply callW.mk_pu;(first|exact(fun _=>hHa)))|(apply callW.za;(first|exact(hHa)))|(apply zG<;>intro ht));all_goals try simp (disch:=first|omega|(simp only [lens,z6,z7,zg,z8,zh,zi,lQt,lQd,List.length_replicate,lQm];first|done|omega)) only [go_sem,hB9,hBa,hl,hh]))
 exact DownV.pure (τ:=[]) hw z1v
theorem zbe(O:Store):ACallsTo TC 19 [] O (.bool true) O:=ACallsTo.frame glok zxh (by simp [RLs]) O
end
section
structure ActV8 where
 k:Nat
 a:Nat
 b:Nat
 s:Sn
 q:Hdr
 x:AV
 n:Int
 m:Int
def z36(A:ActV8):List AV:=[.int .u8 A.k,.int .u8 A.a,.int .u8 A.b,.int .u8 A.s.1,.int .u8 A.s.2.1,.int .u8 A.s.2.2.1,.int .u8 A.s.2.2.2]
def z22(A:ActV8):List AV:=z36 A++(sgC A.q.n A.q.r A.q.i A.q.s A.x++ [.int .i64 A.n,.int .i64 A.m])
structure ActV8.Ok(A:ActV8):Prop where
 k:A.k<256
 a:A.a<256
 b:A.b<256
 s:SnOk A.s
 x:SlV 32 (hr A.q.p) A.x
 x1:A.q.p ≠ []->A.x=zw 32 (hr A.q.p)
 p:A.q.p.length<=maxLen
 g:A.q.s.length<=maxLen
def z6i(L:List ActV8):List (List AV):=L.map z22
theorem zbt(L:List ActV8):(z6i L).length=L.length:=by simp [z6i]
theorem zly{L:List ActV8}{i:Nat}(h:i<L.length):(z6i L)[i]? =some (z22 L[i]):=by simp [z6i,List.getElem?_eq_getElem h]
theorem zbs(A:ActV8):(z22 A).length=45:=by simp [z22,z36,z7]
theorem zlr(A:ActV8):(z22 A)[41]? =some (.str A.q.s):=by
 unfold z22
 rw [List.getElem?_append_right (by simp [z36]),List.getElem?_append_left (by simp [z36,z7])]
 exact sgC_34 ..
theorem zls(A:ActV8):(z22 A)[42]? =some A.x:=by
 unfold z22
 rw [List.getElem?_append_right (by simp [z36]),List.getElem?_append_left (by simp [z36,z7])]
 exact zjz ..
theorem zlt(A:ActV8):(z22 A)[43]? =some (.int .i64 A.n):=by
 unfold z22
 rw [List.getElem?_append_right (by simp [z36]),List.getElem?_append_right (by simp [z36,z7])]
 simp [z36,z7]
theorem zlu(A:ActV8):(z22 A)[44]? =some (.int .i64 A.m):=by
 unfold z22
 rw [List.getElem?_append_right (by simp [z36]),List.getElem?_append_right (by simp [z36,z7])]
 simp [z36,z7]
theorem zlx(A:ActV8):((z22 A).drop 7).take 36=sgC A.q.n A.q.r A.q.i A.q.s A.x:=by
 unfold z22
 rw [List.drop_left' (show (z36 A).length=7 from rfl),List.take_left' (z7 ..)]
theorem zlv(A:ActV8):(z22 A).take 45=z22 A:=List.take_of_length_le (by rw [zbs];omega)
def z84:Ty:=.row [.int .u8,.int .u8,.int .u8,zef,z95,.row [.int .i64,.int .i64]]
theorem zlw{cs:List AV}(h:ShC z84 cs):∃A:ActV8,cs=z22 A/\ A.Ok:=by
 simp only [z84,ShC]at h
 simp only [z34]at h
 obtain⟨c1,r1,rfl,h1,c2,r2,rfl,h2,c3,r3,rfl,h3,c4,r4,rfl,h4,c5,r5,rfl,h5,c6,r6,rfl,h6,rfl⟩:=h
 obtain⟨a,rfl,a0,a1⟩:=(by simpa only [ShC]using h1:∃n,_)
 obtain⟨b,rfl,b0,b1⟩:=(by simpa only [ShC]using h2:∃n,_)
 obtain⟨c,rfl,c0,c1⟩:=(by simpa only [ShC]using h3:∃n,_)
 obtain⟨s,rfl,hs⟩:=zuw h4
 obtain⟨q,x,e,hx,hx1,hp,hg⟩:=zub (a:=.agg c5) (by simpa only [z95,Sh,ShC]using⟨c5,rfl,by simpa only [z95,ShC]using h5⟩)
 injection e with e
 subst e
 simp only [ShC,z34]at h6
 obtain⟨d1,e1,rfl,⟨n,rfl,n0,n1⟩,d2,e2,rfl,⟨m,rfl,m0,m1⟩,rfl⟩:=h6
 simp only [IntKind.min,IntKind.max,IntKind.signed,IntKind.bits]at a0 a1 b0 b1 c0 c1
 simp at a0 a1 b0 b1 c0 c1
 obtain⟨a,rfl⟩:∃k:Nat,a=k:=⟨a.toNat,by omega⟩
 obtain⟨b,rfl⟩:∃k:Nat,b=k:=⟨b.toNat,by omega⟩
 obtain⟨c,rfl⟩:∃k:Nat,c=k:=⟨c.toNat,by omega⟩
 exact⟨⟨a,b,c,s,q,x,n,m⟩,by simp [z22,z36,snC],⟨by show a<256;omega,by show b<256;omega,by show c<256;omega,hs,hx,hx1,hp,hg⟩⟩
def greatA38(A:ActV8):Bool:=decide (17000<A.q.s.length \/10<A.q.p.length)
def zcm(L:List ActV8)(n:Int):Bool:=L.any greatA38 ||decide (n<L.length)
theorem zm8{L:List ActV8}{i:Nat}(h:i<L.length):(L.take (i+1)).any greatA38=((L.take i).any greatA38 ||greatA38 L[i]):=by
 rw [List.take_succ_eq_append_getElem h,List.any_append];simp
def CirN(O:Store)(p:AV):Prop:=p=.nilp \/ ∃r,p=.ptr r 0 0/\ O[r]? =some (some [[.nilsl,.nilp]])
attribute [local irreducible] ACallsTo ACallsP
theorem zla(O:Store)(L:List ActV8)(n:Int)(x:AV)(hx:SlV 45 (z6i L) x)(hok:∀A ∈ L,A.Ok)(hl:L.length<1000000000):
  ACallsTo TC 18 [x,.int .i64 n] O (.bool (zcm L n)) O:=by
 have r1:=hx.len
 rw [zbt]at r1
 unfold z1g at r1
 unfold zcm
 refine ACallsTo.of_body q2fok (by simp) fun hw _=> ?_
 repeat' (first|apply zs_|apply zb_|apply zc_|apply zt_ rfl|apply zf_ rfl|(apply zd_ rfl<;>intro ht<;>try omega)|((first|apply zr_|apply zk_|apply ze_|apply zq_|(apply zG<;>intro ht));all_goals try simp (disch:=first|omega|(simp only [lens,z6,z7,zg,z8,zh,zi,lQt,lQd,List.length_replicate,lQm];first|done|omega)) only [go_sem]))
 refine zW.loop (fun m J O'=>∃i:Nat,m+i=L.length/\ O'=O/\ (L.take i).any greatA38=false/\ J 0=x/\ J 1=.int .i64 n/\ J 5=.int .i64 i) L.length ?_ ?_
 ·exact⟨0,by omega,rfl,by simp,by simp (disch:=first|omega|(simp only [lens,z6,z7,zg,z8,zh,zi,lQt,lQd,List.length_replicate,lQm];first|done|omega)) only [go_sem],by simp (disch:=first|omega|(simp only [lens,z6,z7,zg,z8,zh,zi,lQt,lQd,List.length_replicate,lQm];first|done|omega)) only [go_sem],by simp (disch:=first|omega|(simp only [lens,z6,z7,zg,z8,zh,zi,lQt,lQd,List.length_replicate,lQm];first|done|omega)) only [go_sem];try rfl⟩
 ·rintro m J O' ⟨i,hm,rfl,hN,q0,q1,q5⟩
  by_cases hi:i<L.length
  ·obtain⟨ex,rfl⟩:=hx.vsl (by rw [zbt];omega)
   have hgi:=zly hi
   have hal:=zbt L
   have hA:=hok L[i] (List.getElem_mem hi)
   have hst:=zm8 hi
   have hin:L[i] ∈ L:=List.getElem_mem hi
   have hi':(i:Int)<L.length:=by omega
   generalize hAi:L[i]=A at*
   have c41:(List.drop 1 (List.drop 33 (List.drop 7 (z22 A))))[0]? =some (.str A.q.s):=by simp only [List.getElem?_drop];exact zlr A
   have c42:(List.drop 2 (List.drop 33 (List.drop 7 (z22 A))))[0]? =some A.x:=by simp only [List.getElem?_drop];exact zls A
   have cl:=zbs A
   have r2:=hA.x.len
   rw [zj]at r2
   unfold z1g at r2
   rw [hN,Bool.false_or]at hst
   have hall:greatA38 A=true->L.any greatA38=true:=fun h=>List.any_eq_true.2 ⟨A,hin,h⟩
   by_cases c1:17000<A.q.s.length
   ·rw [hall (decide_eq_true (.inl c1)),Bool.true_or]
    have c1':(A.q.s.length:Int)>17000:=by omega
    repeat' (first|apply zs_|apply zb_|apply zc_|apply zt_ rfl|apply zf_ rfl|(apply zd_ rfl<;>intro ht<;>try omega)|((first|apply zr_|apply zk_|apply ze_|apply zq_|(apply zG<;>intro ht));all_goals try simp (disch:=first|omega|(simp only [lens,z6,z7,zg,z8,zh,zi,lQt,lQd,List.length_replicate,lQm];first|done|omega)) only [go_sem,q0,q1,q5,hgi,hal,c41,c42,cl,r2,hi',c1']))
    exact DownV.same hw z1v
   ·have c1':¬(A.q.s.length:Int)>17000:=by omega
    by_cases c2:10<A.q.p.length
    ·rw [hall (decide_eq_true (.inr c2)),Bool.true_or]
     have c2':(A.q.p.length:Int)>10:=by omega
     repeat' (first|apply zs_|apply zb_|apply zc_|apply zt_ rfl|apply zf_ rfl|(apply zd_ rfl<;>intro ht<;>try omega)|((first|apply zr_|apply zk_|apply ze_|apply zq_|(apply zG<;>intro ht));all_goals try simp (disch:=first|omega|(simp only [lens,z6,z7,zg,z8,zh,zi,lQt,lQd,List.length_replicate,lQm];first|done|omega)) only [go_sem,q0,q1,q5,hgi,hal,c41,c42,cl,r2,hi',c1',c2']))
     exact DownV.same hw z1v
    ·have c2':¬(A.q.p.length:Int)>10:=by omega
     rw [show greatA38 A=false from decide_eq_false (by omega)]at hst
     repeat' (first|apply zs_|apply zb_|apply zc_|apply zt_ rfl|apply zf_ rfl|(apply zd_ rfl<;>intro ht<;>try omega)|((first|apply zr_|apply zk_|apply ze_|apply zq_|(apply zG<;>intro ht));all_goals try simp (disch:=first|omega|(simp only [lens,z6,z7,zg,z8,zh,zi,lQt,lQd,List.length_replicate,lQm];first|done|omega)) only [go_sem,q0,q1,q5,hgi,hal,c41,c42,cl,r2,hi',c1',c2']))
     exact⟨m-1,by omega,i+1,by omega,hst,by simp⟩
  ·rw [List.take_of_length_le (by omega)]at hN
   rw [hN,Bool.false_or]
   have hi':¬(i:Int)<L.length:=by omega
   by_cases c:n<L.length
   ·rw [decide_eq_true c]
    have c':(L.length:Int)>n:=c
    repeat' (first|apply zs_|apply zb_|apply zc_|apply zt_ rfl|apply zf_ rfl|(apply zd_ rfl<;>intro ht<;>try omega)|((first|apply zr_|apply zk_|apply ze_|apply zq_|(apply zG<;>intro ht));all_goals try simp (disch:=first|omega|(simp only [lens,z6,z7,zg,z8,zh,zi,lQt,lQd,List.length_replicate,lQm];first|done|omega)) only [go_sem,q0,q1,q5,r1,hi',c']))
    exact DownV.same hw z1v
   ·rw [decide_eq_false c]
    have c':¬(L.length:Int)>n:=c
    repeat' (first|apply zs_|apply zb_|apply zc_|apply zt_ rfl|apply zf_ rfl|(apply zd_ rfl<;>intro ht<;>try omega)|((first|apply zr_|apply zk_|apply ze_|apply zq_|(apply zG<;>intro ht));all_goals try simp (disch:=first|omega|(simp only [lens,z6,z7,zg,z8,zh,zi,lQt,lQd,List.length_replicate,lQm];first|done|omega)) only [go_sem,q0,q1,q5,r1,hi',c']))
    exact DownV.same hw z1v
theorem CirN.app{O:Store}{p:AV}(h:CirN O p)(y:Store):CirN (O++y) p:=by
 rcases h with rfl| ⟨r,rfl,h⟩
 ·exact .inl rfl
 ·exact .inr ⟨r,rfl,by rw [gapp (slen h)];exact h⟩
theorem z7c{O:Store}{p:AV}(h:CirN O p):ACallsTo TC 62 [p] O (.bool true) O:=by
 refine ACallsTo.of_body q2qok (by simp) fun hw _=> ?_
 rcases h with rfl| ⟨r,rfl,h⟩
 ·repeat' (first|apply zs_|apply zb_|apply zc_|apply zt_ rfl|apply zf_ rfl|(apply zd_ rfl<;>intro ht<;>try omega)|((first|apply zr_|apply zk_|apply ze_|apply zq_|(apply zG<;>intro ht));all_goals try simp (disch:=first|omega|(simp only [lens,z6,z7,zg,z8,zh,zi,lQt,lQd,List.length_replicate,lQm];first|done|omega)) only [go_sem,Nat.add_zero]))
  exact DownV.same hw z1v
 ·repeat' (first|apply zs_|apply zb_|apply zc_|apply zt_ rfl|apply zf_ rfl|(apply zd_ rfl<;>intro ht<;>try omega)|((first|apply zr_|apply zk_|apply ze_|apply zq_|(apply zG<;>intro ht));all_goals try simp (disch:=first|omega|(simp only [lens,z6,z7,zg,z8,zh,zi,lQt,lQd,List.length_replicate,lQm];first|done|omega)) only [go_sem,h]))
  exact DownV.same hw z1v
theorem cis_n{O:Store}{p:AV}(h:CirN O p):ACallsTo TC 63 [p,.int .i64 0] O (.bool false) O:=by
 refine ACallsTo.of_body q2rok (by simp) fun hw _=> ?_
 rcases h with rfl| ⟨r,rfl,h⟩
 ·repeat' (first|apply zs_|apply zb_|apply zc_|apply zt_ rfl|apply zf_ rfl|(apply zd_ rfl<;>intro ht<;>try omega)|((first|apply zr_|apply zk_|apply ze_|apply zq_|(apply zG<;>intro ht));all_goals try simp (disch:=first|omega|(simp only [lens,z6,z7,zg,z8,zh,zi,lQt,lQd,List.length_replicate,lQm];first|done|omega)) only [go_sem,Nat.add_zero]))
  exact DownV.same hw z1v
 ·repeat' (first|apply zs_|apply zb_|apply zc_|apply zt_ rfl|apply zf_ rfl|(apply zd_ rfl<;>intro ht<;>try omega)|((first|apply zr_|apply zk_|apply ze_|apply zq_|(apply zG<;>intro ht));all_goals try simp (disch:=first|omega|(simp only [lens,z6,z7,zg,z8,zh,zi,lQt,lQd,List.length_replicate,lQm];first|done|omega)) only [go_sem,h]))
  exact DownV.same hw z1v
theorem zn9{O:Store}{p:AV}(h:CirN O p)(i k:Int):ACallsTo TC 20 [p,.int .i64 i,.int .i64 k] O (.tup [.int .i64 0,.int .i64 1]) O:=by
 have hN:=z7c h
 refine ACallsTo.of_body q2hok (by simp) fun hw _=> ?_
 repeat' (first|apply zs_|apply zb_|apply zc_|apply zt_ rfl|apply zf_ rfl|(apply zd_ rfl<;>intro ht<;>try omega)|((first|apply zr_|apply zk_|apply ze_|apply zq_|(apply callW.mk_pu;(first|exact(fun _=>hN)))|(apply callW.za;(first|exact(hN)))|(apply zG<;>intro ht));all_goals try simp (disch:=first|omega|(simp only [lens,z6,z7,zg,z8,zh,zi,lQt,lQd,List.length_replicate,lQm];first|done|omega)) only [go_sem,Nat.add_zero]))
 exact DownV.same hw (by simp [RL,RLs])
theorem zn5{O:Store}{p:AV}(h:CirN O p)(cs:List AV)(hl:cs.length=36):ACallsTo TC 21 [p,.int .i64 0,.agg cs] O (.int .i64 0) O:=by
 have hN:=fun y=>cis_n (h.app y)
 refine ACallsTo.of_body q2iok (by simp) fun hw _=> ?_
 repeat' (first|apply zs_|apply zb_|apply zc_|apply zt_ rfl|apply zf_ rfl|(apply zd_ rfl<;>intro ht<;>try omega)|((first|apply zr_|apply zk_|apply ze_|apply zq_|(apply callW.mk_pu;(first|exact(fun _=>hN _)))|(apply callW.za;(first|exact(hN _)))|(apply zG<;>intro ht));all_goals try simp (disch:=first|omega|(simp only [lens,z6,z7,zg,z8,zh,zi,lQt,lQd,List.length_replicate,lQm];first|done|omega)) only [go_sem,hl]))
 exact DownV.pure hw rl_i
theorem zne{O:Store}{p:AV}(h:CirN O p):ACallsTo TC 22 [p,.int .i64 0,.int .i64 1] O (.int .i64 1) O:=by
 have hN:=z7c h
 refine ACallsTo.of_body q2jok (by simp) fun hw _=> ?_
 repeat' (first|apply zs_|apply zb_|apply zc_|apply zt_ rfl|apply zf_ rfl|(apply zd_ rfl<;>intro ht<;>try omega)|((first|apply zr_|apply zk_|apply ze_|apply zq_|(apply callW.mk_pu;(first|exact(fun _=>hN)))|(apply callW.za;(first|exact(hN)))|(apply zG<;>intro ht));all_goals try simp (disch:=first|omega|(simp only [lens,z6,z7,zg,z8,zh,zi,lQt,lQd,List.length_replicate,lQm];first|done|omega)) only [go_sem,Nat.add_zero]))
 exact DownV.same hw rl_i
theorem zn0{O:Store}{p:AV}(h:CirN O p):ACallsTo TC 23 [p,.int .i64 0] O (.int .i64 1) O:=by
 have hN:=z7c h
 refine ACallsTo.of_body q2kok (by simp) fun hw _=> ?_
 repeat' (first|apply zs_|apply zb_|apply zc_|apply zt_ rfl|apply zf_ rfl|(apply zd_ rfl<;>intro ht<;>try omega)|((first|apply zr_|apply zk_|apply ze_|apply zq_|(apply callW.mk_pu;(first|exact(fun _=>hN)))|(apply callW.za;(first|exact(hN)))|(apply zG<;>intro ht));all_goals try simp (disch:=first|omega|(simp only [lens,z6,z7,zg,z8,zh,zi,lQt,lQd,List.length_replicate,lQm];first|done|omega)) only [go_sem,Nat.add_zero]))
 exact DownV.same hw rl_i
theorem zn2{O:Store}{p:AV}(h:CirN O p):ACallsTo TC 24 [p,.int .i64 0] O (.int .i64 1) O:=by
 have hN:=z7c h
 refine ACallsTo.of_body q2lok (by simp) fun hw _=> ?_
 repeat' (first|apply zs_|apply zb_|apply zc_|apply zt_ rfl|apply zf_ rfl|(apply zd_ rfl<;>intro ht<;>try omega)|((first|apply zr_|apply zk_|apply ze_|apply zq_|(apply callW.mk_pu;(first|exact(fun _=>hN)))|(apply callW.za;(first|exact(hN)))|(apply zG<;>intro ht));all_goals try simp (disch:=first|omega|(simp only [lens,z6,z7,zg,z8,zh,zi,lQt,lQd,List.length_replicate,lQm];first|done|omega)) only [go_sem,Nat.add_zero]))
 exact DownV.same hw rl_i
theorem zn1{O:Store}{p:AV}(h:CirN O p):ACallsTo TC 25 [p,.int .i64 0] O (.int .i64 1) O:=by
 have hN:=z7c h
 refine ACallsTo.of_body q2mok (by simp) fun hw _=> ?_
 repeat' (first|apply zs_|apply zb_|apply zc_|apply zt_ rfl|apply zf_ rfl|(apply zd_ rfl<;>intro ht<;>try omega)|((first|apply zr_|apply zk_|apply ze_|apply zq_|(apply callW.mk_pu;(first|exact(fun _=>hN)))|(apply callW.za;(first|exact(hN)))|(apply zG<;>intro ht));all_goals try simp (disch:=first|omega|(simp only [lens,z6,z7,zg,z8,zh,zi,lQt,lQd,List.length_replicate,lQm];first|done|omega)) only [go_sem,Nat.add_zero]))
 exact DownV.same hw rl_i
theorem zn7{O:Store}{p:AV}(h:CirN O p):ACallsTo TC 26 [p] O (.int .i64 0) O:=by
 have hN:=z7c h
 refine ACallsTo.of_body q2nok (by simp) fun hw _=> ?_
 repeat' (first|apply zs_|apply zb_|apply zc_|apply zt_ rfl|apply zf_ rfl|(apply zd_ rfl<;>intro ht<;>try omega)|((first|apply zr_|apply zk_|apply ze_|apply zq_|(apply callW.mk_pu;(first|exact(fun _=>hN)))|(apply callW.za;(first|exact(hN)))|(apply zG<;>intro ht));all_goals try simp (disch:=first|omega|(simp only [lens,z6,z7,zg,z8,zh,zi,lQt,lQd,List.length_replicate,lQm];first|done|omega)) only [go_sem,Nat.add_zero]))
 exact DownV.same hw rl_i
theorem znd{O:Store}{p:AV}(h:CirN O p):ACallsTo TC 27 [p,.int .i64 0] O .nilp O:=by
 have hN:=cis_n h
 refine ACallsTo.of_body q2ook (by simp) fun hw _=> ?_
 repeat' (first|apply zs_|apply zb_|apply zc_|apply zt_ rfl|apply zf_ rfl|(apply zd_ rfl<;>intro ht<;>try omega)|((first|apply zr_|apply zk_|apply ze_|apply zq_|(apply callW.mk_pu;(first|exact(fun _=>hN)))|(apply callW.za;(first|exact(hN)))|(apply zG<;>intro ht));all_goals try simp (disch:=first|omega|(simp only [lens,z6,z7,zg,z8,zh,zi,lQt,lQd,List.length_replicate,lQm];first|done|omega)) only [go_sem,Nat.add_zero]))
 exact DownV.same hw (by simp [RL])
theorem zl2(A:ActV8)(hA:A.Ok):ACallsTo TC 4 [.agg (z22 A)] [] (.bool true) []:=by
 have hm:maxLen<9223372036854775808:=by decide
 have cl:=zbs A
 have ca:=zlv A
 have c43:=zlt A
 have c44:=zlu A
 have cr:=zlx A
 have rl:=z7 A.q.n A.q.r A.q.i A.q.s A.x
 have hG:=fun O=>zla O [A] 1 (.vsl 45 [z22 A] true) (.inr ⟨true,rfl⟩) (fun B hB=>by rw [List.mem_singleton.1 hB];exact hA) (by simp)
 refine ACallsTo.of_body q2eok (by simp) fun hw _=> ?_
 by_cases hg:zcm [A] 1=true
 ·rw [hg]at hG
  repeat' (first|apply zs_|apply zb_|apply zc_|apply zt_ rfl|apply zf_ rfl|(apply zd_ rfl<;>intro ht<;>try omega)|((first|apply zr_|apply zk_|apply ze_|apply zq_|(apply callW.mk_pu;(first|exact(fun _=>hG _)|exact(fun _=>zbe _)))|(apply callW.za;(first|exact(hG _)|exact(zbe _)))|(apply zG<;>intro ht));all_goals try simp (disch:=first|omega|(simp only [lens,z6,z7,zg,z8,zh,zi,lQt,lQd,List.length_replicate,lQm];first|done|omega)) only [go_sem,cl,ca]))
  exact DownV.pure (τ:=[]) hw z1v
 ·rw [Bool.eq_false_iff.2 hg]at hG
  generalize hcs:z22 A=cs at*
  repeat' (first|apply zs_|apply zb_|apply zc_|apply zt_ rfl|apply zf_ rfl|(apply zd_ rfl<;>intro ht<;>try omega)|((first|apply zr_|apply zk_|apply ze_|apply zq_|(apply callW.mk_pu;(first|exact(fun _=>hG _)))|(apply callW.za;(first|exact(hG _)))|(apply zG<;>intro ht));all_goals try simp (disch:=first|omega|(simp only [lens,z6,z7,zg,z8,zh,zi,lQt,lQd,List.length_replicate,lQm];first|done|omega)) only [go_sem,cl,ca]))
  refine zW.loop (fun m J O'=>∃(i:Nat) (p:AV) (y:Store),m+i=2/\ O'=[some [cs]]++y/\ CirN O' p/\ J 1=.ptr 0 0 0/\ J 3=p/\ J 4=.int .i64 i) 2 ?_ ?_
  ·exact⟨0,.nilp,[],by omega,by simp,.inl rfl,by simp (disch:=first|omega|(simp only [lens,z6,z7,zg,z8,zh,zi,lQt,lQd,List.length_replicate,lQm];first|done|omega)) only [go_sem],by simp (disch:=first|omega|(simp only [lens,z6,z7,zg,z8,zh,zi,lQt,lQd,List.length_replicate,lQm];first|done|omega)) only [go_sem],by simp (disch:=first|omega|(simp only [lens,z6,z7,zg,z8,zh,zi,lQt,lQd,List.length_replicate,lQm];first|done|omega)) only [go_sem];try rfl⟩
  ·rintro m J O' ⟨i,p,y,hm,rfl,hN,q1,q3,q4⟩
   have g0:([some [cs]]++y)[0]? =some (some [cs]):=rfl
   by_cases hi:i<2
   ·have hi':(i:Int)<2:=by omega
    have h1:=zn9 hN A.n A.m
    have h2:=zn5 hN _ rl
    have h3:=zne hN
    have h4:=zn0 hN
    have h5:=zn2 hN
    have h6:=zn1 hN
    have h7:=zn7 hN
    have h8:=znd hN
    have hN2:CirN (([some [cs]]++y)++ [some [[.nilsl,.nilp]]]) (.ptr ([some [cs]]++y).length 0 0):=.inr ⟨_,rfl,by rw [z16 (Nat.le_refl _),Nat.sub_self];rfl⟩
    have hst:(([some [cs]]++y)++ [some [[AV.nilsl,AV.nilp]]]:Store)=some [cs]::(y++ [some [[.nilsl,.nilp]]]):=by simp
    generalize hσ:([some [cs]]++y:Store)=O at*
    repeat' (first|apply zs_|apply zb_|apply zc_|apply zt_ rfl|apply zf_ rfl|(apply zd_ rfl<;>intro ht<;>try omega)|((first|apply zr_|apply zk_|apply ze_|apply zq_|(apply callW.mk_pu;(first|exact(fun _=>h1)|exact(fun _=>h2)|exact(fun _=>h3)|exact(fun _=>h4)|exact(fun _=>h5)|exact(fun _=>h6)|exact(fun _=>h7)|exact(fun _=>h8)))|(apply callW.za;(first|exact(h1)|exact(h2)|exact(h3)|exact(h4)|exact(h5)|exact(h6)|exact(h7)|exact(h8)))|(apply zG<;>intro ht));all_goals try simp (disch:=first|omega|(simp only [lens,z6,z7,zg,z8,zh,zi,lQt,lQd,List.length_replicate,lQm];first|done|omega)) only [go_sem,q1,q3,q4,g0,cl,ca,c43,c44,cr,rl,hi']))
    exact⟨m-1,by omega,i+1,_,y++ [some [[.nilsl,.nilp]]],by omega,hst,hN2,by simp⟩
   ·have hi':¬(i:Int)<2:=by omega
    repeat' (first|apply zs_|apply zb_|apply zc_|apply zt_ rfl|apply zf_ rfl|(apply zd_ rfl<;>intro ht<;>try omega)|((first|apply zr_|apply zk_|apply ze_|apply zq_|(apply callW.mk_pu;(first|exact(fun _=>zbe _)))|(apply callW.za;(first|exact(zbe _)))|(apply zG<;>intro ht));all_goals try simp (disch:=first|omega|(simp only [lens,z6,z7,zg,z8,zh,zi,lQt,lQd,List.length_replicate,lQm];first|done|omega)) only [go_sem,q1,q3,q4,hi']))
    exact DownV.pure (τ:=[]) hw z1v
theorem CircleNone_law(avs:List AV)(h:z7w [z84] avs):ACallsTo TC 4 avs [] (.bool true) []:=by
 simp only [z7w]at h
 obtain⟨a,r,rfl,h1,rfl⟩:=h
 simp only [z84,Sh]at h1
 obtain⟨cs,rfl,h2⟩:=h1
 obtain⟨A,rfl,hA⟩:=zlw (cs:=cs) (by simpa only [z84,ShC]using h2)
 exact zl2 A hA
end
end Am
end Go.Proofs.YtcdcmgjnbjoajaaGreatDoor
section
/- What a law with the laid tables of sha begins with. -/
namespace Go.Proofs.YtcdcmgjnbjoajaaGreatDoor.LawDoor
open Go.ChangeShapes Go.WideShapes Go.ChangeAt Go.RowKit
theorem own:ownKnob Tryz.prog.godebug=none:=by kernel_rfl
theorem zqp:laidOutB Tryz.prog=true:=by kernel_rfl
def z8t:List (String × DataW Unit):=[("speculum/sha.first",Rows.laid_speculum_sha_first),("speculum/sha.rounds",Rows.laid_speculum_sha_rounds)]
set_option maxRecDepth 100000
theorem zny(os:Os)(args:Array Value):laidMetH Tryz.prog z8t ((World.doorLaid Tryz.prog 400 os).forCall (fun _ _=>0) ⟨#[],args,[]⟩).memory:=
 laidMetH_of_parts3 (fuel:=8) (laidMet_of_run' 8 (by kernel_rfl) (by kernel_rfl)) (by kernel_rfl) (by kernel_rfl)
theorem rel_of{W:World}(h:laidMetH Tryz.prog z8t W):Am.Rel Am.TC [] [] W:=by
 rw [MakeChecks.laidMetH_plain _ _ _ (by kernel_rfl)]at h
 obtain⟨ps,⟨g0,t0,cs0,f0,p0,q0,hg0,ht0,hv0,hd0,⟨g1,t1,cs1,f1,p1,q1,hg1,ht1,hv1,hd1,_,_⟩,_⟩,_,_⟩:=h
 have v0:=Am.vp_of_var (P:=Tryz.prog) (n:= "speculum/sha.first") (g:=0) (t:=178) (e:=177) (m:=8) (k:=.u32) Am.shaFirst (by kernel_rfl) (by kernel_rfl) (by kernel_rfl) (by kernel_rfl) (by kernel_rfl) (by kernel_rfl) hg0 ht0 hv0 hd0
 have v1:=Am.vp_of_var (P:=Tryz.prog) (n:= "speculum/sha.rounds") (g:=1) (t:=183) (e:=177) (m:=64) (k:=.u32) Am.shaRounds (by kernel_rfl) (by kernel_rfl) (by kernel_rfl) (by kernel_rfl) (by kernel_rfl) (by kernel_rfl) hg1 ht1 hv1 hd1
 refine⟨rfl,fun r o h=>by simp at h,fun r h=>by simp at h,fun r r' pl pl' h=>by simp at h,fun g cs h=> ?_⟩
 simp only [Am.TC]at h
 split at h
 ·rename_i hg;subst hg;cases h;exact v0
 ·split at h
  ·rename_i hg;subst hg;cases h;exact v1
  ·cases h
end Go.Proofs.YtcdcmgjnbjoajaaGreatDoor.LawDoor
end
