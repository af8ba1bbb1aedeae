import Derived.Test.YtcdcmgjnbjoajaaGreatDoorK447132241
import Derived.Test.YtcdcmgjnbjoajaaGreatDoorK221fe5c7f
import Derived.Test.YtcdcmgjnbjoajaaGreatDoorK3698db4fb
set_option linter.unusedSimpArgs false
set_option linter.unusedVariables false
open Nat (reduceEqDiff reduceAdd reduceMul reduceSub reduceLeDiff)
open Int (reduceToNat reducePow)
open Nat renaming reduceEqDiff -> nQ1, reduceBEq -> nQ2, reduceAdd -> nQ3, reduceMul -> nQ4, reduceSub -> nQ5, reduceLeDiff -> nQ6
open Int renaming reduceToNat -> nQ7, reducePow -> nQ8
open List renaming length_reverse -> lQr, length_map -> lQm, length_take -> lQt, length_drop -> lQd, length_set -> lQs
set_option maxHeartbeats 16000000
attribute [local go_sem_proc] Nat.reduceEqDiff Nat.reduceBEq Nat.reduceAdd Nat.reduceMul Nat.reduceSub Nat.reduceLeDiff Int.reduceToNat Int.reducePow
namespace Go.Proofs.YtcdcmgjnbjoajaaGreatDoor
namespace Am
section
theorem zhb{key:Hash}{P:List Hdr}{q:Hdr}(h:addC key P q=2 \/addC key P q=3):z1j key q.n q.i q.r q.s q.p=0/\ isP P q.n q.r=false/\ P.length<16:=by
 unfold addC at h
 by_cases h0:z1j key q.n q.i q.r q.s q.p ≠ 0
 ·rw [if_pos h0]at h;omega
 rw [if_neg h0]at h
 cases h1:isP P q.n q.r with
 |true=>rw [h1,if_pos rfl]at h;omega
 |false=>
  rw [h1,if_neg (by simp)]at h
  by_cases h2:16<=P.length
  ·rw [if_pos h2]at h;omega
  ·exact⟨by omega,rfl,by omega⟩
theorem zoh{key:Hash}{P:List Hdr}(q:Hdr)(h:P.length<=16):(addL key P q).length<=16:=by
 unfold addL
 by_cases h1:addC key P q=2 \/addC key P q=3
 ·rw [if_pos h1,z86];have:=(zhb h1).2.2;omega
 ·rw [if_neg h1];exact h
theorem insL_mem{P:List Hdr}{q w:Hdr}:w ∈ insL P q ↔ w=q \/w ∈ P:=by
 unfold insL
 rw [List.mem_append,List.mem_cons]
 constructor
 ·rintro(h|h|h)
  ·exact .inr (List.mem_of_mem_take h)
  ·exact .inl h
  ·exact .inr (List.mem_of_mem_drop h)
 ·rintro(h|h)
  ·exact .inr (.inl h)
  ·rw [<-List.take_append_drop (lbP P q.n q.r) P]at h
   rcases List.mem_append.1 h with h1|h1
   ·exact .inl h1
   ·exact .inr (.inr h1)
theorem zhe{key:Hash}{P:List Hdr}{q w:Hdr}(h:w ∈ addL key P q):w ∈ P \/(w=q/\ z1j key q.n q.i q.r q.s q.p=0):=by
 unfold addL at h
 by_cases h1:addC key P q=2 \/addC key P q=3
 ·rw [if_pos h1]at h
  rcases insL_mem.1 h with h2|h2
  ·exact .inr ⟨h2,(zhb h1).1⟩
  ·exact .inl h2
 ·rw [if_neg h1]at h;exact .inl h
structure POk(key:Hash)(P:List Hdr):Prop where
 sort:PSort P
 len:P.length<=16
 chk:∀q ∈ P,z1j key q.n q.i q.r q.s q.p=0
theorem POk.nil(key:Hash):POk key []:=⟨PSort.nil,by simp,by simp⟩
theorem POk.add{key:Hash}{P:List Hdr}(h:POk key P)(q:Hdr):POk key (addL key P q):=
 ⟨zoj h.sort q,zoh q h.len,fun w hw=>by rcases zhe hw with h1| ⟨rfl,h1⟩;exact h.chk w h1;exact h1⟩
theorem POk.path{key:Hash}{P:List Hdr}(h:POk key P):∀q ∈ P,q.p.length<1000000:=fun q hq=>by have:=zdy (h.chk q hq);omega
theorem zb6{key:Hash}{q:Hdr}(h:z1j key q.n q.i q.r q.s q.p=0):q.p ≠ []:=fun e=>by have:=zdy h;rw [e]at this;simp at this
theorem PoIs.has{O:Store}{p:Nat}{key:Hash}{P:List Hdr}{own:List Nat}(h:PoIs O p key P own)(hs:PSort P)(hl:P.length<1000000)(m:Int)(k:Hash):ACallsTo TC 30 [.ptr p 0 0,.agg (.int .i64 m::hc k)] O (.bool (isP P m k)) O:=by
 obtain⟨v,sid,rfl,hp,hr1,hn⟩:=h
 exact zvj O p key v sid P m k hp hr1 hs hl
attribute [local irreducible] ACallsTo ACallsP
attribute [local irreducible] z10a
end
section
theorem Fr.dj{O O':Store}{o1 o1' o2:List Nat}(h:Fr O O' o1 o1')(hl:∀j,j ∈ o2->j<O.length)(hd:∀j,j ∈ o1->j ∉ o2):∀j,j ∈ o1'->j ∉ o2:=fun j hj h2=>by
 rcases h.new j hj with h3|h3
 ·exact hd j h3 h2
 ·have:=hl j h2;omega
theorem PoIs.fr{O O':Store}{p:Nat}{key:Hash}{P:List Hdr}{o ox ox':List Nat}(h:PoIs O p key P o)(hf:Fr O O' ox ox')(hd:∀j,j ∈ ox->j ∉ o):PoIs O' p key P o:=
 h.keep fun j hj=>hf.st j (h.lt hj) fun e=>hd j e hj
theorem PoR.fr{O O':Store}{p:Nat}{key:Hash}{P:List Hdr}{o ox ox':List Nat}(h:PoR O p key P o)(hf:Fr O O' ox ox')(hd:∀j,j ∈ ox->j ∉ o):PoR O' p key P o:=
 h.keep fun j hj=>hf.st j (h.lt hj) fun e=>hd j e hj
structure PlS(O:Store)(key:Hash)(P:List Hdr)(raw tr:List AV)(pp rp:Nat)(o1 o2:List Nat):Prop where
 p:PoIs O pp key P o1
 r:PoR O rp key P o2
 d:∀j,j ∈ o1->j ∉ o2
 n0:0 ∉ o1/\ 0 ∉ o2
 n1:1 ∉ o1/\ 1 ∉ o2
 g0:O[0]? =some (some [raw])
 g1:O[1]? =some (some [tr])
 ok:POk key P
theorem PlS.ext{O O':Store}{key:Hash}{P:List Hdr}{raw tr:List AV}{pp rp:Nat}{o1 o2:List Nat}(h:PlS O key P raw tr pp rp o1 o2)(he:Ext O O'):PlS O' key P raw tr pp rp o1 o2:=by
 have g0:=h.g0
 have g1:=h.g1
 refine⟨h.p.ext he,h.r.ext he,h.d,h.n0,h.n1,?_,?_,h.ok⟩
 ·obtain⟨y,rfl⟩:=he;rw [gapp (slen g0)];exact g0
 ·obtain⟨y,rfl⟩:=he;rw [gapp (slen g1)];exact g1
theorem PlS.other{O O':Store}{key:Hash}{P:List Hdr}{raw tr:List AV}{pp rp:Nat}{o1 o2 ox ox':List Nat}(h:PlS O key P raw tr pp rp o1 o2)(hf:Fr O O' ox ox')(h1:∀j,j ∈ ox->j ∉ o1)(h2:∀j,j ∈ ox->j ∉ o2)(h3:0 ∉ ox)(h4:1 ∉ ox):PlS O' key P raw tr pp rp o1 o2:=
 ⟨h.p.fr hf h1,h.r.fr hf h2,h.d,h.n0,h.n1,hf.get h.g0 h3,hf.get h.g1 h4,h.ok⟩
theorem PlS.add{O O2 O3:Store}{key:Hash}{P:List Hdr}{raw tr:List AV}{pp rp:Nat}{o1 o2 o1' o2':List Nat}{q:Hdr}(h:PlS O key P raw tr pp rp o1 o2)(f1:Fr O O2 o1 o1')(P1:PoIs O2 pp key (addL key P q) o1')(f2:Fr O2 O3 o2 o2')(R1:PoR O3 rp key (addL key P q) o2'):
  PlS O3 key (addL key P q) raw tr pp rp o1' o2'/\ (∀j o,O[j]? =some o->j ∉ o1->j ∉ o2->O3[j]? =some o/\ j ∉ o1'/\ j ∉ o2'):=by
 have d1:∀j,j ∈ o1'->j ∉ o2:=f1.dj (fun j hj=>h.r.lt hj) h.d
 have d2:∀j,j ∈ o2'->j ∉ o1':=f2.dj (fun j hj=>P1.lt hj) fun j hj hn=>d1 j hn hj
 have oth:∀j o,O[j]? =some o->j ∉ o1->j ∉ o2->O3[j]? =some o/\ j ∉ o1'/\ j ∉ o2':=fun j o hj h1 h2=>by
  have k1:=f1.nin (slen hj) h1
  have e1:=f1.get hj h1
  exact⟨f2.get e1 h2,k1,f2.nin (slen e1) h2⟩
 obtain⟨a0,b0,c0⟩:=oth 0 _ h.g0 h.n0.1 h.n0.2
 obtain⟨a1,b1,c1⟩:=oth 1 _ h.g1 h.n1.1 h.n1.2
 exact⟨⟨P1.fr f2 fun j hj hn=>d1 j hn hj,R1,fun j hj hn=>d2 j hn hj,⟨b0,c0⟩,⟨b1,c1⟩,a0,a1,h.ok.add q⟩,oth⟩
abbrev Sn:=Nat × Nat × Nat × Nat
def snC(s:Sn):List AV:=[.int .u8 s.1,.int .u8 s.2.1,.int .u8 s.2.2.1,.int .u8 s.2.2.2]
def sns(L:List Sn):List (List AV):=L.map snC
theorem sns_len(L:List Sn):(sns L).length=L.length:=by simp [sns]
def SnOk(s:Sn):Prop:=s.1<256/\ s.2.1<256/\ s.2.2.1<256/\ s.2.2.2<256
attribute [local irreducible] ACallsTo ACallsP
end
section
def z9v:Ty:=.row [.row [.int .i64,z7e],.row [.int .i64,.str,.sl 32 z7e]]
theorem zzb{a:AV}(h:Sh z9v a):∃(q:Hdr) (x:AV),a=.agg (sgC q.n q.r q.i q.s x)/\ SlV 32 (hr q.p) x/\ (q.p ≠ []->x=zz 32 (hr q.p))/\ q.p.length<=maxLen/\ q.s.length<=maxLen:=by
 simp only [z9v,Sh]at h
 obtain⟨cs,rfl,h⟩:=h
 simp only [z3b,ShC]at h
 obtain⟨A,B,rfl,hA,C,D,rfl,hC,rfl⟩:=h
 obtain⟨A1,A2,rfl,⟨n,rfl,n1,n2⟩,A3,A4,rfl,hA3,rfl⟩:=hA
 obtain⟨C1,C2,rfl,⟨i,rfl,i1,i2⟩,C3,C4,rfl,⟨s,rfl,hs⟩,C5,C6,rfl,hM,rfl⟩:=hC
 obtain⟨r,rfl⟩:=zrw hA3
 obtain⟨l,x,rfl,h3,h4⟩:=hslC_h (by simpa only [ShC]using hM)
 refine⟨⟨n,r,i,s,l⟩,x,by simp [sgC],h3,fun hne=> ?_,h4,hs⟩
 have hne':hr l ≠ []:=fun e=>hne (hr_nil_iff.1 e)
 unfold zz
 rw [if_neg hne']
 rcases h3 with⟨_,e⟩| ⟨ex,rfl⟩
 ·exact absurd e hne'
 ·rcases hM with hM| ⟨es,hM,_⟩
  ·cases hM
  ·cases hM;rfl
def zfx:Ty:=.row [.int .u8,.int .u8,.int .u8,.int .u8]
theorem zzw{cs:List AV}(h:ShC zfx cs):∃s:Sn,cs=snC s/\ SnOk s:=by
 simp only [zfx,ShC,z3b]at h
 obtain⟨A1,B1,rfl,⟨a,rfl,a0,a1⟩,A2,B2,rfl,⟨b,rfl,b0,b1⟩,A3,B3,rfl,⟨c,rfl,c0,c1⟩,A4,B4,rfl,⟨d,rfl,d0,d1⟩,rfl⟩:=h
 simp only [IntKind.min,IntKind.max,IntKind.signed,IntKind.bits]at a0 a1 b0 b1 c0 c1 d0 d1
 simp at a0 a1 b0 b1 c0 c1 d0 d1
 obtain⟨a,rfl⟩:∃k:Nat,a=k:=⟨a.toNat,by omega⟩
 obtain⟨b,rfl⟩:∃k:Nat,b=k:=⟨b.toNat,by omega⟩
 obtain⟨c,rfl⟩:∃k:Nat,c=k:=⟨c.toNat,by omega⟩
 obtain⟨d,rfl⟩:∃k:Nat,d=k:=⟨d.toNat,by omega⟩
 exact⟨(a,b,c,d),rfl,⟨by show a<256;omega,by show b<256;omega,by show c<256;omega,by show d<256;omega⟩⟩
attribute [local irreducible] ACallsTo ACallsP zmh zmi
attribute [local irreducible] z10y
end
section
def z18(P:List Hdr)(n:Int)(r:Hash):Prop:=∃w ∈ P,w.n=n/\ w.r=r
theorem zcy{key:Hash}{P:List Hdr}(q:Hdr)(hP:POk key P)(hq:z1j key q.n q.i q.r q.s q.p=0)(hl:P.length<16):
  addC key P q ≠ 0/\ (addL key P q).length<=P.length+1/\ ∀n r,z18 (addL key P q) n r ↔ z18 P n r \/(q.n=n/\ q.r=r):=by
 cases h1:isP P q.n q.r with
 |true=>
  have hc:addC key P q=1:=by unfold addC;rw [if_neg (by omega),if_pos h1]
  have hL:addL key P q=P:=by unfold addL;rw [hc,if_neg (by omega)]
  rw [hc,hL]
  refine⟨by omega,by omega,fun n r=>⟨.inl,fun h=> ?_⟩⟩
  rcases h with h| ⟨rfl,rfl⟩
  ·exact h
  ·exact(z6k hP.sort _ _).1 h1
 |false=>
  have hc:addC key P q=if z2q (insL P q) (lbP P q.n q.r) q.n then 3 else 2:=by unfold addC;rw [if_neg (by omega),if_neg (by rw [h1];simp),if_neg (by omega)]
  have hL:addL key P q=insL P q:=by unfold addL;rw [hc];split<;>simp
  rw [hL]
  refine⟨by rw [hc];split<;>omega,by rw [z86];omega,fun n r=>⟨fun⟨w,hw,h2⟩=> ?_,fun h=> ?_⟩⟩
  ·rcases insL_mem.1 hw with rfl|h3
   ·exact .inr h2
   ·exact .inl ⟨w,h3,h2⟩
  ·rcases h with⟨w,hw,h2⟩|h2
   ·exact⟨w,insL_mem.2 (.inr hw),h2⟩
   ·exact⟨q,insL_mem.2 (.inl rfl),h2⟩
theorem PSort.head{q:Hdr}{P:List Hdr}(h:PSort (q::P)){w:Hdr}(hw:w ∈ P):poI q.n q.r w.n w.r<0:=by
 obtain⟨j,hj,rfl⟩:=List.getElem_of_mem hw
 exact h 0 (j+1) (by simp) (by simp;omega) (by omega)
end
section
set_option maxRecDepth 10000
def q1wr0:yW:=[
 yI 3 (.box (.t 1)),
 yK 4 .i64 0]
def q1wr1:yW:=[
 yM 6 0,
 yC 7 111 6,
 yM 5 7]
def q1wr2:yW:=[
 yK 4 .i64 1]
def q1wc3:yX:=yq q1wr2 .ret
def q1wr4:yW:=[
 yF 9 0 3,
 yL 10 false 1 9,
 yJ 11 .lss 10 .i64 0,
 yM 12 11,
 yT 13 12 false 0 3,
 ⟨some 14,some (12,false),.rd,.load false 1 (.t 13)⟩,
 yV 15 12 false 0,
 yG 16 12 false (.nilc (.t 15)),
 yT 17 12 false 0 16,
 ⟨some 18,some (12,false),.rd,.load false 1 (.t 17)⟩,
 yG 19 12 false (.bin .geq .none (.t 14) (.t 18)),
 yP 20 12 19,
 yM 21 20,
 yT 22 21 false 1 3,
 yU 23 21 false false 1 22,
 yG 24 21 false (.bin .lss .none (.t 23) (.v (.int .i64 0))),
 yP 25 21 24,
 yM 26 25,
 yT 27 26 false 1 3,
 ⟨some 28,some (26,false),.rd,.load false 1 (.t 27)⟩,
 yV 29 26 false 0,
 yG 30 26 false (.nilc (.t 29)),
 yT 31 26 false 0 30,
 ⟨some 32,some (26,false),.rd,.load false 1 (.t 31)⟩,
 yG 33 26 false (.bin .geq .none (.t 28) (.t 32)),
 yP 34 26 33,
 yM 35 34,
 yT 36 35 false 0 3,
 ⟨some 37,some (35,false),.rd,.load false 1 (.t 36)⟩,
 yT 38 35 false 1 3,
 ⟨some 39,some (35,false),.rd,.load false 1 (.t 38)⟩,
 yG 40 35 false (.bin .eql .none (.t 37) (.t 39)),
 yP 41 35 40,
 yM 8 41]
def q1wr5:yW:=[
 yK 4 .i64 2]
def q1wc6:yX:=yq q1wr5 .ret
def q1wr7:yW:=[
 yF 43 2 3,
 yL 44 false 1 43,
 yI 45 (.lenStr (.t 44)),
 yJ 46 .gtr 45 .i64 65536,
 yM 42 46]
def q1wr8:yW:=[
 yK 4 .i64 3]
def q1wc9:yX:=yq q1wr8 .ret
def q1wr10:yW:=[
 yM 48 0,
 yI 49 (.nilc (.t 48)),
 yF 50 1 49,
 yL 51 false 1 50,
 yI 52 (.lenSl (.t 51)),
 yJ 53 .geq 52 .i64 200,
 yM 47 53]
def q1wr11:yW:=[
 yK 4 .i64 60]
def q1wc12:yX:=yq q1wr11 .ret
def q1wc13:yX:=.cond (.t 47) q1wc12 .skip
def q1wc14:yX:=yq q1wr10 q1wc13
def q1wc15:yX:=.cond (.t 42) q1wc9 q1wc14
def q1wc16:yX:=yq q1wr7 q1wc15
def q1wc17:yX:=.cond (.t 8) q1wc6 q1wc16
def q1wc18:yX:=yq q1wr4 q1wc17
def q1wc19:yX:=.cond (.t 5) q1wc3 q1wc18
def q1wc20:yX:=yq q1wr1 q1wc19
def q1wr21:yW:=[
 yM 54 0,
 yM 55 0,
 yI 56 (.nilc (.t 55)),
 yF 57 1 56,
 ⟨some 58,none,.rd,.load false 1 (.t 57)⟩,
 ⟨some 59,none,.rd,.load true 3 (.t 3)⟩,
 yI 60 (.lit 3 [(.t 59)]),
 yI 61 (.app 3 (.t 58) (.t 60)),
 yI 62 (.nilc (.t 54)),
 yF 63 1 62,
 yS 1 63 61]
def q1wr22:yW:=[
 yK 4 .i64 0]
def q1wc23:yX:=yq q1wr22 .ret
def q1wc24:yX:=yq q1wr21 q1wc23
def q1wc25:yX:=.seq (.block 0 q1wc20) q1wc24
def q1wc26:yX:=yq q1wr0 q1wc25
attribute [go_sem] q1wr0 q1wr1 q1wr2 q1wr4 q1wr5 q1wr7 q1wr8 q1wr10 q1wr11 q1wr21 q1wr22
theorem q1wok:cFn TC 66=some (64,[.t 4],q1wc26):=by kernel_rfl
def q1xr0:yW:=[
 yI 4 (.alloc [(.int .i64 0),(.int .i64 0),(.str [])]),
 yK 5 .i64 0]
def q1xr1:yW:=[
 yM 8 0,
 yM 9 1,
 yD 10 112 8 9,
 yM 6 10]
def q1xr2:yW:=[
 yM 11 6,
 yJ 12 .neq 11 .i64 0]
def q1xr3:yW:=[
 yI 13 (.build [(.int .i64 0),(.int .i64 0),(.str [])] []),
 yM 14 6,
 yS 3 4 13,
 yM 5 14]
def q1xc4:yX:=yq q1xr3 .ret
def q1xc5:yX:=.cond (.t 12) q1xc4 .skip
def q1xc6:yX:=yq q1xr2 q1xc5
def q1xc7:yX:=yq q1xr1 q1xc6
def q1xr8:yW:=[
 yM 15 0,
 yI 16 (.nilc (.t 15)),
 yF 17 1 16,
 yL 18 false 1 17,
 yM 19 1,
 yI 20 (.iaSl 3 (.t 18) (.t 19)),
 yL 21 true 3 20,
 yI 7 (.alloc [(.int .i64 0),(.int .i64 0),(.str [])]),
 yS 3 7 21]
def q1xr9:yW:=[
 yM 22 0,
 yM 23 0,
 yI 24 (.nilc (.t 23)),
 yF 25 1 24,
 yL 26 false 1 25,
 yM 27 1,
 yM 28 1,
 yJ 29 .add 28 .i64 1,
 yI 30 (.call (.v (.fn 113 [])) [(.t 26),(.t 27),(.t 29)]),
 yI 31 (.nilc (.t 22)),
 yF 32 1 31,
 yS 1 32 30]
def q1xr10:yW:=[
 yL 33 true 3 7,
 yS 3 4 33,
 yK 5 .i64 0]
def q1xc11:yX:=yq q1xr10 .ret
def q1xc12:yX:=yq q1xr9 q1xc11
def q1xc13:yX:=yq q1xr8 q1xc12
def q1xc14:yX:=.seq q1xc7 q1xc13
def q1xc15:yX:=yq q1xr0 q1xc14
attribute [go_sem] q1xr0 q1xr1 q1xr2 q1xr3 q1xr8 q1xr9 q1xr10
theorem q1xok:cFn TC 67=some (34,[.c 4 true 3,.t 5],q1xc15):=by kernel_rfl
def q1yr0:yW:=[
 yK 4 .i64 0]
def q1yr1:yW:=[
 yM 8 0,
 yM 9 1,
 yD 10 67 8 9,
 yM 7 10,
 yE 11 0 7,
 yE 12 1 7,
 yI 5 (.alloc [(.int .i64 0),(.int .i64 0),(.str [])]),
 yS 3 5 11,
 yM 6 12]
def q1yr2:yW:=[
 yM 13 6,
 yM 4 13]
def q1yc3:yX:=yq q1yr2 .ret
def q1yc4:yX:=yq q1yr1 q1yc3
def q1yc5:yX:=yq q1yr0 q1yc4
attribute [go_sem] q1yr0 q1yr1 q1yr2
theorem q1yok:cFn TC 69=some (14,[.t 4],q1yc5):=by kernel_rfl
def q1zr0:yW:=[
 yK 4 .i64 0]
def q1zr1:yW:=[
 yM 6 0,
 yM 7 1,
 yD 8 112 6 7,
 yM 5 8]
def q1zr2:yW:=[
 yM 9 5,
 yJ 10 .neq 9 .i64 0]
def q1zr3:yW:=[
 yM 11 5,
 yM 4 11]
def q1zc4:yX:=yq q1zr3 .ret
def q1zc5:yX:=.cond (.t 10) q1zc4 .skip
def q1zc6:yX:=yq q1zr2 q1zc5
def q1zc7:yX:=yq q1zr1 q1zc6
def q1zr8:yW:=[
 yM 12 0,
 yM 13 0,
 yI 14 (.nilc (.t 13)),
 yF 15 1 14,
 yL 16 false 1 15,
 yM 17 1,
 yI 18 (.iaSl 3 (.t 16) (.t 17)),
 yL 19 true 3 18,
 yD 20 66 12 19,
 yM 4 20]
def q1zc9:yX:=yq q1zr8 .ret
def q1zc10:yX:=.seq q1zc7 q1zc9
def q1zc11:yX:=yq q1zr0 q1zc10
attribute [go_sem] q1zr0 q1zr1 q1zr2 q1zr3 q1zr8
theorem q1zok:cFn TC 70=some (21,[.t 4],q1zc11):=by kernel_rfl
def q20r0:yW:=[
 yI 2 (.mv (.v .nilsl))]
def q20r1:yW:=[
 yM 3 0,
 yC 4 111 3]
def q20r2:yW:=[
 yI 2 (.mv (.v .nilsl))]
def q20c3:yX:=yq q20r2 .ret
def q20c4:yX:=.cond (.t 4) q20c3 .skip
def q20c5:yX:=yq q20r1 q20c4
def q20r6:yW:=[
 yM 5 0,
 yI 6 (.nilc (.t 5)),
 yF 7 1 6,
 yL 8 false 1 7,
 yI 9 (.app 3 (.v .nilsl) (.t 8)),
 yM 2 9]
def q20c7:yX:=yq q20r6 .ret
def q20c8:yX:=.seq q20c5 q20c7
def q20c9:yX:=yq q20r0 q20c8
attribute [go_sem] q20r0 q20r1 q20r2 q20r6
theorem q20ok:cFn TC 71=some (10,[.t 2],q20c9):=by kernel_rfl
def q21r0:yW:=[
 yI 2 (.mv (.v .nilp)),
 yK 3 .i64 0]
def q21r1:yW:=[
 yM 4 0,
 yJ 5 .lss 4 .i64 1,
 yM 6 5,
 yV 7 6 false 0,
 yG 8 6 false (.bin .gtr .none (.t 7) (.v (.int .i64 32))),
 yP 9 6 8]
def q21r2:yW:=[
 yI 2 (.mv (.v .nilp)),
 yK 3 .i64 2]
def q21c3:yX:=yq q21r2 .ret
def q21c4:yX:=.cond (.t 9) q21c3 .skip
def q21c5:yX:=yq q21r1 q21c4
def q21r6:yW:=[
 yM 10 0,
 yI 11 (.build [(.int .i64 0),.nilsl] [(0,1,(.t 10))]),
 yI 12 (.box (.t 11)),
 yM 2 12,
 yK 3 .i64 0]
def q21c7:yX:=yq q21r6 .ret
def q21c8:yX:=.seq q21c5 q21c7
def q21c9:yX:=yq q21r0 q21c8
attribute [go_sem] q21r0 q21r1 q21r2 q21r6
theorem q21ok:cFn TC 72=some (13,[.t 2,.t 3],q21c9):=by kernel_rfl
def q22r0:yW:=[
 yI 2 (.mv (.v (.bool false)))]
def q22r1:yW:=[
 yM 3 0,
 yI 4 (.bin .eql .ptr (.t 3) (.v .nilp)),
 yM 5 4,
 yV 6 5 false 0,
 yG 7 5 false (.nilc (.t 6)),
 yT 8 5 false 0 7,
 yU 9 5 false false 1 8,
 yG 10 5 false (.bin .eql .none (.t 9) (.v (.int .i64 0))),
 yP 11 5 10,
 yM 2 11]
def q22c2:yX:=yq q22r1 .ret
def q22c3:yX:=yq q22r0 q22c2
attribute [go_sem] q22r0 q22r1
theorem q22ok:cFn TC 111=some (12,[.t 2],q22c3):=by kernel_rfl
def q23r0:yW:=[
 yK 4 .i64 0]
def q23r1:yW:=[
 yM 6 0,
 yC 7 111 6,
 yM 5 7]
def q23r2:yW:=[
 yK 4 .i64 1]
def q23c3:yX:=yq q23r2 .ret
def q23r4:yW:=[
 yM 9 1,
 yJ 10 .lss 9 .i64 0,
 yM 11 10,
 yV 12 11 false 1,
 yV 13 11 false 0,
 yG 14 11 false (.nilc (.t 13)),
 yT 15 11 false 1 14,
 yU 16 11 false false 1 15,
 yG 17 11 false (.lenSl (.t 16)),
 yG 18 11 false (.bin .geq .none (.t 12) (.t 17)),
 yP 19 11 18,
 yM 8 19]
def q23r5:yW:=[
 yK 4 .i64 4]
def q23c6:yX:=yq q23r5 .ret
def q23c7:yX:=.cond (.t 8) q23c6 .skip
def q23c8:yX:=yq q23r4 q23c7
def q23c9:yX:=.cond (.t 5) q23c3 q23c8
def q23c10:yX:=yq q23r1 q23c9
def q23r11:yW:=[
 yK 4 .i64 0]
def q23c12:yX:=yq q23r11 .ret
def q23c13:yX:=.seq (.block 0 q23c10) q23c12
def q23c14:yX:=yq q23r0 q23c13
attribute [go_sem] q23r0 q23r1 q23r2 q23r4 q23r5 q23r11
theorem q23ok:cFn TC 112=some (20,[.t 4],q23c14):=by kernel_rfl
def q24r0:yW:=[
 yI 6 (.mv (.v .nilsl))]
def q24r1:yW:=[
 yM 8 0,
 yM 9 1,
 yM 10 2,
 yM 11 0,
 yI 12 (.lenSl (.t 11)),
 yI 13 (.slice (.sl 3) (.t 8) (some (.t 9)) (some (.t 10)) (some (.t 12)))]
def q24r2:yW:=[
 yM 14 1,
 yM 15 2,
 yB 16 .eql 14 15]
def q24r3:yW:=[
 yM 17 0,
 yM 6 17]
def q24c4:yX:=yq q24r3 .ret
def q24c5:yX:=.cond (.t 16) q24c4 .skip
def q24c6:yX:=yq q24r2 q24c5
def q24r7:yW:=[
 yM 18 0,
 yI 19 (.lenSl (.t 18)),
 yM 7 19]
def q24r8:yW:=[
 yM 20 0,
 yM 21 1,
 yI 22 (.slice (.sl 3) (.t 20) none (some (.t 21)) none),
 yM 23 0,
 yM 24 2,
 yI 25 (.slice (.sl 3) (.t 23) (some (.t 24)) none none),
 yI 26 (.app 3 (.t 22) (.t 25)),
 yM 0 26]
def q24r9:yW:=[
 yM 27 0,
 yM 28 0,
 yI 29 (.lenSl (.t 28)),
 yM 30 7,
 yI 31 (.slice (.sl 3) (.t 27) (some (.t 29)) (some (.t 30)) none),
 ⟨none,none,.no,.clear [(.int .i64 0),(.int .i64 0),(.str [])] (.t 31)⟩]
def q24r10:yW:=[
 yM 32 0,
 yM 6 32]
def zbw:ACode:=.seq (.reg q24r10) .ret
def q24c12:yX:=yq q24r9 zbw
def q24c13:yX:=yq q24r8 q24c12
def q24c14:yX:=yq q24r7 q24c13
def q24c15:yX:=.seq q24c6 q24c14
def q24c16:yX:=yq q24r1 q24c15
def q24c17:yX:=yq q24r0 q24c16
attribute [go_sem] q24r0 q24r1 q24r2 q24r3 q24r7 q24r8 q24r9 q24r10
theorem q24ok:cFn TC 113=some (33,[.t 6],q24c17):=by kernel_rfl
end
section
theorem zW.limitR{C:Ctx}{n k:Nat}{ac:ACode}{Q:AExit->Env->Store->Prop}{J:Env}{O:Store}{t r off len esz:Nat}{o:AObj}(ht:J t=.sl r off len none esz)(hr:O[r]? =some (some o))(h:∀c,len<=c->o.length<=off+c->zW C n k ac Q (upd J t (.sl r off len (some c) esz)) O):zW C n k ac Q J O:=by
 intro code hc Z0 w0 hgl hk Z a w hst hR hE hn
 have hv:=hE t
 rw [ht]at hv
 simp only [VR]at hv
 obtain⟨fl,pl,b,p,cap,hpl,he,hval,hso⟩:=hv
 obtain⟨pl',hpl',hok⟩:=hR.alive r o hr
 rw [hpl]at hpl';cases hpl'
 refine h cap hso.le (by rw [hok.len];exact hso.room rfl) code hc Z0 w0 hgl hk Z a w hst hR (hE.upd_ ?_) hn
 rw [hval]
 simp only [VR]
 exact⟨_,pl,b,p,cap,hpl,he,rfl,hso.le,by simp,by simp,hso.inside,hso.at_,hso.blk,hso.ole⟩
end
section
theorem rl_i{k:Nat}{i:IntKind}{n:Int}:RL k (.int i n):=z1d _ rfl
theorem rl_b{k:Nat}{b:Bool}:RL k (.bool b):=z1d _ rfl
theorem zlx{k:Nat}{O:Store}{i:IntKind}{a b:Int}(hw:Wf O.length O)(hk:k=O.length)(h:a=b):DownV k (.int i a) O (.int i b) O:=by subst h;subst hk;exact DownV.same hw rl_i
structure ML where
 f:Int
 t:Int
 x:List UInt8
 deriving DecidableEq
def mailC(m:ML):List AV:=[.int .i64 m.f,.int .i64 m.t,.str m.x]
def slOf(sid:Option Nat)(n esz:Nat):AV:=match sid with
 |none=> .nilsl
 |some s=> .sl s 0 n none esz
def SlIs(O:Store)(sid:Option Nat)(rows:List (List AV)):Prop:=match sid with
 |none=>rows=[]
 |some s=>∃junk,O[s]? =some (some (rows++junk))
structure LkIs(O:Store)(r:Nat)(nodes:Int)(sid:Option Nat)(L:List ML):Prop where
 obj:O[r]? =some (some [[.int .i64 nodes,slOf sid L.length 3]])
 rows:SlIs O sid (L.map mailC)
 apart:sid ≠ some r
structure FrL(O O':Store)(r:Nat)(sid sid':Option Nat):Prop where
 len:O.length<=O'.length
 keep:∀q,q<O.length->q ≠ r->sid ≠ some q->O'[q]? =O[q]?
 new:∀s,sid'=some s->sid=some s \/O.length<=s
theorem LkIs.lt{O:Store}{r:Nat}{nodes:Int}{sid:Option Nat}{L:List ML}(h:LkIs O r nodes sid L):r<O.length/\ ∀s,sid=some s->s<O.length:=by
 refine⟨(List.getElem?_eq_some_iff.1 h.obj).1,fun s hs=> ?_⟩
 have:=h.rows
 subst hs
 obtain⟨junk,hj⟩:=this
 exact(List.getElem?_eq_some_iff.1 hj).1
theorem z2z(O:Store)(r:Nat)(nodes:Int)(sl:AV)(h:O[r]? =some (some [[.int .i64 nodes,sl]])):ACallsTo TC 111 [.ptr r 0 0] O (.bool (decide (nodes=0))) O:=by
 refine ACallsTo.of_body q22ok (by simp) fun hw _=> ?_
 repeat' (first|apply zs_|apply zb_|apply zc_|apply zt_ rfl|apply zf_ rfl|(apply zd_ rfl<;>intro ht<;>try omega)|((first|apply zr_|apply zk_|apply ze_|apply zq_|(apply zG<;>intro ht));all_goals try simp (disch:=first|omega|(simp only [lens];first|done|omega)) only [go_sem,h]))
 exact DownV.same hw rl_b
def atS(nodes:Int)(n:Nat)(i:Int):Int:=if nodes=0 then 1 else if i<0 \/(n:Int)<=i then 4 else 0
theorem z7h(O:Store)(r:Nat)(nodes i:Int)(sid:Option Nat)(n:Nat)(h:O[r]? =some (some [[.int .i64 nodes,slOf sid n 3]]))(hn:sid=none->n=0):
  ACallsTo TC 112 [.ptr r 0 0,.int .i64 i] O (.int .i64 (atS nodes n i)) O:=by
 refine ACallsTo.of_body q23ok (by simp) fun hw _=> ?_
 unfold atS
 cases sid with
 |none=>
  have hn:=hn rfl
  repeat' (first|apply zs_|apply zb_|apply zc_|apply zt_ rfl|apply zf_ rfl|(apply zd_ rfl<;>intro ht<;>try omega)|((first|apply zr_|apply zk_|apply ze_|apply zq_|(apply callW.mk_pu;(first|exact(fun _=>z2z _ _ _ _ h)))|(apply callW.za;(first|exact(z2z _ _ _ _ h)))|(apply zG<;>intro ht));all_goals try simp (disch:=first|omega|(simp only [lens];first|done|omega)) only [go_sem,h,slOf]))
  all_goals exact zlx hw rfl (by first|rfl|omega|(repeat' split<;>omega))
 |some s=>
  repeat' (first|apply zs_|apply zb_|apply zc_|apply zt_ rfl|apply zf_ rfl|(apply zd_ rfl<;>intro ht<;>try omega)|((first|apply zr_|apply zk_|apply ze_|apply zq_|(apply callW.mk_pu;(first|exact(fun _=>z2z _ _ _ _ h)))|(apply callW.za;(first|exact(z2z _ _ _ _ h)))|(apply zG<;>intro ht));all_goals try simp (disch:=first|omega|(simp only [lens];first|done|omega)) only [go_sem,h,slOf]))
  all_goals exact zlx hw rfl (by first|rfl|omega|(repeat' split<;>omega))
def z1t(nodes:Int)(n:Nat)(m:ML):Int:=
 if nodes=0 then 1 else if m.f<0 \/nodes<=m.f \/m.t<0 \/nodes<=m.t \/m.f=m.t then 2 else if 65536<(m.x.length:Int)then 3 else if 200<=(n:Int)then 60 else 0
theorem LkIs.app{O y:Store}{r:Nat}{nodes:Int}{sid:Option Nat}{L:List ML}(h:LkIs O r nodes sid L):LkIs (O++y) r nodes sid L:=by
 obtain⟨hrl,hsl⟩:=h.lt
 obtain⟨h,hs,hd⟩:=h
 refine⟨by rw [gapp hrl];exact h,?_,hd⟩
 cases sid with
 |none=>exact hs
 |some s=>obtain⟨junk,hj⟩:=hs;exact⟨junk,by rw [gapp (hsl s rfl)];exact hj⟩
theorem FrL.app{O y:Store}{r:Nat}{sid:Option Nat}:FrL O (O++y) r sid sid:=⟨by simp,fun q hq _ _=>gapp hq,fun s hs=> .inl hs⟩
theorem FrL.refl{O:Store}{r:Nat}{sid:Option Nat}:FrL O O r sid sid:=⟨Nat.le_refl _,fun q hq _ _=>rfl,fun s hs=> .inl hs⟩
theorem ztg(O:Store)(r:Nat)(nodes:Int)(m:ML)(h:LkIs O r nodes none []):ACallsP TC 66 [.ptr r 0 0,.agg (mailC m)] O
  (fun v O'=>v=.int .i64 (z1t nodes 0 m)/\ ∃sid',LkIs O' r nodes sid' (if z1t nodes 0 m=0 then [m]else [])/\ FrL O O' r none sid'):=by
 have h0:=h
 obtain⟨hrl,hsl⟩:=h.lt
 obtain⟨h,hs,hd⟩:=h
 refine ACallsP.of_keep q1wok (by simp) ?_
 unfold z1t
 repeat' (first|apply zs_|apply zb_|apply zc_|apply zt_ rfl|apply zf_ rfl|(apply zd_ rfl<;>intro ht<;>try omega)|((first|apply zr_|apply zk_|apply ze_|apply zq_|(apply callW.mk_pu;(first|exact(fun _=>z2z _ _ nodes .nilsl (by simp only [gapp,hrl,h,slOf]))))|(apply callW.za;(first|exact(z2z _ _ nodes .nilsl (by simp only [gapp,hrl,h,slOf]))))|(apply zG<;>intro ht));all_goals try simp (disch:=first|omega|(simp only [lens];first|done|omega)) only [go_sem,h,mailC,slOf]))
 all_goals try exact⟨none,h0.app,FrL.app⟩
 refine⟨some (O.length+1),⟨?_,⟨[],?_⟩,?_⟩,⟨?_,?_,?_⟩⟩
 ·simp (disch:=first|omega|(simp only [lens];first|done|omega)) only [go_sem,slOf,List.length_append]
 ·simp (disch:=first|omega|(simp only [lens];first|done|omega)) only [go_sem,mailC,List.append_assoc,z19]
 ·simp;omega
 ·simp
 ·intro q hq hr _
  have hr':r ≠ q:=fun e=>hr e.symm
  simp (disch:=first|omega|(simp only [lens];first|done|omega)) only [go_sem,List.append_assoc]
 ·intro s hs
  simp at hs;omega
theorem zth(O:Store)(r s:Nat)(nodes:Int)(L:List ML)(m:ML)(h:LkIs O r nodes (some s) L):ACallsP TC 66 [.ptr r 0 0,.agg (mailC m)] O
  (fun v O'=>v=.int .i64 (z1t nodes L.length m)/\ ∃sid',LkIs O' r nodes sid' (if z1t nodes L.length m=0 then L++ [m]else L)/\ FrL O O' r (some s) sid'):=by
 have h0:=h
 obtain⟨hrl,hsl⟩:=h.lt
 obtain⟨h,hs,hd⟩:=h
 have hsl:=hsl s rfl
 obtain⟨junk,hj⟩:=hs
 have hne:s ≠ r:=fun e=>hd (by rw [e])
 have hne2:r ≠ s:=fun e=>hne e.symm
 refine ACallsP.of_keep q1wok (by simp) ?_
 unfold z1t
 have hlen:(L.map mailC++junk).length=L.length+junk.length:=by simp
 have htake:(L.map mailC++junk).take L.length=L.map mailC:=by
  rw [List.take_append_of_le_length (by simp),List.take_of_length_le (by simp)]
 have hdrop:(L.map mailC++junk).drop (L.length+1)=junk.drop 1:=by
  rw [List.drop_append,List.drop_of_length_le (by simp)];simp
 by_cases hjk:junk=[]
 ·subst hjk
  rw [List.append_nil]at hj hlen htake
  repeat' (first|apply zs_|apply zb_|apply zc_|apply zt_ rfl|apply zf_ rfl|(apply zd_ rfl<;>intro ht<;>try omega)|((first|apply zr_|apply zk_|apply ze_|apply zq_|(apply callW.mk_pu;(first|exact(fun _=>z2z _ _ nodes _ (by simp only [gapp,hrl,h,slOf];rfl))))|(apply callW.za;(first|exact(z2z _ _ nodes _ (by simp only [gapp,hrl,h,slOf];rfl))))|(apply zG<;>intro ht));all_goals try simp (disch:=first|omega|(simp only [lens];first|done|omega)) only [go_sem,h,hj,hlen,htake,mailC,slOf]))
  all_goals try exact⟨some s,h0.app,FrL.app⟩
  refine⟨some (O.length+1),⟨?_,⟨[],?_⟩,?_⟩,⟨?_,?_,?_⟩⟩
  ·simp (disch:=first|omega|(simp only [lens];first|done|omega)) only [go_sem,slOf,List.length_append,lQs]
  ·have e:O.length+1=(List.set (O++ [some [mailC m]]) s none).length:=by simp
   simp (disch:=first|omega|(simp only [lens];first|done|omega)) only [go_sem,mailC,List.map_append,List.append_assoc,z19,lQs,List.length_append,Nat.sub_self]
  ·simp;omega
  ·simp
  ·intro q hq hr hs
   have hr':r ≠ q:=fun e=>hr e.symm
   have hs':s ≠ q:=fun e=>hs (by rw [e])
   simp (disch:=first|omega|(simp only [lens];first|done|omega)) only [go_sem]
  ·intro s' hs
   simp at hs;omega
 ·have hjl:1<=junk.length:=by cases junk<;>simp_all
  repeat' (first|apply zs_|apply zb_|apply zc_|apply zt_ rfl|apply zf_ rfl|(apply zd_ rfl<;>intro ht<;>try omega)|((first|apply zr_|apply zk_|apply ze_|apply zq_|(apply callW.mk_pu;(first|exact(fun _=>z2z _ _ nodes _ (by simp only [gapp,hrl,h,slOf];rfl))))|(apply callW.za;(first|exact(z2z _ _ nodes _ (by simp only [gapp,hrl,h,slOf];rfl))))|(apply zG<;>intro ht));all_goals try simp (disch:=first|omega|(simp only [lens];first|done|omega)) only [go_sem,h,hj,hlen,htake,hdrop,mailC,slOf]))
  all_goals try exact⟨some s,h0.app,FrL.app⟩
  refine⟨some s,⟨?_,⟨junk.drop 1,?_⟩,?_⟩,⟨?_,?_,?_⟩⟩
  ·simp (disch:=first|omega|(simp only [lens];first|done|omega)) only [go_sem,slOf,List.length_append,lQs]
  ·simp (disch:=first|omega|(simp only [lens];first|done|omega)) only [go_sem,mailC,List.map_append,List.append_assoc]
  ·exact hd
  ·simp
  ·intro q hq hr hs
   have hr':r ≠ q:=fun e=>hr e.symm
   have hs':s ≠ q:=fun e=>hs (by rw [e])
   simp (disch:=first|omega|(simp only [lens];first|done|omega)) only [go_sem]
  ·intro s' hs
   exact .inl hs
theorem ze8(O:Store)(r:Nat)(nodes:Int)(sid:Option Nat)(L:List ML)(m:ML)(h:LkIs O r nodes sid L):ACallsP TC 66 [.ptr r 0 0,.agg (mailC m)] O
  (fun v O'=>v=.int .i64 (z1t nodes L.length m)/\ ∃sid',LkIs O' r nodes sid' (if z1t nodes L.length m=0 then L++ [m]else L)/\ FrL O O' r sid sid'):=by
 cases sid with
 |none=>
  have hn:L=[]:=by simpa [SlIs]using h.rows
  subst hn
  exact ztg O r nodes m h
 |some s=>exact zth O r s nodes L m h
end
section
def z4h:List AV:=[.int .i64 0,.int .i64 0,.str []]
attribute [local irreducible] zbw
theorem zzu (O : Store) (s : Nat) (A B junk : List (List AV)) (x : List AV) (h : O[s]? = some (some (A ++ x :: (B ++ junk)))) (hn : A.length + 1 + B.length < 1000000) :
    ACallsTo TC 113 [.sl s 0 (A.length+1+B.length) none 3,.int .i64 A.length,.int .i64 (A.length+1:Nat)] O (.sl s 0 (A.length+B.length) none 3) (O.set s (some (A++(B++z4h::junk)))):=by
  have hs:=(List.getElem?_eq_some_iff.1 h).1
  have hol:(A++x::(B++junk)).length=A.length+1+B.length+junk.length:=by simp;omega
  have n1:A.length+1+B.length-(A.length+1)=B.length:=by omega
  have t1:(A++x::(B++junk)).drop (A.length+1)=B++junk:=by rw [List.drop_append,List.drop_of_length_le (by omega)];simp
  have t2:(B++junk).take B.length=B:=by rw [List.take_append_of_le_length (Nat.le_refl _),List.take_length]
  have t3:(A++x::(B++junk)).take A.length=A:=by rw [List.take_append_of_le_length (Nat.le_refl _),List.take_length]
  obtain⟨y,hy⟩:∃y,(A++x::(B++junk)).drop (A.length+B.length)=y::junk:=by
    have e1:(A++x::(B++junk)).drop (A.length+B.length)=(x::(B++junk)).drop B.length:=by
      rw [List.drop_append,List.drop_of_length_le (by omega)];simp
    rw [e1]
    cases hB:B.reverse with
    | nil => have : B = [] := by simpa using hB
             subst this;exact⟨x,rfl⟩
    |cons b l=>
      have:B=l.reverse++ [b]:=by rw [<-List.reverse_reverse B,hB];simp
      rw [this]
      refine⟨b,?_⟩
      rw [show (l.reverse++ [b]).length=l.reverse.length+1 by simp,List.drop_succ_cons,List.append_assoc,List.drop_left]
      rfl
  have t5:(A++(B++y::junk)).take (A.length+B.length)=A++B:=by rw [<-List.append_assoc,List.take_append_of_le_length (by simp),List.take_of_length_le (by simp)]
  have t6:(A++(B++y::junk)).drop (A.length+B.length+1)=junk:=by
    rw [<-List.append_assoc,List.drop_append,List.drop_of_length_le (by simp)]
    simp
  have l5:(A++(B++y::junk)).length=A.length+B.length+1+junk.length:=by simp;omega
  have fin:∀(c:Nat) (J:Env),A.length+1+B.length+junk.length<=c->J 0=.sl s 0 (A.length+B.length) (some c) 3->zW TC 33 O.length zbw (z6l [.t 6] (.sl s 0 (A.length+B.length) none 3) (O.set s (some (A++(B++z4h::junk))))) J (O.set s (some (A++(B++z4h::junk)))):=by
    intro c J hc q0
    refine zW.unlim (t:=0) (r:=s) (off:=0) (len:=A.length+B.length) (c:=c) (esz:=3) (o:=A++(B++z4h::junk)) q0 (z1x hs) (by simp;omega) ?_
    unfold zbw
    repeat' (first|apply zs_|apply zb_|apply zc_|apply zt_ rfl|apply zf_ rfl|(apply zd_ rfl<;>intro ht<;>try omega)|((first|apply zr_|apply zk_|apply ze_|apply zq_|(apply zG<;>intro ht));all_goals try simp (disch:=first|omega|(simp only [lens];first|done|omega)) only [go_sem]))
  refine ACallsTo.of_body_keep q24ok (by simp) ?_
  refine zW.limitR (t:=0) (r:=s) (off:=0) (len:=A.length+1+B.length) (esz:=3) (by simp (disch:=first|omega|(simp only [lens];first|done|omega)) only [go_sem]) h fun c hc hc2=> ?_
  rw [hol,Nat.zero_add]at hc2
  by_cases hB:B=[]
  · subst hB
    simp only [List.length_nil,Nat.add_zero,List.nil_append]at*
    have n2:A.length+1-A.length=1:=by omega
    repeat' (first|apply zs_|apply zb_|apply zc_|apply zt_ rfl|apply zf_ rfl|(apply zd_ rfl<;>intro ht<;>try omega)|((first|apply zr_|apply zk_|apply ze_|apply zq_|(apply zG<;>intro ht));all_goals try simp (disch:=first|omega|(simp only [lens];first|done|omega)) only [go_sem,h,hol,n1,n2,t1,t2,t3,Nat.sub_zero,Nat.sub_self,z4h,List.replicate_one,List.append_assoc]))
    exact fin c _ (by omega) (by simp (disch:=first|omega|(simp only [lens];first|done|omega)) only [go_sem])
  · have hBl:1<=B.length:=by cases B<;>simp_all
    have n3:A.length+1+B.length-(A.length+B.length)=1:=by omega
    repeat' (first|apply zs_|apply zb_|apply zc_|apply zt_ rfl|apply zf_ rfl|(apply zd_ rfl<;>intro ht<;>try omega)|((first|apply zr_|apply zk_|apply ze_|apply zq_|(apply zG<;>intro ht));all_goals try simp (disch:=first|omega|(simp only [lens];first|done|omega)) only [go_sem,h,hol,n1,n3,t1,t2,t3,hy,t5,t6,l5,Nat.sub_zero,List.set_set,List.append_assoc,z4h,List.replicate_one]))
    exact fin c _ (by omega) (by simp (disch:=first|omega|(simp only [lens];first|done|omega)) only [go_sem])
end
section
theorem zk4{O y:Store}{r s:Nat}{nodes:Int}{sid:Option Nat}{L:List ML}{rows junk:List (List AV)}{n:Nat}(hrl:r<O.length)(hsl:s<O.length)(hne:s ≠ r)(hid:sid=some s)(hr:rows=L.map mailC++junk)(hn:n=L.length):
  LkIs ((O.set s (some rows)).set r (some [[.int .i64 nodes,.sl s 0 n none 3]])++y) r nodes (some s) L/\ FrL O ((O.set s (some rows)).set r (some [[.int .i64 nodes,.sl s 0 n none 3]])++y) r sid (some s):=by
 subst hr;subst hn;subst hid
 refine⟨⟨?_,⟨junk,?_⟩,fun e=>hne (Option.some.inj e)⟩,⟨by simp,fun q hq h1 h2=> ?_,fun q hq=> .inl hq⟩⟩
 ·rw [gapp (by simpa using hrl),z1x (by simpa using hrl)];rfl
 ·rw [gapp (by simpa using hsl),z1e (fun e=>hne e.symm),z1x hsl]
 ·rw [gapp (by simpa using hq),z1e (fun e=>h1 e.symm),z1e (fun e=>h2 (by rw [e]))]
theorem ze9{O:Store}{r:Nat}{nodes:Int}{sid:Option Nat}{L:List ML}(h:LkIs O r nodes sid L)(L':List ML)(h0:sid=none->L'=[]):∃O',LkIs O' r nodes sid L'/\ FrL O O' r sid sid:=by
 obtain⟨hrl,hsl⟩:=h.lt
 cases sid with
 |none=>
  have e:L=[]:=by simpa [SlIs]using h.rows
  subst e
  rw [h0 rfl]
  exact⟨O,h,FrL.refl⟩
 |some s=>exact⟨_,zk4 (y:=[]) (junk:=[]) (L:=L') hrl (hsl s rfl) (fun e=>h.apart (by rw [e])) rfl rfl rfl⟩
theorem zor{nodes:Int}{n:Nat}{i:Int}(h0:nodes ≠ 0)(h1:0<=i)(h2:i<n):atS nodes n i=0:=by
 unfold atS
 rw [if_neg h0,if_neg (by omega)]
theorem zt8(O:Store)(r:Nat)(nodes i:Int)(sid:Option Nat)(L:List ML)(h:LkIs O r nodes sid L)(hb:atS nodes L.length i ≠ 0):
  ACallsP TC 67 [.ptr r 0 0,.int .i64 i] O (fun v O'=>v=.tup [.agg z4h,.int .i64 (atS nodes L.length i)]/\ LkIs O' r nodes sid L/\ FrL O O' r sid sid):=by
 obtain⟨hrl,hsl⟩:=h.lt
 have hn:sid=none->L.length=0:=by
  intro e;subst e
  have:=h.rows
  simp [SlIs]at this
  simp [this]
 have ho:=h.obj
 generalize hc:atS nodes L.length i=c at*
 refine ACallsP.of_keep q1xok (by simp) ?_
 repeat' (first|apply zs_|apply zb_|apply zc_|apply zt_ rfl|apply zf_ rfl|(apply zd_ rfl<;>intro ht<;>try omega)|((first|apply zr_|apply zk_|apply ze_|apply zq_|(apply callW.mk_pu;(first|exact(fun _=>(hc ▸ z7h (O++_) r nodes i sid L.length (by rw [gapp hrl];exact ho) hn))))|(apply callW.za;(first|exact((hc ▸ z7h (O++_) r nodes i sid L.length (by rw [gapp hrl];exact ho) hn))))|(apply zG<;>intro ht));all_goals try simp (disch:=first|omega|(simp only [lens];first|done|omega)) only [go_sem,z4h]))
 exact⟨h.app,FrL.app⟩
theorem zt9(O:Store)(r s:Nat)(nodes:Int)(A B:List ML)(m:ML)(h:LkIs O r nodes (some s) (A++m::B))(hn:nodes ≠ 0)(hl:A.length+1+B.length<1000000):
  ACallsP TC 67 [.ptr r 0 0,.int .i64 A.length] O (fun v O'=>v=.tup [.agg (mailC m),.int .i64 0]/\ LkIs O' r nodes (some s) (A++B)/\ FrL O O' r (some s) (some s)):=by
 obtain⟨hrl,hsl⟩:=h.lt
 have hsl:=hsl s rfl
 obtain⟨ho,⟨junk,hj⟩,hd⟩:=h
 have hne:s ≠ r:=fun e=>hd (by rw [e])
 have hne2:r ≠ s:=fun e=>hne e.symm
 have hlen:(A++m::B).length=A.length+1+B.length:=by simp;omega
 rw [hlen]at ho
 have hc:atS nodes (A.length+1+B.length) (A.length:Int)=0:=zor hn (by omega) (by omega)
 have hrow:(A++m::B).map mailC++junk=A.map mailC++mailC m::(B.map mailC++junk):=by simp
 rw [hrow]at hj
 have hget:(A.map mailC++mailC m::(B.map mailC++junk))[A.length]? =some (mailC m):=by
  rw [List.getElem?_append_right (by simp)];simp
 have e1:(A.length:Int)+1=((A.length+1:Nat):Int):=by omega
 have hj0:=hj
 simp only [mailC]at hj hget
 have hD:∀y:Store,ACallsTo TC 113 [.sl s 0 (A.length+1+B.length) none 3,.int .i64 A.length,.int .i64 (A.length+1:Nat)] (O++y) (.sl s 0 (A.length+B.length) none 3)
   ((O++y).set s (some (A.map mailC++(B.map mailC++z4h::junk)))):=by
  intro y
  have:=zzu (O++y) s (A.map mailC) (B.map mailC) junk (mailC m) (by rw [gapp hsl];exact hj0) (by simp;omega)
  simpa only [List.length_map]using this
 refine ACallsP.of_keep q1xok (by simp) ?_
 repeat' (first|apply zs_|apply zb_|apply zc_|apply zt_ rfl|apply zf_ rfl|(apply zd_ rfl<;>intro ht<;>try omega)|((first|apply zr_|apply zk_|apply ze_|apply zq_|(apply callW.mk_pu;(first|exact(fun _=>(hc ▸ z7h (O++_) r nodes A.length (some s) (A.length+1+B.length) (by rw [gapp hrl];exact ho) (by simp)))|exact(fun _=>hD _)))|(apply callW.za;(first|exact((hc ▸ z7h (O++_) r nodes A.length (some s) (A.length+1+B.length) (by rw [gapp hrl];exact ho) (by simp)))|exact(hD _)))|(apply zG<;>intro ht));all_goals try simp (disch:=first|omega|(simp only [lens];first|done|omega)) only [go_sem,ho,hj,hget,mailC,slOf,e1]))
 exact zk4 (junk:=z4h::junk) hrl hsl hne rfl (by simp) (by simp)
def delM(nodes:Int)(L:List ML)(i:Int):ML:=if atS nodes L.length i=0 then L.getD i.toNat ⟨0,0,[]⟩else⟨0,0,[]⟩
def delV(nodes:Int)(L:List ML)(i:Int):AV:=.tup [.agg (mailC (delM nodes L i)),.int .i64 (atS nodes L.length i)]
def delL(nodes:Int)(L:List ML)(i:Int):List ML:=if atS nodes L.length i=0 then L.eraseIdx i.toNat else L
theorem z74{nodes:Int}{n:Nat}{i:Int}(h:atS nodes n i=0):nodes ≠ 0/\ 0<=i/\ i<n:=by
 unfold atS at h
 split at h
 ·cases h
 ·split at h
  ·cases h
  ·refine⟨by assumption,?_,?_⟩<;>omega
theorem zmo(L:List ML)(i:Nat)(h:i<L.length):∃A m B,L=A++m::B/\ A.length=i:=by
 refine⟨L.take i,L[i],L.drop (i+1),?_,by simp;omega⟩
 rw [<-List.drop_eq_getElem_cons h,List.take_append_drop]
theorem zk2(O:Store)(r:Nat)(nodes i:Int)(sid:Option Nat)(L:List ML)(h:LkIs O r nodes sid L)(hl:L.length<1000000):
  ACallsP TC 67 [.ptr r 0 0,.int .i64 i] O (fun v O'=>v=delV nodes L i/\ LkIs O' r nodes sid (delL nodes L i)/\ FrL O O' r sid sid):=by
 by_cases hb:atS nodes L.length i=0
 ·obtain⟨h0,h1,h2⟩:=z74 hb
  obtain⟨A,m,B,rfl,hA⟩:=zmo L i.toNat (by omega)
  cases sid with
  |none=>have:=h.rows;simp [SlIs]at this
  |some s=>
   have hi:i=A.length:=by omega
   subst hi
   refine(zt9 O r s nodes A B m h h0 (by simp at hl;omega)).mono ?_
   rintro v O' ⟨rfl,k1,k2⟩
   refine⟨?_,?_,k2⟩
   ·rw [delV,hb,delM,if_pos hb,Int.toNat_natCast]
    congr 3
    simp
   ·rw [delL,if_pos hb,Int.toNat_natCast]
    have:(A++m::B).eraseIdx A.length=A++B:=by rw [List.eraseIdx_append_of_length_le (Nat.le_refl _)];simp
    rw [this];exact k1
 ·refine(zt8 O r nodes i sid L h hb).mono ?_
  rintro v O' ⟨rfl,k1,k2⟩
  exact⟨by rw [delV,delM,if_neg hb];rfl,by rw [delL,if_neg hb];exact k1,k2⟩
theorem zin{nodes i:Int}{L:List ML}{O:Store}{r:Nat}(h:LkIs O r nodes none L):delL nodes L i=[]:=by
 have e:L=[]:=by simpa [SlIs]using h.rows
 subst e
 unfold delL
 split<;>rfl
theorem zk1{O:Store}{r:Nat}{nodes i:Int}{sid:Option Nat}{L:List ML}(h:LkIs O r nodes sid L):∃v O',v=delV nodes L i/\ LkIs O' r nodes sid (delL nodes L i)/\ FrL O O' r sid sid:=by
 obtain⟨O',h1⟩:=ze9 h (delL nodes L i) (fun e=>by subst e;exact zin h)
 exact⟨_,O',rfl,h1⟩
theorem ztb(O:Store)(r:Nat)(nodes i:Int)(sid:Option Nat)(L:List ML)(h:LkIs O r nodes sid L)(hl:L.length<1000000):
  ACallsP TC 69 [.ptr r 0 0,.int .i64 i] O (fun v O'=>v=.int .i64 (atS nodes L.length i)/\ LkIs O' r nodes sid (delL nodes L i)/\ FrL O O' r sid sid):=by
 refine ACallsP.of_keep q1yok (by simp) ?_
 repeat' (first|apply zs_|apply zb_|apply zc_|apply zt_ rfl|apply zf_ rfl|(apply zd_ rfl<;>intro ht<;>try omega)|((first|apply zr_|apply zk_|apply ze_|apply zq_|(apply zG<;>intro ht));all_goals try simp (disch:=first|omega|(simp only [lens];first|done|omega)) only [go_sem]))
 refine callW.mkP (zk2 O r nodes i sid L h hl) (zk1 h) ?_
 rintro v O' ⟨rfl,k1,k2⟩
 simp (disch:=first|omega|(simp only [lens];first|done|omega)) only [go_sem,delV,mailC]
 repeat' (first|apply zs_|apply zb_|apply zc_|apply zt_ rfl|apply zf_ rfl|(apply zd_ rfl<;>intro ht<;>try omega)|((first|apply zr_|apply zk_|apply ze_|apply zq_|(apply zG<;>intro ht));all_goals try simp (disch:=first|omega|(simp only [lens];first|done|omega)) only [go_sem]))
 exact⟨k1.app,⟨by have:=k2.len;simp;omega,fun q hq h1 h2=>by rw [gapp (by have:=k2.len;omega)];exact k2.keep q hq h1 h2,k2.new⟩⟩
def dblS(nodes:Int)(L:List ML)(i:Int):Int:=if atS nodes L.length i=0 then z1t nodes L.length (L.getD i.toNat ⟨0,0,[]⟩)else atS nodes L.length i
theorem ze7{O:Store}{r:Nat}{nodes:Int}{sid:Option Nat}{L:List ML}{m:ML}(h:LkIs O r nodes sid L):∃v O',v=AV.int .i64 (z1t nodes L.length m)/\ ∃sid',LkIs O' r nodes sid' (if z1t nodes L.length m=0 then L++ [m]else L)/\ FrL O O' r sid sid':=by
 obtain⟨hrl,hsl⟩:=h.lt
 cases sid with
 |some s=>
  obtain⟨O',h1,h2⟩:=ze9 h (if z1t nodes L.length m=0 then L++ [m]else L) (by simp)
  exact⟨_,O',rfl,_,h1,h2⟩
 |none=>
  have e:L=[]:=by simpa [SlIs]using h.rows
  subst e
  by_cases hc:z1t nodes ([]:List ML).length m=0
  ·refine⟨_,O.set r (some [[.int .i64 nodes,.sl O.length 0 1 none 3]])++ [some [mailC m]],rfl,some O.length,⟨?_,⟨[],?_⟩,?_⟩,⟨by simp,fun q hq h1 _=> ?_,fun s hs=> ?_⟩⟩
   ·rw [if_pos hc,gapp (by simpa using hrl),z1x hrl];rfl
   ·rw [if_pos hc,z19 (by simp)];simp
   ·simp;omega
   ·rw [gapp (by simpa using hq),z1e (fun e=>h1 e.symm)]
   ·right;simp at hs;omega
  ·exact⟨_,O,rfl,none,by rw [if_neg hc];exact h,FrL.refl⟩
theorem zta(O:Store)(r:Nat)(nodes i:Int)(sid:Option Nat)(L:List ML)(h:LkIs O r nodes sid L)(hl:L.length<1000000):
  ACallsP TC 70 [.ptr r 0 0,.int .i64 i] O (fun v O'=>v=.int .i64 (dblS nodes L i)/\ ∃sid',LkIs O' r nodes sid' (if dblS nodes L i=0 then L++ [L.getD i.toNat ⟨0,0,[]⟩]else L)/\ FrL O O' r sid sid'):=by
 obtain⟨hrl,hsl⟩:=h.lt
 have ho:=h.obj
 have hn:sid=none->L.length=0:=by
  intro e;subst e
  have:=h.rows
  simp [SlIs]at this
  simp [this]
 by_cases hb:atS nodes L.length i=0
 ·obtain⟨h0,h1,h2⟩:=z74 hb
  obtain⟨A,m,B,rfl,hA⟩:=zmo L i.toNat (by omega)
  cases sid with
  |none=>have:=h.rows;simp [SlIs]at this
  |some s=>
   have hi:i=A.length:=by omega
   subst hi
   obtain⟨junk,hj⟩:=h.rows
   have hlen:(A++m::B).length=A.length+1+B.length:=by simp;omega
   have hm:(A++m::B).getD (A.length:Int).toNat ⟨0,0,[]⟩=m:=by simp
   have hget:((A++m::B).map mailC++junk)[A.length]? =some [.int .i64 m.f,.int .i64 m.t,.str m.x]:=by
    rw [List.getElem?_append_left (by simp),List.getElem?_map,List.getElem?_append_right (Nat.le_refl _)];simp [mailC]
   have hS:=ze8 O r nodes (some s) (A++m::B) m h
   have hE:=ze7 (m:=m) h
   unfold dblS
   rw [if_pos hb,hm]
   have hA:=z7h O r nodes A.length (some s) (A++m::B).length ho hn
   rw [hb]at hA
   simp only [mailC]at hS
   refine ACallsP.of_keep q1zok (by simp) ?_
   repeat' (first|apply zs_|apply zb_|apply zc_|apply zt_ rfl|apply zf_ rfl|(apply zd_ rfl<;>intro ht<;>try omega)|((first|apply zr_|apply zk_|apply ze_|apply zq_|(apply callW.mk_pu;(first|exact(fun _=>hA)))|(apply callW.za;(first|exact(hA)))|(apply zG<;>intro ht));all_goals try simp (disch:=first|omega|(simp only [lens];first|done|omega)) only [go_sem,ho,hj,hget,slOf,hlen]))
   refine callW.mkP (caps:=[]) hS hE ?_
   rintro v O' ⟨rfl,k⟩
   simp (disch:=first|omega|(simp only [lens];first|done|omega)) only [go_sem]
   repeat' (first|apply zs_|apply zb_|apply zc_|apply zt_ rfl|apply zf_ rfl|(apply zd_ rfl<;>intro ht<;>try omega)|((first|apply zr_|apply zk_|apply ze_|apply zq_|(apply zG<;>intro ht));all_goals try simp (disch:=first|omega|(simp only [lens];first|done|omega)) only [go_sem]))
   have e:A.length+(B.length+1)=A.length+1+B.length:=by omega
   rw [e]
   rw [hlen,List.append_assoc]at k
   exact⟨rfl,k⟩
 ·unfold dblS
  rw [if_neg hb]
  have hb':=hb
  generalize hc:atS nodes L.length i=c at*
  refine ACallsP.of_keep q1zok (by simp) ?_
  repeat' (first|apply zs_|apply zb_|apply zc_|apply zt_ rfl|apply zf_ rfl|(apply zd_ rfl<;>intro ht<;>try omega)|((first|apply zr_|apply zk_|apply ze_|apply zq_|(apply callW.mk_pu;(first|exact(fun _=>(hc ▸ z7h O r nodes i sid L.length ho hn))))|(apply callW.za;(first|exact((hc ▸ z7h O r nodes i sid L.length ho hn))))|(apply zG<;>intro ht));all_goals try simp (disch:=first|omega|(simp only [lens];first|done|omega)) only [go_sem]))
  exact⟨sid,h,FrL.refl⟩
end
section
theorem ztf(O:Store)(n:Int)(h:1<=n/\ n<=32):
  ACallsTo TC 72 [.int .i64 n] O (.tup [.ptr O.length 0 0,.int .i64 0]) (O++ [some [[.int .i64 n,.nilsl]]]):=by
 refine ACallsTo.of_body_keep q21ok (by simp) ?_
 repeat' (first|apply zs_|apply zb_|apply zc_|apply zt_ rfl|apply zf_ rfl|(apply zd_ rfl<;>intro ht<;>try omega)|((first|apply zr_|apply zk_|apply ze_|apply zq_|(apply zG<;>intro ht));all_goals try simp (disch:=first|omega|(simp only [lens];first|done|omega)) only [go_sem]))
structure Fresh(O O':Store)(sid:Option Nat)(L:List ML):Prop where
 ext:∃y,O'=O++y
 rows:SlIs O' sid (L.map mailC)
 new:∀s,sid=some s->O.length<=s
theorem ztc(O:Store)(r:Nat)(nodes:Int)(h:LkIs O r nodes none []):
  ACallsTo TC 71 [.ptr r 0 0] O .nilsl O:=by
 have ho:=h.obj
 refine ACallsTo.of_body q20ok (by simp) fun hw _=> ?_
 repeat' (first|apply zs_|apply zb_|apply zc_|apply zt_ rfl|apply zf_ rfl|(apply zd_ rfl<;>intro ht<;>try omega)|((first|apply zr_|apply zk_|apply ze_|apply zq_|(apply callW.mk_pu;(first|exact(fun _=>z2z _ _ nodes .nilsl ho)))|(apply callW.za;(first|exact(z2z _ _ nodes .nilsl ho)))|(apply zG<;>intro ht));all_goals try simp (disch:=first|omega|(simp only [lens];first|done|omega)) only [go_sem,ho,slOf]))
 all_goals exact DownV.same hw (z1d _ rfl)
theorem ztd(O:Store)(r s:Nat)(nodes:Int)(L:List ML)(h:LkIs O r nodes (some s) L)(h0:nodes ≠ 0)(hl:L.length<1000000):
  ACallsTo TC 71 [.ptr r 0 0] O (if L=[]then .nilsl else .sl O.length 0 L.length none 3) (if L=[]then O else O++ [some (L.map mailC)]):=by
 have ho:=h.obj
 obtain⟨junk,hj⟩:=h.rows
 have htake:(L.map mailC++junk).take L.length=L.map mailC:=by
  rw [List.take_append_of_le_length (by simp),List.take_of_length_le (by simp)]
 refine ACallsTo.of_body_keep q20ok (by simp) ?_
 by_cases hL:L=[]
 ·subst hL
  simp only [List.length_nil,List.map_nil,List.nil_append]at ho hj htake
  rw [if_pos rfl,if_pos rfl]
  repeat' (first|apply zs_|apply zb_|apply zc_|apply zt_ rfl|apply zf_ rfl|(apply zd_ rfl<;>intro ht<;>try omega)|((first|apply zr_|apply zk_|apply ze_|apply zq_|(apply callW.mk_pu;(first|exact(fun _=>z2z _ _ nodes _ ho)))|(apply callW.za;(first|exact(z2z _ _ nodes _ ho)))|(apply zG<;>intro ht));all_goals try simp (disch:=first|omega|(simp only [lens];first|done|omega)) only [go_sem,ho,hj,slOf,htake,List.length_nil,List.take_zero]))
 ·have hlen:0<L.length:=List.length_pos_iff.2 hL
  rw [if_neg hL,if_neg hL]
  repeat' (first|apply zs_|apply zb_|apply zc_|apply zt_ rfl|apply zf_ rfl|(apply zd_ rfl<;>intro ht<;>try omega)|((first|apply zr_|apply zk_|apply ze_|apply zq_|(apply callW.mk_pu;(first|exact(fun _=>z2z _ _ nodes _ ho)))|(apply callW.za;(first|exact(z2z _ _ nodes _ ho)))|(apply zG<;>intro ht));all_goals try simp (disch:=first|omega|(simp only [lens];first|done|omega)) only [go_sem,ho,hj,slOf,htake,lQm]))
def z7i(O:Store)(L:List ML):Option Nat:=if L=[]then none else some O.length
def zbg(L:List ML):Store:=if L=[]then []else [some (L.map mailC)]
theorem zte(O:Store)(r:Nat)(nodes:Int)(sid:Option Nat)(L:List ML)(h:LkIs O r nodes sid L)(h0:nodes ≠ 0)(hl:L.length<1000000):
  ACallsTo TC 71 [.ptr r 0 0] O (slOf (z7i O L) L.length 3) (O++zbg L):=by
 cases sid with
 |none=>
  have e:L=[]:=by simpa [SlIs]using h.rows
  subst e
  simpa [z7i,zbg,slOf]using ztc O r nodes h
 |some s=>
  have:=ztd O r s nodes L h h0 hl
  by_cases hL:L=[]
  ·simpa [z7i,zbg,slOf,hL]using this
  ·simpa [z7i,zbg,slOf,hL]using this
end
section
theorem lk_new{O y:Store}{r q:Nat}{nodes:Int}{sid:Option Nat}{L':List ML}{rows junk:List (List AV)}{n:Nat}(hrl:r<O.length)(hq:O.length<=q)(hy:y[q-O.length]? =some (some rows))(hr:rows=L'.map mailC++junk)(hn:n=L'.length):
  LkIs (O.set r (some [[.int .i64 nodes,.sl q 0 n none 3]])++y) r nodes (some q) L'/\ FrL O (O.set r (some [[.int .i64 nodes,.sl q 0 n none 3]])++y) r sid (some q):=by
 subst hr;subst hn
 refine⟨⟨?_,⟨junk,?_⟩,fun e=>by have:=Option.some.inj e;omega⟩,⟨by simp,fun p hp h1 h2=> ?_,fun s hs=> ?_⟩⟩
 ·rw [gapp (by simpa using hrl),z1x hrl];rfl
 ·rw [z19 (by simpa using hq),List.length_set];exact hy
 ·rw [gapp (by simpa using hp),z1e (fun e=>h1 e.symm)]
 ·right;have:=Option.some.inj hs;omega
end
section

end
section
theorem zk3{O:Store}{r:Nat}{nodes:Int}{sid:Option Nat}{L:List ML}(h:LkIs O r nodes sid L)(L':List ML):∃O' sid',LkIs O' r nodes sid' L'/\ FrL O O' r sid sid':=by
 obtain⟨hrl,_⟩:=h.lt
 exact⟨_,_,lk_new (y:=[some (L'.map mailC)]) (q:=O.length) (L':=L') (rows:=L'.map mailC) (junk:=[]) hrl (Nat.le_refl _) (by simp) (by simp) rfl⟩
end
section
set_option maxRecDepth 10000
def q25r0:yW:=[
 yI 2 (.mv (.v (.str []))),
 yK 3 .i64 0]
def q25r1:yW:=[
 yM 7 0,
 yI 8 (.lenSl (.t 7)),
 yJ 9 .gtr 8 .i64 64]
def q25r2:yW:=[
 yI 2 (.mv (.v (.str []))),
 yK 3 .i64 2]
def q25c3:yX:=yq q25r2 .ret
def q25c4:yX:=.cond (.t 9) q25c3 .skip
def q25c5:yX:=yq q25r1 q25c4
def q25r6:yW:=[
 yI 4 (.allB)]
def q25r7:yW:=[
 yM 10 0,
 yI 11 (.lenSl (.t 10)),
 yI 12 (.conv (.int .u64) (.t 11)),
 yC 13 109 12,
 yI 14 (.bin .add .none (.v (.str [68])) (.t 13)),
 yD 15 83 4 14]
def q25r8:yW:=[
 yM 16 0,
 yI 17 (.lenSl (.t 16)),
 yK 18 .i64 0]
def q25r9:yW:=[
 yB 19 .lss 18 17]
def q25r10:yW:=[
 yI 20 (.iaSl 33 (.t 16) (.t 18)),
 yL 21 true 33 20,
 yI 6 (.alloc ((.int .i64 0)::zZ0)),
 yS 33 6 21]
def q25r11:yW:=[
 yL 22 true 33 6,
 yC 23 110 22,
 yI 24 (.un .not (.t 23))]
def q25r12:yW:=[
 yI 2 (.mv (.v (.str []))),
 yK 3 .i64 2]
def q25c13:yX:=yq q25r12 .ret
def q25c14:yX:=.cond (.t 24) q25c13 .skip
def q25c15:yX:=yq q25r11 q25c14
def q25r16:yW:=[
 yF 25 0 6,
 ⟨some 26,none,.rd,.load false 1 (.t 25)⟩,
 yI 27 (.conv (.int .u64) (.t 26)),
 ⟨some 28,none,.ef,.call (.v (.fn 109 [])) [(.t 27)]⟩,
 yF 29 1 6,
 ⟨some 30,none,.rd,.load true 32 (.t 29)⟩,
 yC 31 84 30,
 yB 32 .add 28 31,
 yD 33 83 4 32]
def q25c17:yX:=.seq q25c15 (.reg q25r16)
def q25c18:yX:=yq q25r10 q25c17
def q25r19:yW:=[
 yJ 34 .add 18 .i64 1,
 yM 18 34]
def q25c20:yX:=.seq (.block 1 q25c18) (.reg q25r19)
def q25c21:yX:=.seq (.cond (.t 19) .skip (.exit 0)) q25c20
def q25c22:yX:=yq q25r9 q25c21
def q25c23:yX:=.loop q25c22
def q25c24:yX:=.block 0 q25c23
def q25c25:yX:=yq q25r8 q25c24
def q25r26:yW:=[
 yC 35 86 4,
 yM 2 35,
 yK 3 .i64 0]
def q25c27:yX:=yq q25r26 .ret
def q25c28:yX:=.seq q25c25 q25c27
def q25c29:yX:=yq q25r7 q25c28
def q25c30:yX:=yq q25r6 q25c29
def q25c31:yX:=.seq q25c5 q25c30
def q25c32:yX:=yq q25r0 q25c31
attribute [go_sem] q25r0 q25r1 q25r2 q25r6 q25r7 q25r8 q25r9 q25r10 q25r11 q25r12 q25r16 q25r19 q25r26
theorem q25ok:cFn TC 65=some (36,[.t 2,.t 3],q25c32):=by kernel_rfl
def q26r0:yW:=[
 yI 4 (.mv (.v .nilsl))]
def q26r1:yW:=[
 yI 5 (.mv (.v .nilsl))]
def q26r2:yW:=[
 yM 8 0,
 yI 9 (.lenSl (.t 8)),
 yK 10 .i64 0]
def q26r3:yW:=[
 yB 11 .lss 10 9]
def q26r4:yW:=[
 yI 12 (.iaSl 36 (.t 8) (.t 10)),
 yL 13 true 36 12,
 yI 7 (.alloc [(.int .i64 0),(.int .u8 0),(.int .u8 0),(.int .u8 0),(.int .u8 0),(.int .u8 0),(.int .u8 0),(.int .u8 0),(.int .u8 0),(.int .u8 0),(.int .u8 0),(.int .u8 0),(.int .u8 0),(.int .u8 0),(.int .u8 0),(.int .u8 0),(.int .u8 0),(.int .u8 0),(.int .u8 0),(.int .u8 0),(.int .u8 0),(.int .u8 0),(.int .u8 0),(.int .u8 0),(.int .u8 0),(.int .u8 0),(.int .u8 0),(.int .u8 0),(.int .u8 0),(.int .u8 0),(.int .u8 0),(.int .u8 0),(.int .u8 0),(.int .i64 0),(.str []),.nilsl]),
 yS 36 7 13]
def q26r5:yW:=[
 yM 14 5,
 yI 15 (.lenSl (.t 14)),
 yJ 16 .lss 15 .i64 3,
 yM 17 16,
 yU 18 17 true true 36 7,
 yG 19 17 true (.call (.v (.fn 97 [])) [(.t 18)]),
 yQ 20 17 19,
 yM 21 20,
 yV 22 21 true 1,
 yT 23 21 true 0 7,
 yU 24 21 true true 33 23,
 yG 25 21 true (.call (.v (.fn 141 [])) [(.t 22),(.t 24)]),
 yG 26 21 true (.un .not (.t 25)),
 yQ 27 21 26]
def q26r6:yW:=[
 yF 28 33 7,
 yF 29 2 28,
 yL 30 false 1 29,
 yC 31 105 30,
 yF 32 33 7,
 yF 33 2 32,
 yS 1 33 31]
def q26r7:yW:=[
 yM 34 5,
 yL 35 true 36 7,
 yI 36 (.lit 36 [(.t 35)]),
 yI 37 (.app 36 (.t 34) (.t 36)),
 yM 5 37]
def q26c8:yX:=yq q26r6 (.reg q26r7)
def q26c9:yX:=.cond (.t 27) q26c8 .skip
def q26c10:yX:=yq q26r5 q26c9
def q26c11:yX:=yq q26r4 q26c10
def q26r12:yW:=[
 yJ 38 .add 10 .i64 1,
 yM 10 38]
def q26c13:yX:=.seq (.block 1 q26c11) (.reg q26r12)
def q26c14:yX:=.seq (.cond (.t 11) .skip (.exit 0)) q26c13
def q26c15:yX:=yq q26r3 q26c14
def q26c16:yX:=.loop q26c15
def q26c17:yX:=.block 0 q26c16
def q26c18:yX:=yq q26r2 q26c17
def q26r19:yW:=[
 yM 39 5,
 yM 4 39]
def q26c20:yX:=yq q26r19 .ret
def q26c21:yX:=.seq q26c18 q26c20
def q26c22:yX:=yq q26r1 q26c21
def q26c23:yX:=yq q26r0 q26c22
attribute [go_sem] q26r0 q26r1 q26r2 q26r3 q26r4 q26r5 q26r6 q26r7 q26r12 q26r19
theorem q26ok:cFn TC 108=some (40,[.t 4],q26c23):=by kernel_rfl
def q27r0:yW:=[
 yI 1 (.box (.t 0)),
 yI 2 (.mv (.v (.bool false)))]
def q27r1:yW:=[
 yF 3 0 1,
 yL 4 false 1 3,
 yJ 5 .geq 4 .i64 0,
 yM 6 5,
 yT 7 6 true 0 1,
 yU 8 6 true false 1 7,
 yG 9 6 true (.bin .leq .none (.t 8) (.v (.int .i64 4096))),
 yQ 10 6 9,
 yM 2 10]
def q27c2:yX:=yq q27r1 .ret
def q27c3:yX:=yq q27r0 q27c2
attribute [go_sem] q27r0 q27r1
theorem q27ok:cFn TC 110=some (11,[.t 2],q27c3):=by kernel_rfl
def q28r0:yW:=[
 yI 2 (.mv (.v .nilsl)),
 yK 3 .i64 0]
def q28r1:yW:=[
 yM 14 0,
 yI 15 (.call (.v (.fn 142 [])) [(.t 14),(.v (.str [71]))]),
 yM 13 15,
 yE 16 0 13,
 yE 17 1 13,
 yE 18 2 13,
 yM 4 16,
 yM 5 17,
 yM 6 18]
def q28r2:yW:=[
 yM 19 6,
 yI 20 (.un .not (.t 19)),
 yM 21 20,
 yV 22 21 false 4,
 yG 23 21 false (.bin .lss .none (.t 22) (.v (.int .u64 1))),
 yP 24 21 23,
 yM 25 24,
 yV 26 25 false 4,
 yG 27 25 false (.bin .gtr .none (.t 26) (.v (.int .u64 3))),
 yP 28 25 27]
def q28r3:yW:=[
 yI 2 (.mv (.v .nilsl)),
 yK 3 .i64 10]
def q28c4:yX:=yq q28r3 .ret
def q28c5:yX:=.cond (.t 28) q28c4 .skip
def q28c6:yX:=yq q28r2 q28c5
def q28r7:yW:=[
 yI 7 (.mv (.v .nilsl))]
def q28r8:yW:=[
 yM 29 4,
 yK 30 .u64 0]
def q28r9:yW:=[
 yB 31 .lss 30 29]
def q28r10:yW:=[
 yM 33 5,
 yC 34 143 33,
 yM 32 34,
 yE 35 0 32,
 yE 36 1 32,
 yE 37 2 32,
 yM 8 35,
 yM 9 36,
 yM 10 37]
def q28r11:yW:=[
 yM 39 8,
 yC 40 144 39,
 yM 38 40,
 yE 41 0 38,
 yE 42 1 38,
 yI 11 (.alloc [(.int .i64 0),(.int .u8 0),(.int .u8 0),(.int .u8 0),(.int .u8 0),(.int .u8 0),(.int .u8 0),(.int .u8 0),(.int .u8 0),(.int .u8 0),(.int .u8 0),(.int .u8 0),(.int .u8 0),(.int .u8 0),(.int .u8 0),(.int .u8 0),(.int .u8 0),(.int .u8 0),(.int .u8 0),(.int .u8 0),(.int .u8 0),(.int .u8 0),(.int .u8 0),(.int .u8 0),(.int .u8 0),(.int .u8 0),(.int .u8 0),(.int .u8 0),(.int .u8 0),(.int .u8 0),(.int .u8 0),(.int .u8 0),(.int .u8 0),(.int .i64 0),(.str []),.nilsl]),
 yS 36 11 41,
 yM 12 42]
def q28r12:yW:=[
 yM 43 10,
 yI 44 (.un .not (.t 43)),
 yM 45 44,
 yV 46 45 false 12,
 yG 47 45 false (.bin .neq .none (.t 46) (.v (.int .i64 0))),
 yP 48 45 47]
def q28r13:yW:=[
 yI 2 (.mv (.v .nilsl)),
 yK 3 .i64 10]
def q28c14:yX:=yq q28r13 .ret
def q28c15:yX:=.cond (.t 48) q28c14 .skip
def q28c16:yX:=yq q28r12 q28c15
def q28r17:yW:=[
 yM 49 7,
 yL 50 true 36 11,
 yI 51 (.lit 36 [(.t 50)]),
 yI 52 (.app 36 (.t 49) (.t 51)),
 yM 53 9,
 yM 7 52,
 yM 5 53]
def q28c18:yX:=.seq q28c16 (.reg q28r17)
def q28c19:yX:=yq q28r11 q28c18
def q28c20:yX:=yq q28r10 q28c19
def q28r21:yW:=[
 yJ 54 .add 30 .u64 1,
 yM 30 54]
def q28c22:yX:=.seq (.block 1 q28c20) (.reg q28r21)
def q28c23:yX:=.seq (.cond (.t 31) .skip (.exit 0)) q28c22
def q28c24:yX:=yq q28r9 q28c23
def q28c25:yX:=.loop q28c24
def q28c26:yX:=.block 0 q28c25
def q28c27:yX:=yq q28r8 q28c26
def q28r28:yW:=[
 yM 55 5,
 yI 56 (.bin .neq .none (.t 55) (.v (.str [])))]
def q28r29:yW:=[
 yI 2 (.mv (.v .nilsl)),
 yK 3 .i64 10]
def q28c30:yX:=yq q28r29 .ret
def q28c31:yX:=.cond (.t 56) q28c30 .skip
def q28c32:yX:=yq q28r28 q28c31
def q28r33:yW:=[
 yM 57 7,
 yM 2 57,
 yK 3 .i64 0]
def q28c34:yX:=yq q28r33 .ret
def q28c35:yX:=.seq q28c32 q28c34
def q28c36:yX:=.seq q28c27 q28c35
def q28c37:yX:=yq q28r7 q28c36
def q28c38:yX:=.seq q28c6 q28c37
def q28c39:yX:=yq q28r1 q28c38
def q28c40:yX:=yq q28r0 q28c39
attribute [go_sem] q28r0 q28r1 q28r2 q28r3 q28r7 q28r8 q28r9 q28r10 q28r11 q28r12 q28r13 q28r17 q28r21 q28r28 q28r29 q28r33
theorem q28ok:cFn TC 114=some (58,[.t 2,.t 3],q28c40):=by kernel_rfl
def q29r0:yW:=[
 yI 2 (.mv (.v .nilsl)),
 yK 3 .i64 0]
def q29r1:yW:=[
 yM 14 0,
 yI 15 (.call (.v (.fn 142 [])) [(.t 14),(.v (.str [68]))]),
 yM 13 15,
 yE 16 0 13,
 yE 17 1 13,
 yE 18 2 13,
 yM 4 16,
 yM 5 17,
 yM 6 18]
def q29r2:yW:=[
 yM 19 6,
 yI 20 (.un .not (.t 19)),
 yM 21 20,
 yV 22 21 false 4,
 yG 23 21 false (.bin .gtr .none (.t 22) (.v (.int .u64 64))),
 yP 24 21 23]
def q29r3:yW:=[
 yI 2 (.mv (.v .nilsl)),
 yK 3 .i64 10]
def q29c4:yX:=yq q29r3 .ret
def q29c5:yX:=.cond (.t 24) q29c4 .skip
def q29c6:yX:=yq q29r2 q29c5
def q29r7:yW:=[
 yI 7 (.mv (.v .nilsl))]
def q29r8:yW:=[
 yM 25 4,
 yK 26 .u64 0]
def q29r9:yW:=[
 yB 27 .lss 26 25]
def q29r10:yW:=[
 yM 29 5,
 yC 30 145 29,
 yM 28 30,
 yE 31 0 28,
 yE 32 1 28,
 yE 33 2 28,
 yM 8 31,
 yM 9 32,
 yM 10 33]
def q29r11:yW:=[
 yM 35 9,
 yC 36 146 35,
 yM 34 36,
 yE 37 0 34,
 yE 38 1 34,
 yE 39 2 34,
 yI 11 (.alloc zZ0),
 yS 32 11 37,
 yM 9 38,
 yM 12 39]
def q29r12:yW:=[
 yM 40 10,
 yI 41 (.un .not (.t 40)),
 yM 42 41,
 yV 43 42 false 12,
 yG 44 42 false (.un .not (.t 43)),
 yP 45 42 44,
 yM 46 45,
 yV 47 46 false 8,
 yG 48 46 false (.bin .gtr .none (.t 47) (.v (.int .u64 4096))),
 yP 49 46 48]
def q29r13:yW:=[
 yI 2 (.mv (.v .nilsl)),
 yK 3 .i64 10]
def q29c14:yX:=yq q29r13 .ret
def q29c15:yX:=.cond (.t 49) q29c14 .skip
def q29c16:yX:=yq q29r12 q29c15
def q29r17:yW:=[
 yM 50 7,
 yM 51 8,
 yI 52 (.conv (.int .i64) (.t 51)),
 yL 53 true 32 11,
 yI 54 (.build ((.int .i64 0)::zZ0) [(0,1,(.t 52)),(1,32,(.t 53))]),
 yI 55 (.lit 33 [(.t 54)]),
 yI 56 (.app 33 (.t 50) (.t 55)),
 yM 57 9,
 yM 7 56,
 yM 5 57]
def q29c18:yX:=.seq q29c16 (.reg q29r17)
def q29c19:yX:=yq q29r11 q29c18
def q29c20:yX:=yq q29r10 q29c19
def q29r21:yW:=[
 yJ 58 .add 26 .u64 1,
 yM 26 58]
def q29c22:yX:=.seq (.block 1 q29c20) (.reg q29r21)
def q29c23:yX:=.seq (.cond (.t 27) .skip (.exit 0)) q29c22
def q29c24:yX:=yq q29r9 q29c23
def q29c25:yX:=.loop q29c24
def q29c26:yX:=.block 0 q29c25
def q29c27:yX:=yq q29r8 q29c26
def q29r28:yW:=[
 yM 59 5,
 yI 60 (.bin .neq .none (.t 59) (.v (.str [])))]
def q29r29:yW:=[
 yI 2 (.mv (.v .nilsl)),
 yK 3 .i64 10]
def q29c30:yX:=yq q29r29 .ret
def q29c31:yX:=.cond (.t 60) q29c30 .skip
def q29c32:yX:=yq q29r28 q29c31
def q29r33:yW:=[
 yM 61 7,
 yM 2 61,
 yK 3 .i64 0]
def q29c34:yX:=yq q29r33 .ret
def q29c35:yX:=.seq q29c32 q29c34
def q29c36:yX:=.seq q29c27 q29c35
def q29c37:yX:=yq q29r7 q29c36
def q29c38:yX:=.seq q29c6 q29c37
def q29c39:yX:=yq q29r1 q29c38
def q29c40:yX:=yq q29r0 q29c39
attribute [go_sem] q29r0 q29r1 q29r2 q29r3 q29r7 q29r8 q29r9 q29r10 q29r11 q29r12 q29r13 q29r17 q29r21 q29r28 q29r29 q29r33
theorem q29ok:cFn TC 115=some (62,[.t 2,.t 3],q29c40):=by kernel_rfl
def q2ar0:yW:=[
 yI 2 (.mv (.v (.str []))),
 yK 3 .i64 0]
def q2ar1:yW:=[
 yM 9 0,
 yI 10 (.lenSl (.t 9)),
 yJ 11 .eql 10 .i64 0,
 yM 12 11,
 yV 13 12 false 0,
 yG 14 12 false (.lenSl (.t 13)),
 yG 15 12 false (.bin .gtr .none (.t 14) (.v (.int .i64 3))),
 yP 16 12 15]
def q2ar2:yW:=[
 yI 2 (.mv (.v (.str []))),
 yK 3 .i64 2]
def q2ac3:yX:=yq q2ar2 .ret
def q2ac4:yX:=.cond (.t 16) q2ac3 .skip
def q2ac5:yX:=yq q2ar1 q2ac4
def q2ar6:yW:=[
 yI 4 (.allB)]
def q2ar7:yW:=[
 yM 17 0,
 yI 18 (.lenSl (.t 17)),
 yI 19 (.conv (.int .u64) (.t 18)),
 yC 20 109 19,
 yI 21 (.bin .add .none (.v (.str [71])) (.t 20)),
 yD 22 83 4 21]
def q2ar8:yW:=[
 yM 23 0,
 yI 24 (.lenSl (.t 23)),
 yK 25 .i64 0]
def q2ar9:yW:=[
 yB 26 .lss 25 24]
def q2ar10:yW:=[
 yI 27 (.iaSl 36 (.t 23) (.t 25)),
 yL 28 true 36 27,
 yI 6 (.alloc [(.int .i64 0),(.int .u8 0),(.int .u8 0),(.int .u8 0),(.int .u8 0),(.int .u8 0),(.int .u8 0),(.int .u8 0),(.int .u8 0),(.int .u8 0),(.int .u8 0),(.int .u8 0),(.int .u8 0),(.int .u8 0),(.int .u8 0),(.int .u8 0),(.int .u8 0),(.int .u8 0),(.int .u8 0),(.int .u8 0),(.int .u8 0),(.int .u8 0),(.int .u8 0),(.int .u8 0),(.int .u8 0),(.int .u8 0),(.int .u8 0),(.int .u8 0),(.int .u8 0),(.int .u8 0),(.int .u8 0),(.int .u8 0),(.int .u8 0),(.int .i64 0),(.str []),.nilsl]),
 yS 36 6 28]
def q2ar11:yW:=[
 yL 30 true 36 6,
 yC 31 147 30,
 yM 29 31,
 yE 32 0 29,
 yE 33 1 29,
 yM 7 32,
 yM 8 33]
def q2ar12:yW:=[
 yM 34 8,
 yJ 35 .neq 34 .i64 0]
def q2ar13:yW:=[
 yI 2 (.mv (.v (.str []))),
 yK 3 .i64 2]
def q2ac14:yX:=yq q2ar13 .ret
def q2ac15:yX:=.cond (.t 35) q2ac14 .skip
def q2ac16:yX:=yq q2ar12 q2ac15
def q2ar17:yW:=[
 yM 36 7,
 yC 37 129 36,
 yD 38 83 4 37]
def q2ac18:yX:=.seq q2ac16 (.reg q2ar17)
def q2ac19:yX:=yq q2ar11 q2ac18
def q2ac20:yX:=yq q2ar10 q2ac19
def q2ar21:yW:=[
 yJ 39 .add 25 .i64 1,
 yM 25 39]
def q2ac22:yX:=.seq (.block 1 q2ac20) (.reg q2ar21)
def q2ac23:yX:=.seq (.cond (.t 26) .skip (.exit 0)) q2ac22
def q2ac24:yX:=yq q2ar9 q2ac23
def q2ac25:yX:=.loop q2ac24
def q2ac26:yX:=.block 0 q2ac25
def q2ac27:yX:=yq q2ar8 q2ac26
def q2ar28:yW:=[
 yC 40 86 4,
 yM 2 40,
 yK 3 .i64 0]
def q2ac29:yX:=yq q2ar28 .ret
def q2ac30:yX:=.seq q2ac27 q2ac29
def q2ac31:yX:=yq q2ar7 q2ac30
def q2ac32:yX:=yq q2ar6 q2ac31
def q2ac33:yX:=.seq q2ac5 q2ac32
def q2ac34:yX:=yq q2ar0 q2ac33
attribute [go_sem] q2ar0 q2ar1 q2ar2 q2ar6 q2ar7 q2ar8 q2ar9 q2ar10 q2ar11 q2ar12 q2ar13 q2ar17 q2ar21 q2ar28
theorem q2aok:cFn TC 116=some (41,[.t 2,.t 3],q2ac34):=by kernel_rfl
def q2br0:yW:=[
 yI 3 (.box (.t 1)),
 yI 4 (.mv (.v (.bool false)))]
def q2br1:yW:=[
 yM 5 0,
 yL 6 true 33 3,
 yD 7 159 5 6,
 yJ 8 .geq 7 .i64 0,
 yM 4 8]
def q2bc2:yX:=yq q2br1 .ret
def q2bc3:yX:=yq q2br0 q2bc2
attribute [go_sem] q2br0 q2br1
theorem q2bok:cFn TC 141=some (9,[.t 4],q2bc3):=by kernel_rfl
def q2cr0:yW:=[
 yK 4 .u64 0,
 yI 5 (.mv (.v (.str []))),
 yI 6 (.mv (.v (.bool false)))]
def q2cr1:yW:=[
 yM 8 0,
 yM 9 1,
 yD 10 160 8 9,
 yM 7 10,
 yE 11 0 7,
 yE 12 1 7,
 yM 5 11,
 yM 6 12]
def q2cr2:yW:=[
 yM 13 6,
 yI 14 (.un .not (.t 13))]
def q2cr3:yW:=[
 yK 4 .u64 0,
 yI 5 (.mv (.v (.str []))),
 yI 6 (.mv (.v (.bool false)))]
def q2cc4:yX:=yq q2cr3 .ret
def q2cc5:yX:=.cond (.t 14) q2cc4 .skip
def q2cc6:yX:=yq q2cr2 q2cc5
def q2cr7:yW:=[
 yM 15 5,
 yC 16 145 15,
 yE 17 0 16,
 yE 18 1 16,
 yE 19 2 16,
 yM 4 17,
 yM 5 18,
 yM 6 19]
def q2cc8:yX:=yq q2cr7 .ret
def q2cc9:yX:=.seq q2cc6 q2cc8
def q2cc10:yX:=yq q2cr1 q2cc9
def q2cc11:yX:=yq q2cr0 q2cc10
attribute [go_sem] q2cr0 q2cr1 q2cr2 q2cr3 q2cr7
theorem q2cok:cFn TC 142=some (20,[.t 4,.t 5,.t 6],q2cc11):=by kernel_rfl
def q2dr0:yW:=[
 yI 3 (.box (.t 1)),
 yK 4 .i64 0]
def q2dr1:yW:=[
 yM 6 0,
 yI 7 (.lenSl (.t 6)),
 yK 8 .i64 0]
def q2dr2:yW:=[
 yB 9 .lss 8 7]
def q2dr3:yW:=[
 yM 10 8,
 yM 5 10]
def q2dr4:yW:=[
 ⟨some 11,none,.rd,.load true 33 (.t 3)⟩,
 yM 12 0,
 yM 13 5,
 yI 14 (.iaSl 33 (.t 12) (.t 13)),
 ⟨some 15,none,.rd,.load true 33 (.t 14)⟩,
 yI 16 (.bin .eql (.agg ([(.i .i64)]++(List.replicate 32 (.i .u8)++ []))) (.t 11) (.t 15))]
def q2dr5:yW:=[
 yM 17 5,
 yM 4 17]
def q2dc6:yX:=yq q2dr5 .ret
def q2dc7:yX:=.cond (.t 16) q2dc6 .skip
def q2dc8:yX:=yq q2dr4 q2dc7
def q2dc9:yX:=yq q2dr3 q2dc8
def q2dr10:yW:=[
 yJ 18 .add 8 .i64 1,
 yM 8 18]
def q2dc11:yX:=.seq (.block 1 q2dc9) (.reg q2dr10)
def q2dc12:yX:=.seq (.cond (.t 9) .skip (.exit 0)) q2dc11
def q2dc13:yX:=yq q2dr2 q2dc12
def q2dc14:yX:=.loop q2dc13
def q2dc15:yX:=.block 0 q2dc14
def q2dc16:yX:=yq q2dr1 q2dc15
def q2dr17:yW:=[
 yI 4 (.mv (.v (.int .i64 (-1))))]
def q2dc18:yX:=yq q2dr17 .ret
def q2dc19:yX:=.seq q2dc16 q2dc18
def q2dc20:yX:=yq q2dr0 q2dc19
attribute [go_sem] q2dr0 q2dr1 q2dr2 q2dr3 q2dr4 q2dr5 q2dr10 q2dr17
theorem q2dok:cFn TC 159=some (19,[.t 4],q2dc20):=by kernel_rfl
def q2er0:yW:=[
 yI 4 (.mv (.v (.str []))),
 yI 5 (.mv (.v (.bool false)))]
def q2er1:yW:=[
 yM 6 0,
 yM 7 1,
 yD 8 173 6 7,
 yE 9 0 8,
 yE 10 1 8,
 yM 4 9,
 yM 5 10]
def q2ec2:yX:=yq q2er1 .ret
def q2ec3:yX:=yq q2er0 q2ec2
attribute [go_sem] q2er0 q2er1
theorem q2eok:cFn TC 160=some (11,[.t 4,.t 5],q2ec3):=by kernel_rfl
def q2fr0:yW:=[
 yI 4 (.mv (.v (.str []))),
 yI 5 (.mv (.v (.bool false)))]
def q2fr1:yW:=[
 yM 6 0,
 yM 7 1,
 yD 8 176 6 7,
 yI 9 (.un .not (.t 8))]
def q2fr2:yW:=[
 yM 10 0,
 yM 4 10,
 yI 5 (.mv (.v (.bool false)))]
def q2fc3:yX:=yq q2fr2 .ret
def q2fc4:yX:=.cond (.t 9) q2fc3 .skip
def q2fc5:yX:=yq q2fr1 q2fc4
def q2fr6:yW:=[
 yM 11 0,
 yM 12 1,
 yI 13 (.lenStr (.t 12)),
 yI 14 (.slice .str (.t 11) (some (.t 13)) none none),
 yM 4 14,
 yI 5 (.mv (.v (.bool true)))]
def q2fc7:yX:=yq q2fr6 .ret
def q2fc8:yX:=.seq q2fc5 q2fc7
def q2fc9:yX:=yq q2fr0 q2fc8
attribute [go_sem] q2fr0 q2fr1 q2fr2 q2fr6
theorem q2fok:cFn TC 173=some (15,[.t 4,.t 5],q2fc9):=by kernel_rfl
end
section
set_option maxRecDepth 10000
def q2gr0:yW:=[
 yI 2 (.mv (.v (.bool false)))]
def q2gr1:yW:=[
 yM 23 0,
 yI 24 (.call (.v (.fn 18 [])) [(.t 23),(.v (.int .i64 25))])]
def q2gr2:yW:=[
 yI 25 (.call (.v (.fn 19 [])) []),
 yM 2 25]
def q2gc3:yX:=yq q2gr2 .ret
def q2gc4:yX:=.cond (.t 24) q2gc3 .skip
def q2gc5:yX:=yq q2gr1 q2gc4
def q2gr6:yW:=[
 yI 26 (.call (.v (.fn 9 [])) [(.v (.str [108,111,103]))]),
 yM 3 26]
def q2gr7:yW:=[
 yM 28 3,
 yC 29 11 28,
 yI 30 (.call (.v (.fn 28 [])) [(.t 29),(.v (.int .i64 3))]),
 yM 27 30,
 yE 31 0 27,
 yE 32 1 27,
 yM 4 31,
 yM 5 32]
def q2gr8:yW:=[
 yM 33 3,
 yC 34 11 33,
 yC 35 10 34,
 yM 6 35]
def q2gr9:yW:=[
 yM 36 5,
 yJ 37 .neq 36 .i64 0]
def q2gr10:yW:=[
 yI 2 (.mv (.v (.bool false)))]
def q2gc11:yX:=yq q2gr10 .ret
def q2gc12:yX:=.cond (.t 37) q2gc11 .skip
def q2gc13:yX:=yq q2gr9 q2gc12
def q2gr14:yW:=[
 yK 7 .i64 0]
def q2gr15:yW:=[
 yM 38 7,
 yM 39 0,
 yI 40 (.lenSl (.t 39)),
 yB 41 .lss 38 40]
def q2gc16:yX:=.cond (.t 41) .skip (.exit 0)
def q2gc17:yX:=yq q2gr15 q2gc16
def q2gr18:yW:=[
 yM 44 0,
 yM 45 7,
 yI 46 (.iaSl 45 (.t 44) (.t 45)),
 yL 47 true 45 46,
 yI 8 (.alloc [(.int .u8 0),(.int .u8 0),(.int .u8 0),(.int .u8 0),(.int .u8 0),(.int .u8 0),(.int .u8 0),(.int .i64 0),(.int .u8 0),(.int .u8 0),(.int .u8 0),(.int .u8 0),(.int .u8 0),(.int .u8 0),(.int .u8 0),(.int .u8 0),(.int .u8 0),(.int .u8 0),(.int .u8 0),(.int .u8 0),(.int .u8 0),(.int .u8 0),(.int .u8 0),(.int .u8 0),(.int .u8 0),(.int .u8 0),(.int .u8 0),(.int .u8 0),(.int .u8 0),(.int .u8 0),(.int .u8 0),(.int .u8 0),(.int .u8 0),(.int .u8 0),(.int .u8 0),(.int .u8 0),(.int .u8 0),(.int .u8 0),(.int .u8 0),(.int .u8 0),(.int .i64 0),(.str []),.nilsl,(.int .i64 0),(.int .i64 0)]),
 yS 45 8 47]
def q2gr19:yW:=[
 yF 48 1 8,
 ⟨some 49,none,.rd,.load false 1 (.t 48)⟩,
 yI 50 (.conv (.int .i64) (.t 49)),
 yJ 51 .rem 50 .i64 3,
 yF 52 2 8,
 ⟨some 53,none,.rd,.load false 1 (.t 52)⟩,
 yI 54 (.conv (.int .i64) (.t 53)),
 yJ 55 .rem 54 .i64 3,
 yM 9 51,
 yM 10 55]
def q2gr20:yW:=[
 yM 56 4,
 yI 57 (.call (.v (.fn 27 [])) [(.t 56),(.v (.int .i64 0))]),
 yM 58 4,
 yI 59 (.call (.v (.fn 27 [])) [(.t 58),(.v (.int .i64 1))]),
 yM 60 4,
 yI 61 (.call (.v (.fn 27 [])) [(.t 60),(.v (.int .i64 2))]),
 yI 62 (.build [.nilp,.nilp,.nilp] [(0,1,(.t 57)),(1,1,(.t 59)),(2,1,(.t 61))]),
 yI 11 (.alloc [.nilp,.nilp,.nilp]),
 yS 3 11 62]
def q2gr21:yW:=[
 yF 63 0 8,
 yL 64 false 1 63,
 yJ 65 .rem 64 .u8 14]
def q2gr22:yW:=[
 yJ 67 .eql 65 .u8 4,
 yM 66 67]
def q2gr23:yW:=[
 yJ 68 .eql 65 .u8 5,
 yM 66 68]
def q2gc24:yX:=.cond (.t 66) .skip (.reg q2gr23)
def q2gc25:yX:=yq q2gr22 q2gc24
@[go_sem] def zez:List AIns:=[
 yM 69 4,
 yM 70 9,
 yM 71 10,
 yI 72 (.call (.v (.fn 22 [])) [(.t 69),(.t 70),(.t 71)])]
def q2gr27:yW:=[
 yJ 74 .eql 65 .u8 6,
 yM 73 74]
def q2gr28:yW:=[
 yJ 75 .eql 65 .u8 7,
 yM 73 75]
def q2gr29:yW:=[
 yJ 76 .eql 65 .u8 8,
 yM 73 76]
def q2gc30:yX:=.cond (.t 73) .skip (.reg q2gr29)
def q2gc31:yX:=yq q2gr28 q2gc30
def q2gc32:yX:=.cond (.t 73) .skip q2gc31
def q2gc33:yX:=yq q2gr27 q2gc32
@[go_sem] def zf0:List AIns:=[
 yM 77 4,
 yF 78 1 8,
 yL 79 false 1 78,
 yI 80 (.conv (.int .i64) (.t 79)),
 yJ 81 .rem 80 .i64 4,
 yD 82 23 77 81]
def q2gr35:yW:=[
 yJ 84 .eql 65 .u8 9,
 yM 83 84]
@[go_sem] def zf1:List AIns:=[
 yM 85 4,
 yF 86 1 8,
 yL 87 false 1 86,
 yI 88 (.conv (.int .i64) (.t 87)),
 yJ 89 .rem 88 .i64 4,
 yD 90 24 85 89]
def q2gr37:yW:=[
 yJ 92 .eql 65 .u8 10,
 yM 91 92]
@[go_sem] def zf2:List AIns:=[
 yM 93 4,
 yF 94 1 8,
 yL 95 false 1 94,
 yI 96 (.conv (.int .i64) (.t 95)),
 yJ 97 .rem 96 .i64 4,
 yD 98 25 93 97]
def q2gr39:yW:=[
 yJ 100 .eql 65 .u8 11,
 yM 99 100]
@[go_sem] def zf3:List AIns:=[
 yM 101 4,
 yM 102 9,
 yM 103 10,
 yI 104 (.call (.v (.fn 20 [])) [(.t 101),(.t 102),(.t 103)])]
def q2gr41:yW:=[
 yJ 106 .eql 65 .u8 0,
 yM 105 106]
def q2gr42:yW:=[
 yJ 107 .eql 65 .u8 1,
 yM 105 107]
def q2gr43:yW:=[
 yJ 108 .eql 65 .u8 2,
 yM 105 108]
def q2gr44:yW:=[
 yJ 109 .eql 65 .u8 3,
 yM 105 109]
def q2gc45:yX:=.cond (.t 105) .skip (.reg q2gr44)
def q2gc46:yX:=yq q2gr43 q2gc45
def q2gc47:yX:=.cond (.t 105) .skip q2gc46
def q2gc48:yX:=yq q2gr42 q2gc47
def q2gc49:yX:=.cond (.t 105) .skip q2gc48
def q2gc50:yX:=yq q2gr41 q2gc49
def q2gr51:yW:=[
 yF 110 3 8,
 yL 111 true 4 110,
 yM 112 3,
 yD 113 12 111 112,
 yI 12 (.alloc [(.int .i64 0),(.int .u8 0),(.int .u8 0),(.int .u8 0),(.int .u8 0),(.int .u8 0),(.int .u8 0),(.int .u8 0),(.int .u8 0),(.int .u8 0),(.int .u8 0),(.int .u8 0),(.int .u8 0),(.int .u8 0),(.int .u8 0),(.int .u8 0),(.int .u8 0),(.int .u8 0),(.int .u8 0),(.int .u8 0),(.int .u8 0),(.int .u8 0),(.int .u8 0),(.int .u8 0),(.int .u8 0),(.int .u8 0),(.int .u8 0),(.int .u8 0),(.int .u8 0),(.int .u8 0),(.int .u8 0),(.int .u8 0),(.int .u8 0),(.int .i64 0),(.str []),.nilsl]),
 yS 36 12 113]
def q2gr52:yW:=[
 yM 114 6,
 yL 115 true 36 12,
 yD 116 14 114 115,
 yJ 117 .eql 116 .i64 4]
def q2gr53:yW:=[
 yI 118 (.call (.v (.fn 19 [])) []),
 yM 2 118]
def q2gc54:yX:=yq q2gr53 .ret
def q2gc55:yX:=.cond (.t 117) q2gc54 .skip
def q2gc56:yX:=yq q2gr52 q2gc55
def q2gr57:yW:=[
 yM 119 4,
 yM 120 9,
 yL 121 true 36 12,
 yI 122 (.call (.v (.fn 21 [])) [(.t 119),(.t 120),(.t 121)])]
def q2gc58:yX:=.seq q2gc56 (.reg q2gr57)
def zc4:ACode:=.seq (.reg q2gr51) q2gc58
def zl3:ACode:=.cond (.t 105) zc4 .skip
def zl4:ACode:=.seq q2gc50 zl3
def zl5:ACode:=.cond (.t 99) (.reg zf3) zl4
def zl6:ACode:=.seq (.reg q2gr39) zl5
def zl7:ACode:=.cond (.t 91) (.reg zf2) zl6
def zl8:ACode:=.seq (.reg q2gr37) zl7
def zl9:ACode:=.cond (.t 83) (.reg zf1) zl8
def zla:ACode:=.seq (.reg q2gr35) zl9
def zlb:ACode:=.cond (.t 73) (.reg zf0) zla
def zlc:ACode:=.seq q2gc33 zlb
def zld:ACode:=.cond (.t 66) (.reg zez) zlc
def zle:ACode:=.seq q2gc25 zld
def zlf:ACode:=.block 2 zle
def zc5:ACode:=.seq (.reg q2gr21) zlf
def q2gr74:yW:=[
 yK 13 .i64 0]
def q2gr75:yW:=[
 yM 123 13,
 yJ 124 .lss 123 .i64 3]
def q2gc76:yX:=.cond (.t 124) .skip (.exit 3)
def q2gc77:yX:=yq q2gr75 q2gc76
def q2gr78:yW:=[
 yM 127 4,
 yM 128 13,
 yD 129 27 127 128,
 yM 14 129]
def q2gr79:yW:=[
 yM 130 14,
 ⟨some 131,none,.ef,.call (.v (.fn 29 [])) [(.t 130)]⟩,
 yM 132 13,
 yI 133 (.iaArr 3 1 (.t 11) (.t 132)),
 ⟨some 134,none,.rd,.load false 1 (.t 133)⟩,
 yC 135 29 134,
 yM 15 131,
 yM 16 135]
def q2gr80:yW:=[
 yK 17 .i64 0]
def q2gr81:yW:=[
 yM 136 17,
 yM 137 15,
 yI 138 (.lenSl (.t 137)),
 yB 139 .lss 136 138]
def q2gc82:yX:=.cond (.t 139) .skip (.exit 5)
def q2gc83:yX:=yq q2gr81 q2gc82
def q2gr84:yW:=[
 yM 142 6,
 yM 143 15,
 yM 144 17,
 yI 145 (.iaSl 33 (.t 143) (.t 144)),
 yL 146 true 33 145,
 yD 147 30 142 146,
 yI 148 (.un .not (.t 147))]
def q2gr85:yW:=[
 yI 2 (.mv (.v (.bool false)))]
def q2gc86:yX:=yq q2gr85 .ret
def q2gc87:yX:=.cond (.t 148) q2gc86 .skip
def q2gc88:yX:=yq q2gr84 q2gc87
def q2gr89:yW:=[
 yM 140 17,
 yJ 141 .add 140 .i64 1,
 yM 17 141]
def q2gc90:yX:=.seq (.block 6 q2gc88) (.reg q2gr89)
def q2gc91:yX:=.seq q2gc83 q2gc90
def q2gc92:yX:=.loop q2gc91
def q2gc93:yX:=.block 5 q2gc92
def q2gc94:yX:=yq q2gr80 q2gc93
def q2gr95:yW:=[
 yK 18 .i64 0]
def q2gr96:yW:=[
 yM 149 18,
 yM 150 16,
 yI 151 (.lenSl (.t 150)),
 yB 152 .lss 149 151]
def q2gc97:yX:=.cond (.t 152) .skip (.exit 7)
def q2gc98:yX:=yq q2gr96 q2gc97
def q2gr99:yW:=[
 yM 155 14,
 yM 156 16,
 yM 157 18,
 yI 158 (.iaSl 33 (.t 156) (.t 157)),
 yL 159 true 33 158,
 yD 160 30 155 159,
 yI 161 (.un .not (.t 160))]
@[go_sem] def zxr:List AIns:=[
 yI 2 (.mv (.v (.bool false)))]
def zvw:ACode:=.seq (.reg zxr) .ret
def zvx:ACode:=.cond (.t 161) zvw .skip
def zvy:ACode:=.seq (.reg q2gr99) zvx
@[go_sem] def zxs:List AIns:=[
 yM 153 18,
 yJ 154 .add 153 .i64 1,
 yM 18 154]
def zvz:ACode:=.seq (.block 8 zvy) (.reg zxs)
def zw0:ACode:=.seq q2gc98 zvz
def zw1:ACode:=.loop zw0
def zw2:ACode:=.block 7 zw1
def zw3:ACode:=.seq (.reg q2gr95) zw2
def zbx:ACode:=.seq q2gc94 zw3
def zw4:ACode:=.seq (.reg q2gr79) zbx
def zw5:ACode:=.seq (.reg q2gr78) zw4
@[go_sem] def zxt:List AIns:=[
 yM 125 13,
 yJ 126 .add 125 .i64 1,
 yM 13 126]
def zw6:ACode:=.seq (.block 4 zw5) (.reg zxt)
def zw7:ACode:=.seq q2gc77 zw6
def zw8:ACode:=.loop zw7
def zw9:ACode:=.block 3 zw8
def zby:ACode:=.seq (.reg q2gr74) zw9
def zwa:ACode:=.seq zc5 zby
def zwb:ACode:=.seq (.reg q2gr20) zwa
def zwc:ACode:=.seq (.reg q2gr19) zwb
def zbz:ACode:=.seq (.reg q2gr18) zwc
@[go_sem] def zxu:List AIns:=[
 yM 42 7,
 yJ 43 .add 42 .i64 1,
 yM 7 43]
def zwd:ACode:=.seq (.block 1 zbz) (.reg zxu)
def zwe:ACode:=.seq q2gc17 zwd
def zwf:ACode:=.loop zwe
def zwg:ACode:=.block 0 zwf
def zwh:ACode:=.seq (.reg q2gr14) zwg
@[go_sem] def zxv:List AIns:=[
 yK 19 .i64 0]
@[go_sem] def zxw:List AIns:=[
 yM 162 19,
 yJ 163 .lss 162 .i64 400,
 yM 164 163,
 yV 165 164 true 4,
 yG 166 164 true (.call (.v (.fn 26 [])) [(.t 165)]),
 yG 167 164 true (.bin .gtr .none (.t 166) (.v (.int .i64 0))),
 yQ 168 164 167]
def zwi:ACode:=.cond (.t 168) .skip (.exit 9)
def zwj:ACode:=.seq (.reg zxw) zwi
@[go_sem] def zxx:List AIns:=[
 yM 171 4,
 yI 172 (.call (.v (.fn 24 [])) [(.t 171),(.v (.int .i64 0))])]
@[go_sem] def zxy:List AIns:=[
 yM 169 19,
 yJ 170 .add 169 .i64 1,
 yM 19 170]
def zwk:ACode:=.seq (.block 10 (.reg zxx)) (.reg zxy)
def zwl:ACode:=.seq zwj zwk
def zwm:ACode:=.loop zwl
def zwn:ACode:=.block 9 zwm
def zwo:ACode:=.seq (.reg zxv) zwn
@[go_sem] def zxz:List AIns:=[
 yK 20 .i64 0]
@[go_sem] def zy0:List AIns:=[
 yM 173 20,
 yJ 174 .lss 173 .i64 6]
def zwp:ACode:=.cond (.t 174) .skip (.exit 11)
def zwq:ACode:=.seq (.reg zy0) zwp
@[go_sem] def zy1:List AIns:=[
 yM 177 4,
 yI 178 (.call (.v (.fn 22 [])) [(.t 177),(.v (.int .i64 0)),(.v (.int .i64 1))]),
 yJ 179 .neq 178 .i64 0]
@[go_sem] def zy2:List AIns:=[
 yI 2 (.mv (.v (.bool false)))]
def zwr:ACode:=.seq (.reg zy2) .ret
def zws:ACode:=.cond (.t 179) zwr .skip
def zwt:ACode:=.seq (.reg zy1) zws
@[go_sem] def zy3:List AIns:=[
 yM 180 4,
 yC 181 26 180,
 yJ 182 .gtr 181 .i64 0]
def zwu:ACode:=.cond (.t 182) .skip (.exit 13)
def zwv:ACode:=.seq (.reg zy3) zwu
@[go_sem] def zy4:List AIns:=[
 yM 183 4,
 yI 184 (.call (.v (.fn 23 [])) [(.t 183),(.v (.int .i64 0))]),
 yJ 185 .neq 184 .i64 0]
@[go_sem] def zy5:List AIns:=[
 yI 2 (.mv (.v (.bool false)))]
def zww:ACode:=.seq (.reg zy5) .ret
def zwx:ACode:=.cond (.t 185) zww .skip
def zwy:ACode:=.seq (.reg zy4) zwx
def zwz:ACode:=.block 14 zwy
def zx0:ACode:=.seq zwv zwz
def zx1:ACode:=.loop zx0
def zx2:ACode:=.block 13 zx1
def zx3:ACode:=.seq zwt zx2
@[go_sem] def zy6:List AIns:=[
 yM 175 20,
 yJ 176 .add 175 .i64 1,
 yM 20 176]
def zx4:ACode:=.seq (.block 12 zx3) (.reg zy6)
def zx5:ACode:=.seq zwq zx4
def zx6:ACode:=.loop zx5
def zx7:ACode:=.block 11 zx6
def zx8:ACode:=.seq (.reg zxz) zx7
@[go_sem] def zy7:List AIns:=[
 yM 186 4,
 yI 187 (.call (.v (.fn 27 [])) [(.t 186),(.v (.int .i64 1))]),
 yC 188 29 187,
 yM 21 188]
@[go_sem] def zy8:List AIns:=[
 yK 22 .i64 0]
@[go_sem] def zy9:List AIns:=[
 yM 189 22,
 yM 190 21,
 yI 191 (.lenSl (.t 190)),
 yB 192 .lss 189 191]
def zx9:ACode:=.cond (.t 192) .skip (.exit 15)
def zxa:ACode:=.seq (.reg zy9) zx9
@[go_sem] def zya:List AIns:=[
 yM 195 4,
 ⟨some 196,none,.ef,.call (.v (.fn 27 [])) [(.t 195),(.v (.int .i64 0))]⟩,
 yM 197 21,
 yM 198 22,
 yI 199 (.iaSl 33 (.t 197) (.t 198)),
 ⟨some 200,none,.rd,.load true 33 (.t 199)⟩,
 yD 201 30 196 200,
 yI 202 (.un .not (.t 201))]
@[go_sem] def zyb:List AIns:=[
 yI 2 (.mv (.v (.bool false)))]
def zxb:ACode:=.seq (.reg zyb) .ret
def zxc:ACode:=.cond (.t 202) zxb .skip
def zxd:ACode:=.seq (.reg zya) zxc
@[go_sem] def zyc:List AIns:=[
 yM 193 22,
 yJ 194 .add 193 .i64 1,
 yM 22 194]
def zxe:ACode:=.seq (.block 16 zxd) (.reg zyc)
def zxf:ACode:=.seq zxa zxe
def zxg:ACode:=.loop zxf
def zxh:ACode:=.block 15 zxg
def zxi:ACode:=.seq (.reg zy8) zxh
@[go_sem] def zyd:List AIns:=[
 yI 203 (.call (.v (.fn 19 [])) []),
 yM 2 203]
def zxj:ACode:=.seq (.reg zyd) .ret
def zxk:ACode:=.seq zxi zxj
def zc0:ACode:=.seq (.reg zy7) zxk
def zc1:ACode:=.seq zx8 zc0
def zc2:ACode:=.seq zwo zc1
def zc3:ACode:=.seq zwh zc2
def zxl:ACode:=.seq q2gc13 zc3
def zxm:ACode:=.seq (.reg q2gr8) zxl
def zxn:ACode:=.seq (.reg q2gr7) zxm
def zxo:ACode:=.seq (.reg q2gr6) zxn
def zxp:ACode:=.seq q2gc5 zxo
def zxq:ACode:=.seq (.reg q2gr0) zxp
attribute [go_sem] q2gr0 q2gr1 q2gr2 q2gr6 q2gr7 q2gr8 q2gr9 q2gr10 q2gr14 q2gr15 q2gr18 q2gr19 q2gr20 q2gr21 q2gr22 q2gr23 q2gr27 q2gr28 q2gr29 q2gr35 q2gr37 q2gr39 q2gr41 q2gr42 q2gr43 q2gr44 q2gr51 q2gr52 q2gr53 q2gr57 q2gr74 q2gr75 q2gr78 q2gr79 q2gr80 q2gr81 q2gr84 q2gr85 q2gr89 q2gr95 q2gr96 q2gr99
theorem q2gok:cFn TC 5=some (204,[.t 2],zxq):=by kernel_rfl
@[go_sem] def z12v:List AIns:=[
 yK 10 .i64 0]
@[go_sem] def z12w:List AIns:=[
 yM 47 10,
 yM 48 1,
 yI 49 (.lenSl (.t 48)),
 yB 50 .lss 47 49]
def z11j:ACode:=.cond (.t 50) .skip (.exit 0)
def z11k:ACode:=.seq (.reg z12w) z11j
@[go_sem] def z12x:List AIns:=[
 yM 53 1,
 yM 54 10,
 yI 55 (.iaSl 4 (.t 53) (.t 54)),
 yL 56 true 4 55,
 yM 57 6,
 yD 58 12 56 57,
 yI 11 (.alloc [(.int .i64 0),(.int .u8 0),(.int .u8 0),(.int .u8 0),(.int .u8 0),(.int .u8 0),(.int .u8 0),(.int .u8 0),(.int .u8 0),(.int .u8 0),(.int .u8 0),(.int .u8 0),(.int .u8 0),(.int .u8 0),(.int .u8 0),(.int .u8 0),(.int .u8 0),(.int .u8 0),(.int .u8 0),(.int .u8 0),(.int .u8 0),(.int .u8 0),(.int .u8 0),(.int .u8 0),(.int .u8 0),(.int .u8 0),(.int .u8 0),(.int .u8 0),(.int .u8 0),(.int .u8 0),(.int .u8 0),(.int .u8 0),(.int .u8 0),(.int .i64 0),(.str []),.nilsl]),
 yS 36 11 58]
@[go_sem] def z12y:List AIns:=[
 yM 59 7,
 yM 60 10,
 yJ 61 .mul 60 .i64 5,
 yM 62 0,
 yI 63 (.conv (.int .i64) (.t 62)),
 yB 64 .add 61 63,
 yM 65 5,
 yB 66 .rem 64 65,
 ⟨some 67,none,.rd,.load true 36 (.t 11)⟩,
 ⟨some 68,none,.ef,.call (.v (.fn 21 [])) [(.t 59),(.t 66),(.t 67)]⟩,
 yJ 69 .eql 68 .i64 0,
 yM 70 9,
 ⟨some 71,none,.rd,.load true 36 (.t 11)⟩,
 yD 72 14 70 71,
 yJ 73 .eql 72 .i64 0,
 yI 74 (.bin .neq .bool (.t 69) (.t 73))]
@[go_sem] def z12z:List AIns:=[
 yI 4 (.mv (.v (.bool false)))]
def z11l:ACode:=.seq (.reg z12z) .ret
def z11m:ACode:=.cond (.t 74) z11l .skip
def z11n:ACode:=.seq (.reg z12y) z11m
def zmk:ACode:=.seq (.reg z12x) z11n
@[go_sem] def z130:List AIns:=[
 yM 51 10,
 yJ 52 .add 51 .i64 1,
 yM 10 52]
def z11o:ACode:=.seq (.block 1 zmk) (.reg z130)
def z11p:ACode:=.seq z11k z11o
def z11q:ACode:=.loop z11p
def z11r:ACode:=.block 0 z11q
def z11s:ACode:=.seq (.reg z12v) z11r
@[go_sem] def z131:List AIns:=[
 yK 12 .i64 1]
@[go_sem] def z132:List AIns:=[
 yM 75 12,
 yM 76 5,
 yB 77 .lss 75 76]
def z11t:ACode:=.cond (.t 77) .skip (.exit 2)
def z11u:ACode:=.seq (.reg z132) z11t
@[go_sem] def z133:List AIns:=[
 yM 81 7,
 yM 82 12,
 yJ 83 .sub 82 .i64 1,
 yM 84 12,
 yI 85 (.call (.v (.fn 20 [])) [(.t 81),(.t 83),(.t 84)]),
 yM 80 85,
 yE 86 0 80,
 yE 87 1 80,
 yM 13 86,
 yM 14 87]
@[go_sem] def z134:List AIns:=[
 yM 88 14,
 yJ 89 .neq 88 .i64 0]
@[go_sem] def z135:List AIns:=[
 yI 4 (.mv (.v (.bool false)))]
def z11v:ACode:=.seq (.reg z135) .ret
def z11w:ACode:=.cond (.t 89) z11v .skip
def z11x:ACode:=.seq (.reg z134) z11w
def z11y:ACode:=.seq (.reg z133) z11x
@[go_sem] def z136:List AIns:=[
 yM 78 12,
 yJ 79 .add 78 .i64 1,
 yM 12 79]
def z11z:ACode:=.seq (.block 3 z11y) (.reg z136)
def z120:ACode:=.seq z11u z11z
def z121:ACode:=.loop z120
def z122:ACode:=.block 2 z121
def z123:ACode:=.seq (.reg z131) z122
@[go_sem] def z137:List AIns:=[
 yM 90 5,
 yJ 91 .sub 90 .i64 2,
 yM 15 91]
@[go_sem] def z138:List AIns:=[
 yM 92 15,
 yJ 93 .gtr 92 .i64 0]
def z124:ACode:=.cond (.t 93) .skip (.exit 4)
def z125:ACode:=.seq (.reg z138) z124
@[go_sem] def z139:List AIns:=[
 yM 97 7,
 yM 98 15,
 yM 99 15,
 yJ 100 .sub 99 .i64 1,
 yI 101 (.call (.v (.fn 20 [])) [(.t 97),(.t 98),(.t 100)]),
 yM 96 101,
 yE 102 0 96,
 yE 103 1 96,
 yM 16 102,
 yM 17 103]
@[go_sem] def z13a:List AIns:=[
 yM 104 17,
 yJ 105 .neq 104 .i64 0]
@[go_sem] def z13b:List AIns:=[
 yI 4 (.mv (.v (.bool false)))]
def z126:ACode:=.seq (.reg z13b) .ret
def z128:ACode:=.cond (.t 105) z126 .skip
def z129:ACode:=.seq (.reg z13a) z128
def z12a:ACode:=.seq (.reg z139) z129
@[go_sem] def z13c:List AIns:=[
 yM 94 15,
 yJ 95 .sub 94 .i64 1,
 yM 15 95]
def z12b:ACode:=.seq (.block 5 z12a) (.reg z13c)
def z12c:ACode:=.seq z125 z12b
def z12d:ACode:=.loop z12c
def z12e:ACode:=.block 4 z12d
def z12f:ACode:=.seq (.reg z137) z12e
@[go_sem] def z13d:List AIns:=[
 yM 107 9,
 yC 108 31 107,
 yM 106 108,
 yE 109 0 106,
 yE 110 1 106,
 yE 111 2 106,
 yI 18 (.alloc [(.int .i64 0),(.int .u8 0),(.int .u8 0),(.int .u8 0),(.int .u8 0),(.int .u8 0),(.int .u8 0),(.int .u8 0),(.int .u8 0),(.int .u8 0),(.int .u8 0),(.int .u8 0),(.int .u8 0),(.int .u8 0),(.int .u8 0),(.int .u8 0),(.int .u8 0),(.int .u8 0),(.int .u8 0),(.int .u8 0),(.int .u8 0),(.int .u8 0),(.int .u8 0),(.int .u8 0),(.int .u8 0),(.int .u8 0),(.int .u8 0),(.int .u8 0),(.int .u8 0),(.int .u8 0),(.int .u8 0),(.int .u8 0),(.int .u8 0),(.int .i64 0),(.str []),.nilsl]),
 yI 19 (.alloc [(.int .i64 0),(.int .u8 0),(.int .u8 0),(.int .u8 0),(.int .u8 0),(.int .u8 0),(.int .u8 0),(.int .u8 0),(.int .u8 0),(.int .u8 0),(.int .u8 0),(.int .u8 0),(.int .u8 0),(.int .u8 0),(.int .u8 0),(.int .u8 0),(.int .u8 0),(.int .u8 0),(.int .u8 0),(.int .u8 0),(.int .u8 0),(.int .u8 0),(.int .u8 0),(.int .u8 0),(.int .u8 0),(.int .u8 0),(.int .u8 0),(.int .u8 0),(.int .u8 0),(.int .u8 0),(.int .u8 0),(.int .u8 0),(.int .u8 0),(.int .i64 0),(.str []),.nilsl]),
 yS 36 18 109,
 yS 36 19 110,
 yM 20 111]
@[go_sem] def z13e:List AIns:=[
 yK 21 .i64 0]
@[go_sem] def z13f:List AIns:=[
 yM 112 21,
 yM 113 5,
 yB 114 .lss 112 113]
def z12g:ACode:=.cond (.t 114) .skip (.exit 6)
def z12h:ACode:=.seq (.reg z13f) z12g
@[go_sem] def z13g:List AIns:=[
 yM 117 7,
 yM 118 21,
 yD 119 27 117 118,
 yM 22 119]
@[go_sem] def z13h:List AIns:=[
 yM 121 22,
 yC 122 31 121,
 yM 120 122,
 yE 123 0 120,
 yE 124 1 120,
 yE 125 2 120,
 yI 23 (.alloc [(.int .i64 0),(.int .u8 0),(.int .u8 0),(.int .u8 0),(.int .u8 0),(.int .u8 0),(.int .u8 0),(.int .u8 0),(.int .u8 0),(.int .u8 0),(.int .u8 0),(.int .u8 0),(.int .u8 0),(.int .u8 0),(.int .u8 0),(.int .u8 0),(.int .u8 0),(.int .u8 0),(.int .u8 0),(.int .u8 0),(.int .u8 0),(.int .u8 0),(.int .u8 0),(.int .u8 0),(.int .u8 0),(.int .u8 0),(.int .u8 0),(.int .u8 0),(.int .u8 0),(.int .u8 0),(.int .u8 0),(.int .u8 0),(.int .u8 0),(.int .i64 0),(.str []),.nilsl]),
 yI 24 (.alloc [(.int .i64 0),(.int .u8 0),(.int .u8 0),(.int .u8 0),(.int .u8 0),(.int .u8 0),(.int .u8 0),(.int .u8 0),(.int .u8 0),(.int .u8 0),(.int .u8 0),(.int .u8 0),(.int .u8 0),(.int .u8 0),(.int .u8 0),(.int .u8 0),(.int .u8 0),(.int .u8 0),(.int .u8 0),(.int .u8 0),(.int .u8 0),(.int .u8 0),(.int .u8 0),(.int .u8 0),(.int .u8 0),(.int .u8 0),(.int .u8 0),(.int .u8 0),(.int .u8 0),(.int .u8 0),(.int .u8 0),(.int .u8 0),(.int .u8 0),(.int .i64 0),(.str []),.nilsl]),
 yS 36 23 123,
 yS 36 24 124,
 yM 25 125]
@[go_sem] def z13i:List AIns:=[
 yM 126 22,
 yM 127 9,
 yD 128 17 126 127,
 yI 129 (.un .not (.t 128)),
 yM 130 129,
 yV 131 130 false 25,
 yV 132 130 false 20,
 yG 133 130 false (.bin .neq .bool (.t 131) (.t 132)),
 yP 134 130 133]
@[go_sem] def z13j:List AIns:=[
 yI 4 (.mv (.v (.bool false)))]
def z12i:ACode:=.seq (.reg z13j) .ret
def z12j:ACode:=.cond (.t 134) z12i .skip
def z12k:ACode:=.seq (.reg z13i) z12j
def z12l:ACode:=.seq (.reg z13h) z12k
def z12m:ACode:=.seq (.reg z13g) z12l
@[go_sem] def z13k:List AIns:=[
 yM 115 21,
 yJ 116 .add 115 .i64 1,
 yM 21 116]
def z12n:ACode:=.seq (.block 7 z12m) (.reg z13k)
def z12o:ACode:=.seq z12h z12n
def z12p:ACode:=.loop z12o
def z12q:ACode:=.block 6 z12p
def z12r:ACode:=.seq (.reg z13e) z12q
@[go_sem] def z13l:List AIns:=[
 yI 135 (.call (.v (.fn 19 [])) []),
 yM 4 135]
def z12s:ACode:=.seq (.reg z13l) .ret
def z12t:ACode:=.seq z12r z12s
def zml:ACode:=.seq (.reg z13d) z12t
def zmm:ACode:=.seq z12f zml
def zmn:ACode:=.seq z123 zmm
def z12u:ACode:=.seq z11s zmn
def q2hr0:yW:=[
 yI 4 (.mv (.v (.bool false)))]
def q2hr1:yW:=[
 yK 5 .i64 0]
def q2hr2:yW:=[
 yM 6 5,
 yM 7 0,
 yI 8 (.lenSl (.t 7)),
 yB 9 .lss 6 8]
def q2hc3:yX:=.cond (.t 9) .skip (.exit 0)
def q2hc4:yX:=yq q2hr2 q2hc3
def q2hr5:yW:=[
 yM 12 0,
 yM 13 5,
 yI 14 (.iaSl 45 (.t 12) (.t 13)),
 yF 15 7 14,
 yF 16 33 15,
 yF 17 1 16,
 yL 18 false 1 17,
 yI 19 (.lenStr (.t 18)),
 yJ 20 .gtr 19 .i64 17000,
 yM 21 20,
 yV 22 21 false 0,
 yV 23 21 false 5,
 yG 24 21 false (.iaSl 45 (.t 22) (.t 23)),
 yT 25 21 false 7 24,
 yT 26 21 false 33 25,
 yT 27 21 false 2 26,
 yU 28 21 false false 1 27,
 yG 29 21 false (.lenSl (.t 28)),
 yG 30 21 false (.bin .gtr .none (.t 29) (.v (.int .i64 10))),
 yP 31 21 30]
def q2hr6:yW:=[
 yI 4 (.mv (.v (.bool true)))]
def q2hc7:yX:=yq q2hr6 .ret
def q2hc8:yX:=.cond (.t 31) q2hc7 .skip
def q2hc9:yX:=yq q2hr5 q2hc8
def q2hr10:yW:=[
 yM 10 5,
 yJ 11 .add 10 .i64 1,
 yM 5 11]
def q2hc11:yX:=.seq (.block 1 q2hc9) (.reg q2hr10)
def q2hc12:yX:=.seq q2hc4 q2hc11
def q2hc13:yX:=.loop q2hc12
def q2hc14:yX:=.block 0 q2hc13
def q2hc15:yX:=yq q2hr1 q2hc14
def q2hr16:yW:=[
 yM 32 0,
 yI 33 (.lenSl (.t 32)),
 yM 34 1,
 yB 35 .gtr 33 34,
 yM 4 35]
def q2hc17:yX:=yq q2hr16 .ret
def q2hc18:yX:=.seq q2hc15 q2hc17
def q2hc19:yX:=yq q2hr0 q2hc18
attribute [go_sem] q2hr0 q2hr1 q2hr2 q2hr5 q2hr6 q2hr10 q2hr16
theorem q2hok:cFn TC 18=some (36,[.t 4],q2hc19):=by kernel_rfl
def q2ir0:yW:=[
 yI 0 (.mv (.v (.bool false)))]
def q2ir1:yW:=[
 yI 9 (.call (.v (.fn 9 [])) [(.v (.str [107]))]),
 yM 1 9]
def q2ir2:yW:=[
 yM 11 1,
 yC 12 11 11,
 yI 13 (.call (.v (.fn 28 [])) [(.t 12),(.v (.int .i64 3))]),
 yM 10 13,
 yE 14 0 10,
 yE 15 1 10,
 yM 2 14,
 yM 3 15]
def q2ir3:yW:=[
 yI 16 (.build [(.int .u8 0),(.int .u8 0),(.int .u8 0),(.int .u8 0)] [(3,1,(.v (.int .u8 1)))]),
 yM 17 1,
 yD 18 12 16 17,
 yI 4 (.alloc [(.int .i64 0),(.int .u8 0),(.int .u8 0),(.int .u8 0),(.int .u8 0),(.int .u8 0),(.int .u8 0),(.int .u8 0),(.int .u8 0),(.int .u8 0),(.int .u8 0),(.int .u8 0),(.int .u8 0),(.int .u8 0),(.int .u8 0),(.int .u8 0),(.int .u8 0),(.int .u8 0),(.int .u8 0),(.int .u8 0),(.int .u8 0),(.int .u8 0),(.int .u8 0),(.int .u8 0),(.int .u8 0),(.int .u8 0),(.int .u8 0),(.int .u8 0),(.int .u8 0),(.int .u8 0),(.int .u8 0),(.int .u8 0),(.int .u8 0),(.int .i64 0),(.str []),.nilsl]),
 yS 36 4 18]
def q2ir4:yW:=[
 yM 19 3,
 yJ 20 .neq 19 .i64 0,
 yM 21 20,
 yV 22 21 false 2,
 yU 23 21 false true 36 4,
 yG 24 21 false (.call (.v (.fn 21 [])) [(.t 22),(.v (.int .i64 0)),(.t 23)]),
 yG 25 21 false (.bin .neq .none (.t 24) (.v (.int .i64 2))),
 yP 26 21 25,
 yM 27 26,
 yV 28 27 false 2,
 yG 29 27 false (.call (.v (.fn 22 [])) [(.t 28),(.v (.int .i64 1)),(.v (.int .i64 0))]),
 yG 30 27 false (.bin .neq .none (.t 29) (.v (.int .i64 0))),
 yP 31 27 30,
 yM 32 31,
 yV 33 32 false 2,
 yG 34 32 false (.call (.v (.fn 23 [])) [(.t 33),(.v (.int .i64 0))]),
 yG 35 32 false (.bin .neq .none (.t 34) (.v (.int .i64 0))),
 yP 36 32 35,
 yM 37 36,
 yV 38 37 false 2,
 yG 39 37 false (.call (.v (.fn 23 [])) [(.t 38),(.v (.int .i64 0))]),
 yG 40 37 false (.bin .neq .none (.t 39) (.v (.int .i64 0))),
 yP 41 37 40,
 yM 42 41,
 yV 43 42 false 2,
 ⟨some 44,some (42,false),.ef,.call (.v (.fn 27 [])) [(.t 43),(.v (.int .i64 1))]⟩,
 yT 45 42 false 0 4,
 ⟨some 46,some (42,false),.rd,.load true 33 (.t 45)⟩,
 yG 47 42 false (.call (.v (.fn 30 [])) [(.t 44),(.t 46)]),
 yG 48 42 false (.un .not (.t 47)),
 yP 49 42 48,
 yM 50 49,
 yV 51 50 false 2,
 yG 52 50 false (.call (.v (.fn 26 [])) [(.t 51)]),
 yG 53 50 false (.bin .neq .none (.t 52) (.v (.int .i64 0))),
 yP 54 50 53]
def q2ir5:yW:=[
 yI 0 (.mv (.v (.bool false)))]
def q2ic6:yX:=yq q2ir5 .ret
def q2ic7:yX:=.cond (.t 54) q2ic6 .skip
def q2ic8:yX:=yq q2ir4 q2ic7
def q2ir9:yW:=[
 yM 56 2,
 yI 57 (.call (.v (.fn 20 [])) [(.t 56),(.v (.int .i64 1)),(.v (.int .i64 2))]),
 yM 55 57,
 yE 58 0 55,
 yE 59 1 55,
 yM 5 58,
 yM 6 59]
def q2ir10:yW:=[
 yM 61 2,
 yI 62 (.call (.v (.fn 20 [])) [(.t 61),(.v (.int .i64 1)),(.v (.int .i64 2))]),
 yM 60 62,
 yE 63 0 60,
 yE 64 1 60,
 yM 7 63,
 yM 8 64]
def q2ir11:yW:=[
 yM 65 5,
 yJ 66 .eql 65 .i64 4,
 yM 67 66,
 yV 68 67 true 6,
 yG 69 67 true (.bin .eql .none (.t 68) (.v (.int .i64 0))),
 yQ 70 67 69,
 yM 71 70,
 yV 72 71 true 7,
 yG 73 71 true (.bin .eql .none (.t 72) (.v (.int .i64 2))),
 yQ 74 71 73,
 yM 75 74,
 yV 76 75 true 8,
 yG 77 75 true (.bin .eql .none (.t 76) (.v (.int .i64 0))),
 yQ 78 75 77,
 yM 79 78,
 yV 80 79 true 2,
 ⟨some 81,some (79,true),.ef,.call (.v (.fn 27 [])) [(.t 80),(.v (.int .i64 2))]⟩,
 yT 82 79 true 0 4,
 ⟨some 83,some (79,true),.rd,.load true 33 (.t 82)⟩,
 yG 84 79 true (.call (.v (.fn 30 [])) [(.t 81),(.t 83)]),
 yQ 85 79 84,
 yM 0 85]
def q2ic12:yX:=yq q2ir11 .ret
def q2ic13:yX:=yq q2ir10 q2ic12
def q2ic14:yX:=yq q2ir9 q2ic13
def q2ic15:yX:=.seq q2ic8 q2ic14
def q2ic16:yX:=yq q2ir3 q2ic15
def q2ic17:yX:=yq q2ir2 q2ic16
def q2ic18:yX:=yq q2ir1 q2ic17
def q2ic19:yX:=yq q2ir0 q2ic18
attribute [go_sem] q2ir0 q2ir1 q2ir2 q2ir3 q2ir4 q2ir5 q2ir9 q2ir10 q2ir11
theorem q2iok:cFn TC 19=some (86,[.t 0],q2ic19):=by kernel_rfl
def q2jr0:yW:=[
 yK 6 .i64 0,
 yK 7 .i64 0]
def q2jr1:yW:=[
 yM 9 0,
 yC 10 62 9,
 yM 8 10]
def q2jr2:yW:=[
 yK 6 .i64 0,
 yK 7 .i64 1]
def q2jc3:yX:=yq q2jr2 .ret
def q2jr4:yW:=[
 yM 12 0,
 yM 13 1,
 yD 14 63 12 13,
 yI 15 (.un .not (.t 14)),
 yM 16 15,
 yV 17 16 false 0,
 yV 18 16 false 2,
 yG 19 16 false (.call (.v (.fn 63 [])) [(.t 17),(.t 18)]),
 yG 20 16 false (.un .not (.t 19)),
 yP 21 16 20,
 yM 22 21,
 yV 23 22 false 1,
 yV 24 22 false 2,
 yG 25 22 false (.bin .eql .none (.t 23) (.t 24)),
 yP 26 22 25,
 yM 11 26]
def q2jr5:yW:=[
 yK 6 .i64 0,
 yK 7 .i64 2]
def q2jc6:yX:=yq q2jr5 .ret
def q2jc7:yX:=.cond (.t 11) q2jc6 .skip
def q2jc8:yX:=yq q2jr4 q2jc7
def q2jc9:yX:=.cond (.t 8) q2jc3 q2jc8
def q2jc10:yX:=yq q2jr1 q2jc9
def q2jr11:yW:=[
 yM 27 0,
 yM 28 1,
 yM 29 2,
 yI 30 (.call (.v (.fn 64 [])) [(.t 27),(.t 28),(.t 29)]),
 yM 31 0,
 yM 32 2,
 yM 33 1,
 yI 34 (.call (.v (.fn 64 [])) [(.t 31),(.t 32),(.t 33)]),
 yB 35 .add 30 34,
 yM 6 35,
 yK 7 .i64 0]
def q2jc12:yX:=yq q2jr11 .ret
def q2jc13:yX:=.seq (.block 0 q2jc10) q2jc12
def q2jc14:yX:=yq q2jr0 q2jc13
attribute [go_sem] q2jr0 q2jr1 q2jr2 q2jr4 q2jr5 q2jr11
theorem q2jok:cFn TC 20=some (36,[.t 6,.t 7],q2jc14):=by kernel_rfl
def q2kr0:yW:=[
 yI 5 (.box (.t 2)),
 yK 6 .i64 0]
def q2kr1:yW:=[
 yM 7 0,
 yM 8 1,
 yD 9 63 7 8,
 yI 10 (.un .not (.t 9))]
def q2kr2:yW:=[
 yK 6 .i64 0]
def q2kc3:yX:=yq q2kr2 .ret
def q2kc4:yX:=.cond (.t 10) q2kc3 .skip
def q2kc5:yX:=yq q2kr1 q2kc4
def q2kr6:yW:=[
 yM 11 0,
 yI 12 (.nilc (.t 11)),
 yF 13 0 12,
 ⟨some 14,none,.rd,.load false 1 (.t 13)⟩,
 yM 15 1,
 yI 16 (.iaSl 1 (.t 14) (.t 15)),
 ⟨some 17,none,.rd,.load false 1 (.t 16)⟩,
 ⟨some 18,none,.rd,.load true 36 (.t 5)⟩,
 yD 19 14 17 18,
 yM 6 19]
def q2kc7:yX:=yq q2kr6 .ret
def q2kc8:yX:=.seq q2kc5 q2kc7
def q2kc9:yX:=yq q2kr0 q2kc8
attribute [go_sem] q2kr0 q2kr1 q2kr2 q2kr6
theorem q2kok:cFn TC 21=some (20,[.t 6],q2kc9):=by kernel_rfl
def q2lr0:yW:=[
 yK 6 .i64 0]
def q2lr1:yW:=[
 yM 10 0,
 yC 11 62 10,
 yM 9 11]
def q2lr2:yW:=[
 yK 6 .i64 1]
def q2lc3:yX:=yq q2lr2 .ret
def q2lr4:yW:=[
 yM 13 0,
 yM 14 1,
 yD 15 63 13 14,
 yI 16 (.un .not (.t 15)),
 yM 17 16,
 yV 18 17 false 0,
 yV 19 17 false 2,
 yG 20 17 false (.call (.v (.fn 63 [])) [(.t 18),(.t 19)]),
 yG 21 17 false (.un .not (.t 20)),
 yP 22 17 21,
 yM 23 22,
 yV 24 23 false 1,
 yV 25 23 false 2,
 yG 26 23 false (.bin .eql .none (.t 24) (.t 25)),
 yP 27 23 26,
 yM 12 27]
def q2lr5:yW:=[
 yK 6 .i64 2]
def q2lc6:yX:=yq q2lr5 .ret
def q2lc7:yX:=.cond (.t 12) q2lc6 .skip
def q2lc8:yX:=yq q2lr4 q2lc7
def q2lc9:yX:=.cond (.t 9) q2lc3 q2lc8
def q2lc10:yX:=yq q2lr1 q2lc9
def q2lr11:yW:=[
 yM 29 0,
 yI 30 (.nilc (.t 29)),
 yF 31 0 30,
 yL 32 false 1 31,
 yM 33 1,
 yI 34 (.iaSl 1 (.t 32) (.t 33)),
 yL 35 false 1 34,
 yC 36 29 35,
 yC 37 65 36,
 yM 28 37,
 yE 38 0 28,
 yE 39 1 28,
 yM 7 38,
 yM 8 39]
def q2lr12:yW:=[
 yM 40 8,
 yJ 41 .neq 40 .i64 0]
def q2lr13:yW:=[
 yM 42 8,
 yM 6 42]
def q2lc14:yX:=yq q2lr13 .ret
def q2lc15:yX:=.cond (.t 41) q2lc14 .skip
def q2lc16:yX:=yq q2lr12 q2lc15
def q2lr17:yW:=[
 yM 43 0,
 yI 44 (.nilc (.t 43)),
 yF 45 1 44,
 yL 46 false 1 45,
 yM 47 1,
 yM 48 2,
 yM 49 7,
 yI 50 (.build [(.int .i64 0),(.int .i64 0),(.str [])] [(0,1,(.t 47)),(1,1,(.t 48)),(2,1,(.t 49))]),
 yD 51 66 46 50,
 yM 6 51]
def q2lc18:yX:=yq q2lr17 .ret
def q2lc19:yX:=.seq q2lc16 q2lc18
def q2lc20:yX:=yq q2lr11 q2lc19
def q2lc21:yX:=.seq (.block 0 q2lc10) q2lc20
def q2lc22:yX:=yq q2lr0 q2lc21
attribute [go_sem] q2lr0 q2lr1 q2lr2 q2lr4 q2lr5 q2lr11 q2lr12 q2lr13 q2lr17
theorem q2lok:cFn TC 22=some (52,[.t 6],q2lc22):=by kernel_rfl
def q2mr0:yW:=[
 yK 4 .i64 0]
def q2mr1:yW:=[
 yM 7 0,
 yC 8 62 7]
def q2mr2:yW:=[
 yK 4 .i64 1]
def q2mc3:yX:=yq q2mr2 .ret
def q2mc4:yX:=.cond (.t 8) q2mc3 .skip
def q2mc5:yX:=yq q2mr1 q2mc4
def q2mr6:yW:=[
 yM 10 0,
 yI 11 (.nilc (.t 10)),
 yF 12 1 11,
 yL 13 false 1 12,
 yM 14 1,
 yD 15 67 13 14,
 yM 9 15,
 yE 16 0 9,
 yE 17 1 9,
 yI 5 (.alloc [(.int .i64 0),(.int .i64 0),(.str [])]),
 yS 3 5 16,
 yM 6 17]
def q2mr7:yW:=[
 yM 18 6,
 yJ 19 .eql 18 .i64 0]
def q2mr8:yW:=[
 yM 20 0,
 yL 21 true 3 5,
 yD 22 68 20 21]
def q2mc9:yX:=.cond (.t 19) (.reg q2mr8) .skip
def q2mc10:yX:=yq q2mr7 q2mc9
def q2mr11:yW:=[
 yM 23 6,
 yM 4 23]
def q2mc12:yX:=yq q2mr11 .ret
def q2mc13:yX:=.seq q2mc10 q2mc12
def q2mc14:yX:=yq q2mr6 q2mc13
def q2mc15:yX:=.seq q2mc5 q2mc14
def q2mc16:yX:=yq q2mr0 q2mc15
attribute [go_sem] q2mr0 q2mr1 q2mr2 q2mr6 q2mr7 q2mr8 q2mr11
theorem q2mok:cFn TC 23=some (24,[.t 4],q2mc16):=by kernel_rfl
def q2nr0:yW:=[
 yK 4 .i64 0]
def q2nr1:yW:=[
 yM 5 0,
 yC 6 62 5]
def q2nr2:yW:=[
 yK 4 .i64 1]
def q2nc3:yX:=yq q2nr2 .ret
def q2nc4:yX:=.cond (.t 6) q2nc3 .skip
def q2nc5:yX:=yq q2nr1 q2nc4
def q2nr6:yW:=[
 yM 7 0,
 yI 8 (.nilc (.t 7)),
 yF 9 1 8,
 yL 10 false 1 9,
 yM 11 1,
 yD 12 69 10 11,
 yM 4 12]
def q2nc7:yX:=yq q2nr6 .ret
def q2nc8:yX:=.seq q2nc5 q2nc7
def q2nc9:yX:=yq q2nr0 q2nc8
attribute [go_sem] q2nr0 q2nr1 q2nr2 q2nr6
theorem q2nok:cFn TC 24=some (13,[.t 4],q2nc9):=by kernel_rfl
def q2or0:yW:=[
 yK 4 .i64 0]
def q2or1:yW:=[
 yM 5 0,
 yC 6 62 5]
def q2or2:yW:=[
 yK 4 .i64 1]
def q2oc3:yX:=yq q2or2 .ret
def q2oc4:yX:=.cond (.t 6) q2oc3 .skip
def q2oc5:yX:=yq q2or1 q2oc4
def q2or6:yW:=[
 yM 7 0,
 yI 8 (.nilc (.t 7)),
 yF 9 1 8,
 yL 10 false 1 9,
 yM 11 1,
 yD 12 70 10 11,
 yM 4 12]
def q2oc7:yX:=yq q2or6 .ret
def q2oc8:yX:=.seq q2oc5 q2oc7
def q2oc9:yX:=yq q2or0 q2oc8
attribute [go_sem] q2or0 q2or1 q2or2 q2or6
theorem q2ook:cFn TC 25=some (13,[.t 4],q2oc9):=by kernel_rfl
def q2pr0:yW:=[
 yK 2 .i64 0]
def q2pr1:yW:=[
 yM 3 0,
 yC 4 62 3]
def q2pr2:yW:=[
 yK 2 .i64 0]
def q2pc3:yX:=yq q2pr2 .ret
def q2pc4:yX:=.cond (.t 4) q2pc3 .skip
def q2pc5:yX:=yq q2pr1 q2pc4
def q2pr6:yW:=[
 yM 5 0,
 yI 6 (.nilc (.t 5)),
 yF 7 1 6,
 yL 8 false 1 7,
 yC 9 71 8,
 yI 10 (.lenSl (.t 9)),
 yM 2 10]
def q2pc7:yX:=yq q2pr6 .ret
def q2pc8:yX:=.seq q2pc5 q2pc7
def q2pc9:yX:=yq q2pr0 q2pc8
attribute [go_sem] q2pr0 q2pr1 q2pr2 q2pr6
theorem q2pok:cFn TC 26=some (11,[.t 2],q2pc9):=by kernel_rfl
def q2qr0:yW:=[
 yI 4 (.mv (.v .nilp))]
def q2qr1:yW:=[
 yM 5 0,
 yM 6 1,
 yD 7 63 5 6,
 yI 8 (.un .not (.t 7))]
def q2qr2:yW:=[
 yI 4 (.mv (.v .nilp))]
def q2qc3:yX:=yq q2qr2 .ret
def q2qc4:yX:=.cond (.t 8) q2qc3 .skip
def q2qc5:yX:=yq q2qr1 q2qc4
def q2qr6:yW:=[
 yM 9 0,
 yI 10 (.nilc (.t 9)),
 yF 11 0 10,
 yL 12 false 1 11,
 yM 13 1,
 yI 14 (.iaSl 1 (.t 12) (.t 13)),
 yL 15 false 1 14,
 yC 16 13 15,
 yM 4 16]
def q2qc7:yX:=yq q2qr6 .ret
def q2qc8:yX:=.seq q2qc5 q2qc7
def q2qc9:yX:=yq q2qr0 q2qc8
attribute [go_sem] q2qr0 q2qr1 q2qr2 q2qr6
theorem q2qok:cFn TC 27=some (17,[.t 4],q2qc9):=by kernel_rfl
def q2rr0:yW:=[
 yI 2 (.box (.t 0)),
 yI 4 (.mv (.v .nilp)),
 yK 5 .i64 0]
def q2rr1:yW:=[
 yM 9 1,
 yJ 10 .lss 9 .i64 2,
 yM 11 10,
 yV 12 11 false 1,
 yG 13 11 false (.bin .gtr .none (.t 12) (.v (.int .i64 8))),
 yP 14 11 13]
def q2rr2:yW:=[
 yI 4 (.mv (.v .nilp)),
 yK 5 .i64 2]
def q2rc3:yX:=yq q2rr2 .ret
def q2rc4:yX:=.cond (.t 14) q2rc3 .skip
def q2rc5:yX:=yq q2rr1 q2rc4
def q2rr6:yW:=[
 yM 16 1,
 yC 17 72 16,
 yM 15 17,
 yE 18 0 15,
 yE 19 1 15,
 yM 6 18,
 yM 7 19]
def q2rr7:yW:=[
 yM 20 7,
 yJ 21 .neq 20 .i64 0]
def q2rr8:yW:=[
 yM 22 7,
 yI 4 (.mv (.v .nilp)),
 yM 5 22]
def q2rc9:yX:=yq q2rr8 .ret
def q2rc10:yX:=.cond (.t 21) q2rc9 .skip
def q2rc11:yX:=yq q2rr7 q2rc10
def q2rr12:yW:=[
 yM 23 6,
 yI 24 (.build [.nilsl,.nilp] [(1,1,(.t 23))]),
 yI 25 (.box (.t 24)),
 yM 8 25]
def q2rr13:yW:=[
 yM 26 1,
 yK 27 .i64 0]
def q2rr14:yW:=[
 yB 28 .lss 27 26]
def q2rr15:yW:=[
 yM 29 8,
 yM 30 8,
 yI 31 (.nilc (.t 30)),
 yF 32 0 31,
 ⟨some 33,none,.rd,.load false 1 (.t 32)⟩,
 ⟨some 34,none,.rd,.load true 32 (.t 2)⟩,
 ⟨some 35,none,.ef,.call (.v (.fn 10 [])) [(.t 34)]⟩,
 yI 36 (.lit 1 [(.t 35)]),
 yI 37 (.app 1 (.t 33) (.t 36)),
 yI 38 (.nilc (.t 29)),
 yF 39 0 38,
 yS 1 39 37]
def q2rr16:yW:=[
 yJ 40 .add 27 .i64 1,
 yM 27 40]
def q2rc17:yX:=.seq (.block 1 (.reg q2rr15)) (.reg q2rr16)
def q2rc18:yX:=.seq (.cond (.t 28) .skip (.exit 0)) q2rc17
def q2rc19:yX:=yq q2rr14 q2rc18
def q2rc20:yX:=.loop q2rc19
def q2rc21:yX:=.block 0 q2rc20
def q2rc22:yX:=yq q2rr13 q2rc21
def q2rr23:yW:=[
 yM 41 8,
 yM 4 41,
 yK 5 .i64 0]
def q2rc24:yX:=yq q2rr23 .ret
def q2rc25:yX:=.seq q2rc22 q2rc24
def q2rc26:yX:=yq q2rr12 q2rc25
def q2rc27:yX:=.seq q2rc11 q2rc26
def q2rc28:yX:=yq q2rr6 q2rc27
def q2rc29:yX:=.seq q2rc5 q2rc28
def q2rc30:yX:=yq q2rr0 q2rc29
attribute [go_sem] q2rr0 q2rr1 q2rr2 q2rr6 q2rr7 q2rr8 q2rr12 q2rr13 q2rr14 q2rr15 q2rr16 q2rr23
theorem q2rok:cFn TC 28=some (42,[.t 4,.t 5],q2rc30):=by kernel_rfl
def q2sr0:yW:=[
 yI 2 (.mv (.v (.bool false)))]
def q2sr1:yW:=[
 yM 3 0,
 yI 4 (.bin .eql .ptr (.t 3) (.v .nilp)),
 yM 5 4,
 yV 6 5 false 0,
 yG 7 5 false (.nilc (.t 6)),
 yT 8 5 false 0 7,
 yU 9 5 false false 1 8,
 yG 10 5 false (.lenSl (.t 9)),
 yG 11 5 false (.bin .eql .none (.t 10) (.v (.int .i64 0))),
 yP 12 5 11,
 yM 2 12]
def q2sc2:yX:=yq q2sr1 .ret
def q2sc3:yX:=yq q2sr0 q2sc2
attribute [go_sem] q2sr0 q2sr1
theorem q2sok:cFn TC 62=some (13,[.t 2],q2sc3):=by kernel_rfl
def q2tr0:yW:=[
 yI 4 (.mv (.v (.bool false)))]
def q2tr1:yW:=[
 yM 5 0,
 yI 6 (.bin .neq .ptr (.t 5) (.v .nilp)),
 yM 7 6,
 yV 8 7 true 1,
 yG 9 7 true (.bin .geq .none (.t 8) (.v (.int .i64 0))),
 yQ 10 7 9,
 yM 11 10,
 yV 12 11 true 1,
 yV 13 11 true 0,
 yG 14 11 true (.nilc (.t 13)),
 yT 15 11 true 0 14,
 yU 16 11 true false 1 15,
 yG 17 11 true (.lenSl (.t 16)),
 yG 18 11 true (.bin .lss .none (.t 12) (.t 17)),
 yQ 19 11 18,
 yM 4 19]
def q2tc2:yX:=yq q2tr1 .ret
def q2tc3:yX:=yq q2tr0 q2tc2
attribute [go_sem] q2tr0 q2tr1
theorem q2tok:cFn TC 63=some (20,[.t 4],q2tc3):=by kernel_rfl
def q2ur0:yW:=[
 yK 6 .i64 0]
def q2ur1:yW:=[
 yK 7 .i64 1]
def q2ur2:yW:=[
 yM 15 0,
 yI 16 (.nilc (.t 15)),
 yF 17 0 16,
 ⟨some 18,none,.rd,.load false 1 (.t 17)⟩,
 yM 19 2,
 yI 20 (.iaSl 1 (.t 18) (.t 19)),
 ⟨some 21,none,.rd,.load false 1 (.t 20)⟩,
 ⟨some 22,none,.ef,.call (.v (.fn 46 [])) [(.t 21)]⟩,
 yM 23 0,
 yI 24 (.nilc (.t 23)),
 yF 25 0 24,
 ⟨some 26,none,.rd,.load false 1 (.t 25)⟩,
 yM 27 1,
 yI 28 (.iaSl 1 (.t 26) (.t 27)),
 ⟨some 29,none,.rd,.load false 1 (.t 28)⟩,
 yC 30 29 29,
 yD 31 108 22 30,
 yM 8 31]
def q2ur3:yW:=[
 yI 9 (.mv (.v (.bool false)))]
def q2ur4:yW:=[
 yM 32 8,
 yI 33 (.lenSl (.t 32)),
 yK 34 .i64 0]
def q2ur5:yW:=[
 yB 35 .lss 34 33]
def q2ur6:yW:=[
 yI 36 (.iaSl 36 (.t 32) (.t 34)),
 yL 37 true 36 36,
 yI 11 (.alloc [(.int .i64 0),(.int .u8 0),(.int .u8 0),(.int .u8 0),(.int .u8 0),(.int .u8 0),(.int .u8 0),(.int .u8 0),(.int .u8 0),(.int .u8 0),(.int .u8 0),(.int .u8 0),(.int .u8 0),(.int .u8 0),(.int .u8 0),(.int .u8 0),(.int .u8 0),(.int .u8 0),(.int .u8 0),(.int .u8 0),(.int .u8 0),(.int .u8 0),(.int .u8 0),(.int .u8 0),(.int .u8 0),(.int .u8 0),(.int .u8 0),(.int .u8 0),(.int .u8 0),(.int .u8 0),(.int .u8 0),(.int .u8 0),(.int .u8 0),(.int .i64 0),(.str []),.nilsl]),
 yS 36 11 37]
def q2ur7:yW:=[
 yM 38 0,
 yI 39 (.nilc (.t 38)),
 yF 40 0 39,
 ⟨some 41,none,.rd,.load false 1 (.t 40)⟩,
 yM 42 1,
 yI 43 (.iaSl 1 (.t 41) (.t 42)),
 ⟨some 44,none,.rd,.load false 1 (.t 43)⟩,
 ⟨some 45,none,.rd,.load true 36 (.t 11)⟩,
 yD 46 14 44 45,
 yM 12 46]
def q2ur8:yW:=[
 yM 47 9,
 yM 48 47,
 yV 49 48 false 12,
 yG 50 48 false (.bin .eql .none (.t 49) (.v (.int .i64 2))),
 yP 51 48 50,
 yM 52 51,
 yV 53 52 false 12,
 yG 54 52 false (.bin .eql .none (.t 53) (.v (.int .i64 3))),
 yP 55 52 54,
 yM 9 55]
def q2uc9:yX:=yq q2ur7 (.reg q2ur8)
def q2uc10:yX:=yq q2ur6 q2uc9
def q2ur11:yW:=[
 yJ 56 .add 34 .i64 1,
 yM 34 56]
def q2uc12:yX:=.seq (.block 3 q2uc10) (.reg q2ur11)
def q2uc13:yX:=.seq (.cond (.t 35) .skip (.exit 2)) q2uc12
def q2uc14:yX:=yq q2ur5 q2uc13
def q2uc15:yX:=.loop q2uc14
def q2uc16:yX:=.block 2 q2uc15
def q2uc17:yX:=yq q2ur4 q2uc16
def q2ur18:yW:=[
 yM 57 8,
 yI 58 (.lenSl (.t 57)),
 yJ 59 .eql 58 .i64 0]
def q2ur19:yW:=[
 yM 60 7,
 yM 6 60]
def q2uc20:yX:=yq q2ur19 .ret
def q2uc21:yX:=.cond (.t 59) q2uc20 .skip
def q2uc22:yX:=yq q2ur18 q2uc21
def q2ur23:yW:=[
 yM 61 9,
 yI 62 (.un .not (.t 61))]
def q2ur24:yW:=[
 yM 63 7,
 yJ 64 .add 63 .i64 1,
 yM 6 64]
def q2uc25:yX:=yq q2ur24 .ret
def q2uc26:yX:=.cond (.t 62) q2uc25 .skip
def q2uc27:yX:=yq q2ur23 q2uc26
def q2uc28:yX:=.seq q2uc22 q2uc27
def q2uc29:yX:=.seq q2uc17 q2uc28
def q2uc30:yX:=yq q2ur3 q2uc29
def q2uc31:yX:=yq q2ur2 q2uc30
def q2ur32:yW:=[
 yM 13 7,
 yJ 14 .add 13 .i64 2,
 yM 7 14]
def q2uc33:yX:=.seq (.block 1 q2uc31) (.reg q2ur32)
def q2uc34:yX:=.loop q2uc33
def q2uc35:yX:=.block 0 q2uc34
def q2uc36:yX:=yq q2ur1 q2uc35
def q2uc37:yX:=yq q2ur0 q2uc36
attribute [go_sem] q2ur0 q2ur1 q2ur2 q2ur3 q2ur4 q2ur5 q2ur6 q2ur7 q2ur8 q2ur11 q2ur18 q2ur19 q2ur23 q2ur24 q2ur32
theorem q2uok:cFn TC 64=some (65,[.t 6],q2uc37):=by kernel_rfl
def q2vr0:yW:=[
 yI 3 (.box (.t 1))]
def q2vr1:yW:=[
 yF 13 2 3,
 yL 14 false 1 13,
 yC 15 114 14,
 yM 12 15,
 yE 16 0 12,
 yE 17 1 12,
 yM 4 16,
 yM 5 17]
def q2vr2:yW:=[
 yM 18 5,
 yJ 19 .eql 18 .i64 0]
def q2vr3:yW:=[
 yM 20 4,
 yI 21 (.lenSl (.t 20)),
 yK 22 .i64 0]
def q2vr4:yW:=[
 yB 23 .lss 22 21]
def q2vr5:yW:=[
 yI 24 (.iaSl 36 (.t 20) (.t 22)),
 yL 25 true 36 24,
 yI 7 (.alloc [(.int .i64 0),(.int .u8 0),(.int .u8 0),(.int .u8 0),(.int .u8 0),(.int .u8 0),(.int .u8 0),(.int .u8 0),(.int .u8 0),(.int .u8 0),(.int .u8 0),(.int .u8 0),(.int .u8 0),(.int .u8 0),(.int .u8 0),(.int .u8 0),(.int .u8 0),(.int .u8 0),(.int .u8 0),(.int .u8 0),(.int .u8 0),(.int .u8 0),(.int .u8 0),(.int .u8 0),(.int .u8 0),(.int .u8 0),(.int .u8 0),(.int .u8 0),(.int .u8 0),(.int .u8 0),(.int .u8 0),(.int .u8 0),(.int .u8 0),(.int .i64 0),(.str []),.nilsl]),
 yS 36 7 25]
def q2vr6:yW:=[
 yM 26 0,
 yI 27 (.nilc (.t 26)),
 yF 28 0 27,
 ⟨some 29,none,.rd,.load false 1 (.t 28)⟩,
 yF 30 1 3,
 ⟨some 31,none,.rd,.load false 1 (.t 30)⟩,
 yI 32 (.iaSl 1 (.t 29) (.t 31)),
 ⟨some 33,none,.rd,.load false 1 (.t 32)⟩,
 ⟨some 34,none,.rd,.load true 36 (.t 7)⟩,
 yD 35 14 33 34]
def q2vc7:yX:=yq q2vr5 (.reg q2vr6)
def q2vr8:yW:=[
 yJ 36 .add 22 .i64 1,
 yM 22 36]
def q2vc9:yX:=.seq (.block 1 q2vc7) (.reg q2vr8)
def q2vc10:yX:=.seq (.cond (.t 23) .skip (.exit 0)) q2vc9
def q2vc11:yX:=yq q2vr4 q2vc10
def q2vc12:yX:=.loop q2vc11
def q2vc13:yX:=.block 0 q2vc12
def q2vc14:yX:=yq q2vr3 q2vc13
def q2vc15:yX:=.seq q2vc14 .ret
def q2vc16:yX:=.cond (.t 19) q2vc15 .skip
def q2vc17:yX:=yq q2vr2 q2vc16
def q2vc18:yX:=yq q2vr1 q2vc17
def q2vr19:yW:=[
 yF 38 2 3,
 yL 39 false 1 38,
 yC 40 115 39,
 yM 37 40,
 yE 41 0 37,
 yE 42 1 37,
 yM 8 41,
 yM 9 42]
def q2vr20:yW:=[
 yM 43 9,
 yJ 44 .neq 43 .i64 0]
def q2vc21:yX:=.cond (.t 44) .ret .skip
def q2vc22:yX:=yq q2vr20 q2vc21
def q2vr23:yW:=[
 yM 46 0,
 yI 47 (.nilc (.t 46)),
 yF 48 0 47,
 ⟨some 49,none,.rd,.load false 1 (.t 48)⟩,
 yF 50 1 3,
 ⟨some 51,none,.rd,.load false 1 (.t 50)⟩,
 yI 52 (.iaSl 1 (.t 49) (.t 51)),
 yL 53 false 1 52,
 yC 54 46 53,
 yM 55 8,
 yD 56 108 54 55,
 yC 57 116 56,
 yM 45 57,
 yE 58 0 45,
 yE 59 1 45,
 yM 10 58,
 yM 11 59]
def q2vr24:yW:=[
 yM 60 11,
 yJ 61 .eql 60 .i64 0]
def q2vr25:yW:=[
 yM 62 0,
 yI 63 (.nilc (.t 62)),
 yF 64 1 63,
 ⟨some 65,none,.rd,.load false 1 (.t 64)⟩,
 yF 66 1 3,
 ⟨some 67,none,.rd,.load false 1 (.t 66)⟩,
 yF 68 0 3,
 ⟨some 69,none,.rd,.load false 1 (.t 68)⟩,
 yM 70 10,
 yI 71 (.build [(.int .i64 0),(.int .i64 0),(.str [])] [(0,1,(.t 67)),(1,1,(.t 69)),(2,1,(.t 70))]),
 yD 72 66 65 71]
def q2vc26:yX:=.cond (.t 61) (.reg q2vr25) .skip
def q2vc27:yX:=yq q2vr24 q2vc26
def q2vc28:yX:=yq q2vr23 q2vc27
def q2vc29:yX:=.seq q2vc22 q2vc28
def q2vc30:yX:=yq q2vr19 q2vc29
def q2vc31:yX:=.seq q2vc18 q2vc30
def q2vc32:yX:=yq q2vr0 q2vc31
attribute [go_sem] q2vr0 q2vr1 q2vr2 q2vr3 q2vr4 q2vr5 q2vr6 q2vr8 q2vr19 q2vr20 q2vr23 q2vr24 q2vr25
theorem zf4:cFn TC 68=some (73,[],q2vc32):=by kernel_rfl
end
section
abbrev NH:=Int × Hash
def knP(l:List NH):List (List AV):=l.map fun p=> .int .i64 p.1::hc p.2
theorem zm(l:List NH):(knP l).length=l.length:=by simp [knP]
theorem zjt{l:List NH}{i:Nat}(h:i<l.length):(knP l)[i]? =some (.int .i64 l[i].1::hc l[i].2):=by simp [knP,List.getElem?_eq_getElem h]
theorem zju(P:List Hdr):kn P=knP (hns P):=by simp [kn,knP,hns]
def nhS(p:NH):List UInt8:=numS p.1.toNat++p.2.1
def z23(l:List NH):List UInt8:=(l.map nhS).flatten
def knS(l:List NH):List UInt8:=68::(numS l.length++z23 l)
def nhOk(p:NH):Bool:=decide (0<=p.1/\ p.1<=4096)
theorem zu0{l:List NH}{i:Nat}(h:i<l.length):z23 (l.take (i+1))=z23 (l.take i)++nhS l[i]:=by
 unfold z23;rw [List.take_succ_eq_append_getElem h,List.map_append,List.flatten_append];simp
theorem zkc(p:NH):(nhS p).length<=43:=by
 unfold nhS;have:=z24 p.1.toNat;have:=p.2.2;rw [List.length_append];omega
theorem nhS_ne(p:NH):nhS p ≠ []:=fun e=>by
 have h1:(nhS p).length=0:=by rw [e];rfl
 have h2:=p.2.2
 unfold nhS at h1
 rw [List.length_append]at h1
 omega
theorem z7j:∀l:List NH,(z23 l).length<=43*l.length
 | []=>by simp [z23]
 |p::l=>by
  have:=z7j l
  have h:=zkc p
  unfold z23 at this ⊢
  simp only [List.map_cons,List.flatten_cons,List.length_append,List.length_cons]
  omega
attribute [local irreducible] ACallsTo ACallsP
theorem zro(O:Store)(p:NH):ACallsTo TC 110 [.agg (.int .i64 p.1::hc p.2)] O (.bool (nhOk p)) O:=by
 have l:=z6 p.2
 unfold nhOk
 refine ACallsTo.of_body q27ok (by simp) fun hw _=> ?_
 by_cases h1:0<=p.1
 ·rw [show decide (0<=p.1/\ p.1<=4096)=decide (p.1<=4096)from decide_eq_decide.2 ⟨fun h=>h.2,fun h=>⟨h1,h⟩⟩]
  have h1':p.1>=0:=h1
  repeat' (first|apply zs_|apply zb_|apply zc_|apply zt_ rfl|apply zf_ rfl|(apply zd_ rfl<;>intro ht<;>try omega)|((first|apply zr_|apply zk_|apply ze_|apply zq_|(apply zG<;>intro ht));all_goals try simp (disch:=first|omega|(simp only [lens,z6,z7,zg,z8,zh,zm,lQt,lQd,List.length_replicate];first|done|omega)) only [go_sem,l,h1']))
  exact DownV.pure hw z2c
 ·rw [decide_eq_false fun h=>h1 h.1]
  have h1':¬p.1>=0:=h1
  repeat' (first|apply zs_|apply zb_|apply zc_|apply zt_ rfl|apply zf_ rfl|(apply zd_ rfl<;>intro ht<;>try omega)|((first|apply zr_|apply zk_|apply ze_|apply zq_|(apply zG<;>intro ht));all_goals try simp (disch:=first|omega|(simp only [lens,z6,z7,zg,z8,zh,zm,lQt,lQd,List.length_replicate];first|done|omega)) only [go_sem,l,h1']))
  exact DownV.pure hw z2c
theorem znu(O:Store)(l:List NH)(x:AV)(hx:SlV 33 (knP l) x)(hl:l.length<=64)(hok:∀p ∈ l,nhOk p=true):ACallsTo TC 65 [x] O (.tup [.str (knS l),.int .i64 0]) O:=by
 have r1:=hx.len
 rw [zm]at r1
 unfold z1k at r1
 have hN:=fun O=>z7a O l.length (by omega)
 have hNl:=z24 l.length
 have h64:¬(l.length:Int)>64:=by omega
 unfold knS
 generalize numS l.length=N at*
 refine ACallsTo.of_body q25ok (by simp) fun hw _=> ?_
 have b0:BldN O (O++ [some [[.bld O.length,.bnil]]]) O.length []:=BldN.new (Nat.le_refl _) (by simp)
 obtain⟨O1,w1,b1⟩:=b0.write (t:=68::N) (by simp) (by simp;omega)
 rw [List.nil_append]at b1
 repeat' (first|apply zs_|apply zb_|apply zc_|apply zt_ rfl|apply zf_ rfl|(apply zd_ rfl<;>intro ht<;>try omega)|((first|apply zr_|apply zk_|apply ze_|apply zq_|(apply callW.mk_pu;(first|exact(fun _=>hN _)|exact(fun _=>w1)))|(apply callW.za;(first|exact(hN _)|exact(w1)))|(apply zG<;>intro ht));all_goals try simp (disch:=first|omega|(simp only [lens,z6,z7,zg,z8,zh,zm,lQt,lQd,List.length_replicate];first|done|omega)) only [go_sem,r1,h64,List.cons_append,List.nil_append]))
 refine zW.loop (fun m J O'=>∃i:Nat,m+i=l.length/\ BldN O O' O.length (68::N++z23 (l.take i))/\ J 4=.ptr O.length 0 0/\ J 16=x/\ J 17=.int .i64 l.length/\ J 18=.int .i64 i) l.length ?_ ?_
 ·exact⟨0,by omega,by simpa [z23]using b1,by simp (disch:=first|omega|(simp only [lens,z6,z7,zg,z8,zh,zm,lQt,lQd,List.length_replicate];first|done|omega)) only [go_sem],by simp (disch:=first|omega|(simp only [lens,z6,z7,zg,z8,zh,zm,lQt,lQd,List.length_replicate];first|done|omega)) only [go_sem],by simp (disch:=first|omega|(simp only [lens,z6,z7,zg,z8,zh,zm,lQt,lQd,List.length_replicate];first|done|omega)) only [go_sem,r1],by simp (disch:=first|omega|(simp only [lens,z6,z7,zg,z8,zh,zm,lQt,lQd,List.length_replicate];first|done|omega)) only [go_sem];try rfl⟩
 ·clear w1 b1 b0
  rintro m J O' ⟨i,hm,hB,q4,q16,q17,q18⟩
  have hcl:=z7j (l.take i)
  rw [List.length_take]at hcl
  by_cases hi:i<l.length
  ·obtain⟨e1,rfl⟩:=hx.vsl (by rw [zm];omega)
   have gi:=zjt hi
   have sl:=zm l
   have hst:=zu0 hi
   have hk:=hok l[i] (List.getElem_mem hi)
   have hM:=fun O=>zro O l[i]
   rw [hk]at hM
   have hne:=nhS_ne l[i]
   have hnl:=zkc l[i]
   generalize l[i]=p at*
   obtain⟨n,r⟩:=p
   obtain⟨k1,k2⟩:=of_decide_eq_true hk
   dsimp only at k1 k2 gi hM
   obtain⟨K,rfl⟩:∃K:Nat,n=K:=⟨n.toNat,by omega⟩
   have hK:=fun O=>z7a O K (by omega)
   have kl:=z24 K
   have r32:=r.2
   have hH:=fun O=>z4u O r
   have hs:nhS ((K:Int),r)=numS K++r.1:=rfl
   rw [hs]at hst hne hnl
   have rl:=z6 r
   obtain⟨O2,w2,b2⟩:=(hB.more [some [.int .i64 K::hc r]]).write (t:=numS K++r.1) hne (by simp only [List.length_append,List.length_cons]at hnl ⊢;omega)
   repeat' (first|apply zs_|apply zb_|apply zc_|apply zt_ rfl|apply zf_ rfl|(apply zd_ rfl<;>intro ht<;>try omega)|((first|apply zr_|apply zk_|apply ze_|apply zq_|(apply callW.mk_pu;(first|exact(fun _=>hM _)|exact(fun _=>hK _)|exact(fun _=>hH _)|exact(fun _=>w2)))|(apply callW.za;(first|exact(hM _)|exact(hK _)|exact(hH _)|exact(w2)))|(apply zG<;>intro ht));all_goals try simp (disch:=first|omega|(simp only [lens,z6,z7,zg,z8,zh,zm,lQt,lQd,List.length_replicate];first|done|omega)) only [go_sem,q4,q16,q17,q18,gi,sl,rl]))
   refine⟨m-1,by omega,i+1,by omega,?_,by simp⟩
   rw [hst,<-List.append_assoc];exact b2
  ·have e:l.take i=l:=List.take_of_length_le (by omega)
   rw [e]at hB
   have hcl2:=z7j l
   obtain⟨news,w3⟩:=hB.string (by simp) (by simp only [List.length_append,List.length_cons];omega)
   have hi':¬(i:Int)<l.length:=by omega
   repeat' (first|apply zs_|apply zb_|apply zc_|apply zt_ rfl|apply zf_ rfl|(apply zd_ rfl<;>intro ht<;>try omega)|((first|apply zr_|apply zk_|apply ze_|apply zq_|(apply callW.mk_pu;(first|exact(fun _=>w3)))|(apply callW.za;(first|exact(w3)))|(apply zG<;>intro ht));all_goals try simp (disch:=first|omega|(simp only [lens,z6,z7,zg,z8,zh,zm,lQt,lQd,List.length_replicate];first|done|omega)) only [go_sem,q4,q16,q17,q18,hi']))
   exact DownV.pure hw (by simp [RL,RLs])
end
section
def idxK(K:List NH)(p:NH):Int:=if p ∈ K then K.idxOf p else-1
theorem zsj{K:List NH}{p:NH}{i:Nat}(hi:i<K.length)(h:K[i]=p)(hn:p ∉ K.take i):idxK K p=i:=by
 have hm:p ∈ K:=h ▸ List.getElem_mem hi
 have e:K=K.take i++p::K.drop (i+1):=by
  conv=>lhs;rw [<-List.take_append_drop i K,List.drop_eq_getElem_cons hi,h]
 have:K.idxOf p=i:=by
  rw [e,List.idxOf_append,if_neg hn,List.idxOf_cons_self,List.length_take];omega
 unfold idxK
 rw [if_pos hm,this]
theorem zsk{K:List NH}{p:NH}(h:p ∉ K):idxK K p= -1:=if_neg h
theorem zsl(K:List NH)(p:NH):decide (idxK K p>=0)=decide (p ∈ K):=by
 unfold idxK
 by_cases h:p ∈ K
 ·rw [if_pos h,decide_eq_true h];exact decide_eq_true (by omega)
 ·rw [if_neg h,decide_eq_false h];exact decide_eq_false (by omega)
theorem z14h{K:List NH}{p:NH}{i:Nat}(hi:i<K.length):p ∈ K.take (i+1) ↔ p ∈ K.take i \/K[i]=p:=by
 rw [List.take_succ_eq_append_getElem hi,List.mem_append,List.mem_singleton]
 exact or_congr_right eq_comm
def z21(K:List NH)(q:Hdr):Bool:=valH q && !decide ((q.n,q.r) ∈ K)
def z13(P:List Hdr)(K:List NH):List Hdr:=(P.filter (z21 K)).take 3
theorem zbh(P:List Hdr)(K:List NH):(z13 P K).length<=3:=by unfold z13;rw [List.length_take];omega
theorem zto{P:List Hdr}{K:List NH}{i:Nat}(hi:i<P.length)(h:z21 K P[i]=false \/ ¬(z13 (P.take i) K).length<3):z13 (P.take (i+1)) K=z13 (P.take i) K:=by
 unfold z13 at h ⊢
 rw [List.take_succ_eq_append_getElem hi,List.filter_append]
 rcases h with h|h
 ·simp [List.filter,h]
 ·rw [List.length_take]at h
  rw [List.take_append_of_le_length (by omega)]
theorem ztp{P:List Hdr}{K:List NH}{i:Nat}(hi:i<P.length)(h:z21 K P[i]=true)(h2:(z13 (P.take i) K).length<3):z13 (P.take (i+1)) K=z13 (P.take i) K++ [P[i]]:=by
 unfold z13 at h2 ⊢
 rw [List.take_succ_eq_append_getElem hi,List.filter_append]
 rw [List.length_take]at h2
 have h3:((P.take i).filter (z21 K)).length<3:=by omega
 have e:[P[i]].filter (z21 K)=[P[i]]:=by simp [List.filter,h]
 rw [e]
 generalize (P.take i).filter (z21 K)=A at*
 rw [List.take_of_length_le (l:=A) (by omega)]
 exact List.take_of_length_le (by rw [List.length_append,List.length_singleton];omega)
theorem z6m{P:List Hdr}{K:List NH}{q:Hdr}(h:q ∈ z13 P K):q ∈ P/\ valH q=true/\ (q.n,q.r) ∉ K:=by
 have h1:=List.mem_filter.1 (List.mem_of_mem_take h)
 refine⟨h1.1,?_⟩
 have:=h1.2
 unfold z21 at this
 simpa using this
theorem zs6(u:Hdr):hdrs [u]=[hdrC u]:=rfl
attribute [local irreducible] ACallsTo ACallsP
theorem znp(O:Store)(K:List NH)(p:NH)(x:AV)(hx:SlV 33 (knP K) x)(hl:K.length<1000000):
  ACallsTo TC 159 [x,.agg (.int .i64 p.1::hc p.2)] O (.int .i64 (idxK K p)) O:=by
 have r1:=hx.len
 rw [zm]at r1
 unfold z1k at r1
 have lp:=z6 p.2
 refine ACallsTo.of_body q2dok (by simp) fun hw _=> ?_
 repeat' (first|apply zs_|apply zb_|apply zc_|apply zt_ rfl|apply zf_ rfl|(apply zd_ rfl<;>intro ht<;>try omega)|((first|apply zr_|apply zk_|apply ze_|apply zq_|(apply zG<;>intro ht));all_goals try simp (disch:=first|omega|(simp only [lens,z6,z7,zg,z8,zh,zm,lQt,lQd,List.length_replicate];first|done|omega)) only [go_sem,r1,lp]))
 refine zW.loop (fun m J O'=>∃i:Nat,m+i=K.length/\ O'=O++ [some [.int .i64 p.1::hc p.2]]/\ p ∉ K.take i/\ J 0=x/\ J 3=.ptr O.length 0 0/\ J 7=.int .i64 K.length/\ J 8=.int .i64 i) K.length ?_ ?_
 ·exact⟨0,by omega,by simp (disch:=first|omega|(simp only [lens,z6,z7,zg,z8,zh,zm,lQt,lQd,List.length_replicate];first|done|omega)) only [go_sem],by simp,by simp (disch:=first|omega|(simp only [lens,z6,z7,zg,z8,zh,zm,lQt,lQd,List.length_replicate];first|done|omega)) only [go_sem],by simp (disch:=first|omega|(simp only [lens,z6,z7,zg,z8,zh,zm,lQt,lQd,List.length_replicate];first|done|omega)) only [go_sem],by simp (disch:=first|omega|(simp only [lens,z6,z7,zg,z8,zh,zm,lQt,lQd,List.length_replicate];first|done|omega)) only [go_sem,r1],by simp (disch:=first|omega|(simp only [lens,z6,z7,zg,z8,zh,zm,lQt,lQd,List.length_replicate];first|done|omega)) only [go_sem];try rfl⟩
 ·rintro m J O' ⟨i,hm,rfl,hN,q0,q3,q7,q8⟩
  by_cases hi:i<K.length
  ·obtain⟨ex,rfl⟩:=hx.vsl (by rw [zm];omega)
   have ga:=zjt hi
   have la:=zm K
   have he:=sg_eq p.1 K[i].1 p.2 K[i].2
   have hka:=z6 K[i].2
   by_cases hh:K[i]=p
   ·rw [zsj hi hh hN]
    rw [decide_eq_true ⟨by rw [hh],by rw [hh]⟩]at he
    generalize K[i]=a at*
    repeat' (first|apply zs_|apply zb_|apply zc_|apply zt_ rfl|apply zf_ rfl|(apply zd_ rfl<;>intro ht<;>try omega)|((first|apply zr_|apply zk_|apply ze_|apply zq_|(apply zG<;>intro ht));all_goals try simp (disch:=first|omega|(simp only [lens,z6,z7,zg,z8,zh,zm,lQt,lQd,List.length_replicate];first|done|omega)) only [go_sem,q0,q3,q7,q8,ga,la,he,hka,lp]))
    exact DownV.pure hw rl_i
   ·rw [decide_eq_false fun h=>hh (Prod.ext h.1.symm h.2.symm)]at he
    have hN2:p ∉ K.take (i+1):=fun h=>((z14h hi).1 h).elim hN hh
    generalize K[i]=a at*
    repeat' (first|apply zs_|apply zb_|apply zc_|apply zt_ rfl|apply zf_ rfl|(apply zd_ rfl<;>intro ht<;>try omega)|((first|apply zr_|apply zk_|apply ze_|apply zq_|(apply zG<;>intro ht));all_goals try simp (disch:=first|omega|(simp only [lens,z6,z7,zg,z8,zh,zm,lQt,lQd,List.length_replicate];first|done|omega)) only [go_sem,q0,q3,q7,q8,ga,la,he,hka,lp]))
    exact⟨m-1,by omega,i+1,by omega,hN2,by simp⟩
  ·rw [List.take_of_length_le (by omega)]at hN
   rw [zsk hN]
   have hi':¬(i:Int)<K.length:=by omega
   repeat' (first|apply zs_|apply zb_|apply zc_|apply zt_ rfl|apply zf_ rfl|(apply zd_ rfl<;>intro ht<;>try omega)|((first|apply zr_|apply zk_|apply ze_|apply zq_|(apply zG<;>intro ht));all_goals try simp (disch:=first|omega|(simp only [lens,z6,z7,zg,z8,zh,zm,lQt,lQd,List.length_replicate];first|done|omega)) only [go_sem,q0,q3,q7,q8,hi']))
   exact DownV.pure hw rl_i
theorem znj(O:Store)(K:List NH)(p:NH)(x:AV)(hx:SlV 33 (knP K) x)(hl:K.length<1000000):
  ACallsTo TC 141 [x,.agg (.int .i64 p.1::hc p.2)] O (.bool (decide (p ∈ K))) O:=by
 have hI:=fun O=>znp O K p x hx hl
 have lp:=z6 p.2
 have e:=zsl K p
 refine ACallsTo.of_body q2bok (by simp) fun hw _=> ?_
 by_cases h:p ∈ K
 ·rw [decide_eq_true h]at e ⊢
  have e':=of_decide_eq_true e
  repeat' (first|apply zs_|apply zb_|apply zc_|apply zt_ rfl|apply zf_ rfl|(apply zd_ rfl<;>intro ht<;>try omega)|((first|apply zr_|apply zk_|apply ze_|apply zq_|(apply callW.mk_pu;(first|exact(fun _=>hI _)))|(apply callW.za;(first|exact(hI _)))|(apply zG<;>intro ht));all_goals try simp (disch:=first|omega|(simp only [lens,z6,z7,zg,z8,zh,zm,lQt,lQd,List.length_replicate];first|done|omega)) only [go_sem,lp,e']))
  exact DownV.pure hw rl_b
 ·rw [decide_eq_false h]at e ⊢
  have e':=of_decide_eq_false e
  repeat' (first|apply zs_|apply zb_|apply zc_|apply zt_ rfl|apply zf_ rfl|(apply zd_ rfl<;>intro ht<;>try omega)|((first|apply zr_|apply zk_|apply ze_|apply zq_|(apply callW.mk_pu;(first|exact(fun _=>hI _)))|(apply callW.za;(first|exact(hI _)))|(apply zG<;>intro ht));all_goals try simp (disch:=first|omega|(simp only [lens,z6,z7,zg,z8,zh,zm,lQt,lQd,List.length_replicate];first|done|omega)) only [go_sem,lp,e']))
  exact DownV.pure hw rl_b
theorem zgu(O:Store)(P:List Hdr)(K:List NH)(x y:AV)(hx:SlV 36 (hdrs P) x)(hy:SlV 33 (knP K) y)(hl:P.length<1000000)(hK:K.length<1000000)(hp:∀q ∈ P,q.p.length<1000000):
  ACallsTo TC 108 [x,y] O (zz 36 (hdrs (z13 P K))) O:=by
 have r1:=hx.len
 rw [z8]at r1
 unfold z1k at r1
 refine ACallsTo.of_body q26ok (by simp) fun hw _=> ?_
 repeat' (first|apply zs_|apply zb_|apply zc_|apply zt_ rfl|apply zf_ rfl|(apply zd_ rfl<;>intro ht<;>try omega)|((first|apply zr_|apply zk_|apply ze_|apply zq_|(apply zG<;>intro ht));all_goals try simp (disch:=first|omega|(simp only [lens,z6,z7,zg,z8,zh,zm,lQt,lQd,List.length_replicate];first|done|omega)) only [go_sem,r1]))
 refine zW.loop (fun m J O'=>∃(i:Nat) (w:AV),m+i=P.length/\ OwnN 36 O O' w (hdrs (z13 (P.take i) K))/\ J 1=y/\ J 5=w/\ J 8=x/\ J 9=.int .i64 P.length/\ J 10=.int .i64 i) P.length ?_ ?_
 ·exact⟨0,.nilsl,by omega,⟨[],by simp,.inl ⟨rfl,rfl⟩⟩,by simp (disch:=first|omega|(simp only [lens,z6,z7,zg,z8,zh,zm,lQt,lQd,List.length_replicate];first|done|omega)) only [go_sem],by simp (disch:=first|omega|(simp only [lens,z6,z7,zg,z8,zh,zm,lQt,lQd,List.length_replicate];first|done|omega)) only [go_sem],by simp (disch:=first|omega|(simp only [lens,z6,z7,zg,z8,zh,zm,lQt,lQd,List.length_replicate];first|done|omega)) only [go_sem],by simp (disch:=first|omega|(simp only [lens,z6,z7,zg,z8,zh,zm,lQt,lQd,List.length_replicate];first|done|omega)) only [go_sem,r1],by simp (disch:=first|omega|(simp only [lens,z6,z7,zg,z8,zh,zm,lQt,lQd,List.length_replicate];first|done|omega)) only [go_sem];try rfl⟩
 ·rintro m J O' ⟨i,w,hm,hO,q1,q5,q8,q9,q10⟩
  have hOl:=hO.len
  rw [z8]at hOl
  unfold z1k at hOl
  by_cases hi:i<P.length
  ·obtain⟨ex,rfl⟩:=hx.vsl (by rw [z8];omega)
   have hgi:=z9d hi
   have hdl:=z8 P
   have hph:=hp P[i] (List.getElem_mem hi)
   have hno:=zto (K:=K) hi
   have hyes:=ztp (K:=K) hi
   have hml:=zbh (P.take i) K
   have hV:=fun O=>z8o O P[i].n P[i].i P[i].r P[i].s P[i].p _ (.of (z1y 32 (hr P[i].p)))
   rw [show sgC P[i].n P[i].r P[i].i P[i].s (zz 32 (hr P[i].p))=hdrC P[i]from rfl,show z29 P[i].n P[i].i P[i].s P[i].p=valH P[i]from rfl]at hV
   have hC:=fun O=>znj O K (P[i].n,P[i].r) y hy hK
   have hlk:z21 K P[i]=(valH P[i] && !decide ((P[i].n,P[i].r) ∈ K)):=rfl
   generalize P[i]=u at*
   have hcl:=zg u
   have hhd:=zjd u
   have ua:(hdrC u).take 36=hdrC u:=z7f u
   by_cases h3:(z13 (P.take i) K).length<3
   ·have h3':((z13 (P.take i) K).length:Int)<3:=by omega
    cases hv:valH u
    ·rw [hv]at hV hlk
     have e:=hno (.inl (by rw [hlk];rfl))
     repeat' (first|apply zs_|apply zb_|apply zc_|apply zt_ rfl|apply zf_ rfl|(apply zd_ rfl<;>intro ht<;>try omega)|((first|apply zr_|apply zk_|apply ze_|apply zq_|(apply callW.mk_pu;(first|exact(fun _=>hV _)|exact(fun _=>hC _)))|(apply callW.za;(first|exact(hV _)|exact(hC _)))|(apply zG<;>intro ht));all_goals try simp (disch:=first|omega|(simp only [lens,z6,z7,zg,z8,zh,zm,lQt,lQd,List.length_replicate];first|done|omega)) only [go_sem,q1,q5,q8,q9,q10,hgi,hdl,hcl,hhd,ua,hOl,h3']))
     exact⟨m-1,by omega,i+1,w,by omega,by rw [e];exact hO.more _,by simp⟩
    ·rw [hv]at hV hlk
     by_cases hc:(u.n,u.r) ∈ K
     ·rw [decide_eq_true hc]at hC hlk
      have e:=hno (.inl (by rw [hlk];rfl))
      repeat' (first|apply zs_|apply zb_|apply zc_|apply zt_ rfl|apply zf_ rfl|(apply zd_ rfl<;>intro ht<;>try omega)|((first|apply zr_|apply zk_|apply ze_|apply zq_|(apply callW.mk_pu;(first|exact(fun _=>hV _)|exact(fun _=>hC _)))|(apply callW.za;(first|exact(hV _)|exact(hC _)))|(apply zG<;>intro ht));all_goals try simp (disch:=first|omega|(simp only [lens,z6,z7,zg,z8,zh,zm,lQt,lQd,List.length_replicate];first|done|omega)) only [go_sem,q1,q5,q8,q9,q10,hgi,hdl,hcl,hhd,ua,hOl,h3']))
      exact⟨m-1,by omega,i+1,w,by omega,by rw [e];exact hO.more _,by simp⟩
     ·rw [decide_eq_false hc]at hC hlk
      have e:=hyes (by rw [hlk];rfl) h3
      have hCl:=fun O=>zgs O u.p (zz 32 (hr u.p)) (.of (z1y 32 (hr u.p))) hph
      rw [zjw]at hCl
      obtain⟨w',O2,ha,hO2⟩:=(hO.more [some [hdrC u]]).app (ys:=[hdrC u]) (by simp) (by rw [z8];simp;omega)
      rw [<-zs6 u,<-zs3,<-e]at hO2
      have hst:=fun x v=>zm6 u.n u.r u.i u.s x v
      have sl:=fun v=>z7 u.n u.r u.i u.s v
      have xc:=(z1y 32 (hr u.p)).cells
      unfold cellsOf at xc
      rw [show hdrC u=sgC u.n u.r u.i u.s (zz 32 (hr u.p))from rfl]at hgi ha hV ua hhd
      generalize zz 32 (hr u.p)=xp at*
      repeat' (first|apply zs_|apply zb_|apply zc_|apply zt_ rfl|apply zf_ rfl|(apply zd_ rfl<;>intro ht<;>try omega)|((first|apply zr_|apply zk_|apply ze_|apply zq_|(apply callW.mk_pu;(first|exact(fun _=>hV _)|exact(fun _=>hC _)|exact(fun _=>hCl _)))|(apply callW.za;(first|exact(hV _)|exact(hC _)|exact(hCl _)))|(apply zG<;>intro ht));all_goals try simp (disch:=first|omega|(simp only [lens,z6,z7,zg,z8,zh,zm,lQt,lQd,List.length_replicate];first|done|omega)) only [go_sem,q1,q5,q8,q9,q10,hgi,hdl,hhd,ua,hOl,h3',sl,hst,xc,ha]))
      exact⟨m-1,by omega,i+1,w',by omega,hO2,by simp⟩
   ·have h3':¬((z13 (P.take i) K).length:Int)<3:=by omega
    have e:=hno (.inr h3)
    repeat' (first|apply zs_|apply zb_|apply zc_|apply zt_ rfl|apply zf_ rfl|(apply zd_ rfl<;>intro ht<;>try omega)|((first|apply zr_|apply zk_|apply ze_|apply zq_|(apply zG<;>intro ht));all_goals try simp (disch:=first|omega|(simp only [lens,z6,z7,zg,z8,zh,zm,lQt,lQd,List.length_replicate];first|done|omega)) only [go_sem,q1,q5,q8,q9,q10,hgi,hdl,hcl,hhd,ua,hOl,h3']))
    exact⟨m-1,by omega,i+1,w,by omega,by rw [e];exact hO.more _,by simp⟩
  ·obtain rfl:i=P.length:=by omega
   rw [List.take_of_length_le (Nat.le_refl _)]at hO
   repeat' (first|apply zs_|apply zb_|apply zc_|apply zt_ rfl|apply zf_ rfl|(apply zd_ rfl<;>intro ht<;>try omega)|((first|apply zr_|apply zk_|apply ze_|apply zq_|(apply zG<;>intro ht));all_goals try simp (disch:=first|omega|(simp only [lens,z6,z7,zg,z8,zh,zm,lQt,lQd,List.length_replicate];first|done|omega)) only [go_sem,q1,q5,q8,q9,q10]))
   exact hO.froze hw (z9r _)
end
section
attribute [local irreducible] ACallsTo ACallsP
end
section
theorem zdt{h:Hdr}(hv:valH h=true):(z28 (z2g h)).length<2000000:=by
 have h1:=zev hv
 have h2:=z24 (z2g h).length
 unfold z28
 rw [List.length_append];omega
theorem zrp{h:Hdr}(hv:valH h=true):putV h.n h.i h.r h.s h.p=.tup [.str (z2g h),.int .i64 0]:=by
 unfold putV
 rw [if_pos (show z29 h.n h.i h.s h.p=true from hv)]
 rfl
def z2b(P:List Hdr):List UInt8:=(P.map fun q=>z28 (z2g q)).flatten
def gtS(P:List Hdr):List UInt8:=71::(numS P.length++z2b P)
theorem zrs{P:List Hdr}{i:Nat}(h:i<P.length):z2b (P.take (i+1))=z2b (P.take i)++z28 (z2g P[i]):=by
 unfold z2b;rw [List.take_succ_eq_append_getElem h,List.map_append,List.flatten_append];simp
theorem z9a:∀{P:List Hdr},(∀q ∈ P,valH q=true)->(z2b P).length<=2000000*P.length
 | [],_=>by simp [z2b]
 |q::P,h=>by
  have h1:=z9a (P:=P) fun q hq=>h q (List.mem_cons_of_mem _ hq)
  have h2:=zdt (h q (by simp))
  unfold z2b at h1 ⊢
  simp only [List.map_cons,List.flatten_cons,List.length_append,List.length_cons]
  omega
theorem z14k(s:List UInt8):z28 s ≠ []:=by unfold z28;simp [zke]
def zeu(P:List Hdr):AV:=if P=[] \/P.all valH=false then .tup [.str [],.int .i64 2]else .tup [.str (gtS P),.int .i64 0]
theorem zl0:zeu []=.tup [.str [],.int .i64 2]:=if_pos (.inl rfl)
theorem zl1{P:List Hdr}(h0:P ≠ [])(hv:∀q ∈ P,valH q=true):zeu P=.tup [.str (gtS P),.int .i64 0]:=if_neg fun h=>h.elim h0 fun h=>by
 rw [List.all_eq_true.2 hv]at h;cases h
attribute [local irreducible] ACallsTo ACallsP
theorem zrk(O:Store)(P:List Hdr)(x:AV)(hx:SlV 36 (hdrs P) x)(hl:P.length<=3)(hv:∀q ∈ P,valH q=true):ACallsTo TC 116 [x] O (zeu P) O:=by
 have r1:=hx.len
 rw [z8]at r1
 unfold z1k at r1
 refine ACallsTo.of_body q2aok (by simp) fun hw _=> ?_
 by_cases h0:P=[]
 ·rw [h0,zl0]
  have h0':P.length=0:=by rw [h0];rfl
  rw [h0']at r1
  repeat' (first|apply zs_|apply zb_|apply zc_|apply zt_ rfl|apply zf_ rfl|(apply zd_ rfl<;>intro ht<;>try omega)|((first|apply zr_|apply zk_|apply ze_|apply zq_|(apply zG<;>intro ht));all_goals try simp (disch:=first|omega|(simp only [lens,z6,z7,zg,z8,zh,zm,lQt,lQd,List.length_replicate];first|done|omega)) only [go_sem,r1]))
  exact DownV.same hw (by simp [RL,RLs])
 ·rw [zl1 h0 hv]
  have hP0:0<P.length:=List.length_pos_iff.2 h0
  have hN:=fun O=>z7a O P.length (by omega)
  have hNl:=z24 P.length
  have h3:¬(P.length:Int)>3:=by omega
  have h1:((P.length:Int)==0)=false:=beq_eq_false_iff_ne.2 (by omega)
  unfold gtS
  generalize numS P.length=N at*
  have b0:BldN O (O++ [some [[.bld O.length,.bnil]]]) O.length []:=BldN.new (Nat.le_refl _) (by simp)
  obtain⟨O1,w1,b1⟩:=b0.write (t:=71::N) (by simp) (by simp;omega)
  rw [List.nil_append]at b1
  repeat' (first|apply zs_|apply zb_|apply zc_|apply zt_ rfl|apply zf_ rfl|(apply zd_ rfl<;>intro ht<;>try omega)|((first|apply zr_|apply zk_|apply ze_|apply zq_|(apply callW.mk_pu;(first|exact(fun _=>hN _)|exact(fun _=>w1)))|(apply callW.za;(first|exact(hN _)|exact(w1)))|(apply zG<;>intro ht));all_goals try simp (disch:=first|omega|(simp only [lens,z6,z7,zg,z8,zh,zm,lQt,lQd,List.length_replicate];first|done|omega)) only [go_sem,r1,h3,h1,List.cons_append,List.nil_append]))
  refine zW.loop (fun m J O'=>∃i:Nat,m+i=P.length/\ BldN O O' O.length (71::N++z2b (P.take i))/\ J 4=.ptr O.length 0 0/\ J 23=x/\ J 24=.int .i64 P.length/\ J 25=.int .i64 i) P.length ?_ ?_
  ·exact⟨0,by omega,by simpa [z2b]using b1,by simp (disch:=first|omega|(simp only [lens,z6,z7,zg,z8,zh,zm,lQt,lQd,List.length_replicate];first|done|omega)) only [go_sem],by simp (disch:=first|omega|(simp only [lens,z6,z7,zg,z8,zh,zm,lQt,lQd,List.length_replicate];first|done|omega)) only [go_sem],by simp (disch:=first|omega|(simp only [lens,z6,z7,zg,z8,zh,zm,lQt,lQd,List.length_replicate];first|done|omega)) only [go_sem,r1],by simp (disch:=first|omega|(simp only [lens,z6,z7,zg,z8,zh,zm,lQt,lQd,List.length_replicate];first|done|omega)) only [go_sem];try rfl⟩
  ·clear w1 b1 b0
   rintro m J O' ⟨i,hm,hB,q4,q23,q24,q25⟩
   have hcl:=z9a (P:=P.take i) fun q hq=>hv q (List.mem_of_mem_take hq)
   rw [List.length_take]at hcl
   by_cases hi:i<P.length
   ·obtain⟨e1,rfl⟩:=hx.vsl (by rw [z8];omega)
    have gi:=z9d hi
    have sl:=z8 P
    have hst:=zrs hi
    have hk:=hv P[i] (List.getElem_mem hi)
    have hM:=fun O=>Put_to O P[i].n P[i].i P[i].r P[i].s P[i].p _ (.of (z1y 32 (hr P[i].p)))
    rw [show sgC P[i].n P[i].r P[i].i P[i].s (zz 32 (hr P[i].p))=hdrC P[i]from rfl,zrp hk]at hM
    generalize P[i]=u at*
    have hpl:=zev hk
    have htl:=zdt hk
    have hT:=fun O=>zdg O (z2g u) (by omega)
    have hne:=z14k (z2g u)
    have hul:=zg u
    have ua:(hdrC u).take 36=hdrC u:=z7f u
    generalize z28 (z2g u)=T at*
    obtain⟨O2,w2,b2⟩:=(hB.more [some [hdrC u]]).write (t:=T) hne (by simp only [List.length_append,List.length_cons];omega)
    repeat' (first|apply zs_|apply zb_|apply zc_|apply zt_ rfl|apply zf_ rfl|(apply zd_ rfl<;>intro ht<;>try omega)|((first|apply zr_|apply zk_|apply ze_|apply zq_|(apply callW.mk_pu;(first|exact(fun _=>hM _)|exact(fun _=>hT _)|exact(fun _=>w2)))|(apply callW.za;(first|exact(hM _)|exact(hT _)|exact(w2)))|(apply zG<;>intro ht));all_goals try simp (disch:=first|omega|(simp only [lens,z6,z7,zg,z8,zh,zm,lQt,lQd,List.length_replicate];first|done|omega)) only [go_sem,q4,q23,q24,q25,gi,sl,hul,ua]))
    refine⟨m-1,by omega,i+1,by omega,?_,by simp⟩
    rw [hst,<-List.append_assoc];exact b2
   ·have e:P.take i=P:=List.take_of_length_le (by omega)
    rw [e]at hB
    have hcl2:=z9a hv
    obtain⟨news,w3⟩:=hB.string (by simp) (by simp only [List.length_append,List.length_cons];omega)
    have hi':¬(i:Int)<P.length:=by omega
    repeat' (first|apply zs_|apply zb_|apply zc_|apply zt_ rfl|apply zf_ rfl|(apply zd_ rfl<;>intro ht<;>try omega)|((first|apply zr_|apply zk_|apply ze_|apply zq_|(apply callW.mk_pu;(first|exact(fun _=>w3)))|(apply callW.za;(first|exact(w3)))|(apply zG<;>intro ht));all_goals try simp (disch:=first|omega|(simp only [lens,z6,z7,zg,z8,zh,zm,lQt,lQd,List.length_replicate];first|done|omega)) only [go_sem,q4,q23,q24,q25,hi']))
    exact DownV.pure hw (by simp [RL,RLs])
end
section
theorem zrr{P:List Hdr}{i:Nat}(h:i<P.length):z2b (P.drop i)=z28 (z2g P[i])++z2b (P.drop (i+1)):=by
 rw [List.drop_eq_getElem_cons h];rfl
theorem ztz{l:List NH}{i:Nat}(h:i<l.length):z23 (l.drop i)=nhS l[i]++z23 (l.drop (i+1)):=by
 rw [List.drop_eq_getElem_cons h];rfl
theorem zrm{h:Hdr}(hv:valH h=true):getV (getH (z2g h))=.tup [.agg (hdrC h),.int .i64 0]:=by
 obtain⟨d,e1,e2,e3⟩:=val_of hv
 have:=zrl e2 []
 rw [List.append_nil,if_pos rfl,<-e3]at this
 rw [this,e1];rfl
theorem zt4{l:List NH}{i:Nat}(h:i<l.length):knP (l.take i)++ [.int .i64 l[i].1::hc l[i].2]=knP (l.take (i+1)):=by
 unfold knP;rw [List.take_succ_eq_append_getElem h,List.map_append];rfl
theorem zys{k:Nat}(l:List NH):RLss k (knP l):=by
 induction l with
 |nil=>simp [knP,RLss]
 |cons q l ih=>
  show RLss k ((.int .i64 q.1::hc q.2)::knP l)
  simp only [RLss]
  exact⟨by simp only [RLs,RL];exact⟨trivial,z7m q.2⟩,ih⟩
attribute [local irreducible] ACallsTo ACallsP
theorem zno(O:Store)(a b:UInt8)(t:List UInt8):ACallsTo TC 176 [.str (a::t),.str [b]] O (.bool (decide (a=b))) O:=by
 refine ACallsTo.of_body qsok (by simp) fun hw _=> ?_
 have h1:((t.length+1:Nat):Int)>=1:=by omega
 by_cases h:a=b
 ·subst h
  rw [decide_eq_true rfl]
  have e:([a]==[a])=true:=by simp
  repeat' (first|apply zs_|apply zb_|apply zc_|apply zt_ rfl|apply zf_ rfl|(apply zd_ rfl<;>intro ht<;>try omega)|((first|apply zr_|apply zk_|apply ze_|apply zq_|(apply zG<;>intro ht));all_goals try simp (disch:=first|omega|(simp only [lens,z6,z7,zg,z8,zh,zm,lQt,lQd,List.length_replicate];first|done|omega)) only [go_sem,e,h1,List.length_cons,List.length_nil,List.take_succ_cons,List.take_zero]))
  exact DownV.same hw rl_b
 ·rw [decide_eq_false h]
  have e:([a]==[b])=false:=by simp [h]
  repeat' (first|apply zs_|apply zb_|apply zc_|apply zt_ rfl|apply zf_ rfl|(apply zd_ rfl<;>intro ht<;>try omega)|((first|apply zr_|apply zk_|apply ze_|apply zq_|(apply zG<;>intro ht));all_goals try simp (disch:=first|omega|(simp only [lens,z6,z7,zg,z8,zh,zm,lQt,lQd,List.length_replicate];first|done|omega)) only [go_sem,e,h1,List.length_cons,List.length_nil,List.take_succ_cons,List.take_zero]))
  exact DownV.same hw rl_b
theorem znk(O:Store)(a b:UInt8)(t:List UInt8):ACallsTo TC 173 [.str (a::t),.str [b]] O (if a=b then .tup [.str t,.bool true]else .tup [.str (a::t),.bool false]) O:=by
 have hH:=fun O=>zno O a b t
 refine ACallsTo.of_body q2fok (by simp) fun hw _=> ?_
 by_cases h:a=b
 ·rw [if_pos h]
  rw [decide_eq_true h]at hH
  repeat' (first|apply zs_|apply zb_|apply zc_|apply zt_ rfl|apply zf_ rfl|(apply zd_ rfl<;>intro ht<;>try omega)|((first|apply zr_|apply zk_|apply ze_|apply zq_|(apply callW.mk_pu;(first|exact(fun _=>hH _)))|(apply callW.za;(first|exact(hH _)))|(apply zG<;>intro ht));all_goals try simp (disch:=first|omega|(simp only [lens,z6,z7,zg,z8,zh,zm,lQt,lQd,List.length_replicate];first|done|omega)) only [go_sem,List.length_cons,List.length_nil,List.drop_succ_cons,List.drop_zero]))
  exact DownV.same hw (by simp [RL,RLs])
 ·rw [if_neg h]
  rw [decide_eq_false h]at hH
  repeat' (first|apply zs_|apply zb_|apply zc_|apply zt_ rfl|apply zf_ rfl|(apply zd_ rfl<;>intro ht<;>try omega)|((first|apply zr_|apply zk_|apply ze_|apply zq_|(apply callW.mk_pu;(first|exact(fun _=>hH _)))|(apply callW.za;(first|exact(hH _)))|(apply zG<;>intro ht));all_goals try simp (disch:=first|omega|(simp only [lens,z6,z7,zg,z8,zh,zm,lQt,lQd,List.length_replicate];first|done|omega)) only [go_sem,List.length_cons,List.length_nil]))
  exact DownV.same hw (by simp [RL,RLs])
theorem znl(O:Store)(a b:UInt8)(t:List UInt8):ACallsTo TC 160 [.str (a::t),.str [b]] O (if a=b then .tup [.str t,.bool true]else .tup [.str (a::t),.bool false]) O:=by
 have hH:=fun O=>znk O a b t
 refine ACallsTo.of_body q2eok (by simp) fun hw _=> ?_
 by_cases h:a=b
 ·rw [if_pos h]at hH ⊢
  repeat' (first|apply zs_|apply zb_|apply zc_|apply zt_ rfl|apply zf_ rfl|(apply zd_ rfl<;>intro ht<;>try omega)|((first|apply zr_|apply zk_|apply ze_|apply zq_|(apply callW.mk_pu;(first|exact(fun _=>hH _)))|(apply callW.za;(first|exact(hH _)))|(apply zG<;>intro ht));all_goals try simp (disch:=first|omega|(simp only [lens,z6,z7,zg,z8,zh,zm,lQt,lQd,List.length_replicate];first|done|omega)) only [go_sem,Nat.add_zero]))
  exact DownV.same hw (by simp [RL,RLs])
 ·rw [if_neg h]at hH ⊢
  repeat' (first|apply zs_|apply zb_|apply zc_|apply zt_ rfl|apply zf_ rfl|(apply zd_ rfl<;>intro ht<;>try omega)|((first|apply zr_|apply zk_|apply ze_|apply zq_|(apply callW.mk_pu;(first|exact(fun _=>hH _)))|(apply callW.za;(first|exact(hH _)))|(apply zG<;>intro ht));all_goals try simp (disch:=first|omega|(simp only [lens,z6,z7,zg,z8,zh,zm,lQt,lQd,List.length_replicate];first|done|omega)) only [go_sem,Nat.add_zero]))
  exact DownV.same hw (by simp [RL,RLs])
theorem zdr(O:Store)(a b:UInt8)(t:List UInt8)(ht:t.length<1000000000):ACallsTo TC 142 [.str (a::t),.str [b]] O (if a=b then rdV (z2k t)else .tup [.int .u64 0,.str [],.bool false]) O:=by
 have hH:=fun O=>znl O a b t
 have hR:=fun O=>z7b O t ht
 refine ACallsTo.of_body q2cok (by simp) fun hw _=> ?_
 by_cases h:a=b
 ·rw [if_pos h]at hH ⊢
  rw [rdV_D]at hR ⊢
  repeat' (first|apply zs_|apply zb_|apply zc_|apply zt_ rfl|apply zf_ rfl|(apply zd_ rfl<;>intro ht<;>try omega)|((first|apply zr_|apply zk_|apply ze_|apply zq_|(apply callW.mk_pu;(first|exact(fun _=>hH _)|exact(fun _=>hR _)))|(apply callW.za;(first|exact(hH _)|exact(hR _)))|(apply zG<;>intro ht));all_goals try simp (disch:=first|omega|(simp only [lens,z6,z7,zg,z8,zh,zm,lQt,lQd,List.length_replicate];first|done|omega)) only [go_sem,Nat.add_zero]))
  exact DownV.same hw (by simp [RL,RLs])
 ·rw [if_neg h]at hH ⊢
  repeat' (first|apply zs_|apply zb_|apply zc_|apply zt_ rfl|apply zf_ rfl|(apply zd_ rfl<;>intro ht<;>try omega)|((first|apply zr_|apply zk_|apply ze_|apply zq_|(apply callW.mk_pu;(first|exact(fun _=>hH _)))|(apply callW.za;(first|exact(hH _)))|(apply zG<;>intro ht));all_goals try simp (disch:=first|omega|(simp only [lens,z6,z7,zg,z8,zh,zm,lQt,lQd,List.length_replicate];first|done|omega)) only [go_sem,Nat.add_zero]))
  exact DownV.same hw (by simp [RL,RLs])
theorem zri(O:Store)(t:List UInt8)(ht:t.length<1000000000):ACallsTo TC 114 [.str (68::t)] O (.tup [.nilsl,.int .i64 10]) O:=by
 have hC:=fun O=>zdr O 68 71 t ht
 rw [if_neg (by decide)]at hC
 refine ACallsTo.of_body q28ok (by simp) fun hw _=> ?_
 repeat' (first|apply zs_|apply zb_|apply zc_|apply zt_ rfl|apply zf_ rfl|(apply zd_ rfl<;>intro ht<;>try omega)|((first|apply zr_|apply zk_|apply ze_|apply zq_|(apply callW.mk_pu;(first|exact(fun _=>hC _)))|(apply callW.za;(first|exact(hC _)))|(apply zG<;>intro ht));all_goals try simp (disch:=first|omega|(simp only [lens,z6,z7,zg,z8,zh,zm,lQt,lQd,List.length_replicate];first|done|omega)) only [go_sem,Nat.add_zero]))
 exact DownV.same hw (by simp [RL,RLs])
theorem zrj(O:Store)(P:List Hdr)(h0:P ≠ [])(hl:P.length<=3)(hv:∀q ∈ P,valH q=true):ACallsTo TC 114 [.str (gtS P)] O (.tup [zz 36 (hdrs P),.int .i64 0]) O:=by
 have hP0:0<P.length:=List.length_pos_iff.2 h0
 have hcl:=z9a hv
 have hnl:=z24 P.length
 have hC:=fun O=>zdr O 71 71 (numS P.length++z2b P) (by rw [List.length_append];omega)
 rw [if_pos rfl,z7l (by omega)]at hC
 rw [show rdV (some (P.length,z2b P))=.tup [.int .u64 P.length,.str (z2b P),.bool true]from rfl]at hC
 unfold gtS
 have h1:¬(P.length:Int)<1:=by omega
 have h3:¬(P.length:Int)>3:=by omega
 refine ACallsTo.of_body q28ok (by simp) fun hw _=> ?_
 repeat' (first|apply zs_|apply zb_|apply zc_|apply zt_ rfl|apply zf_ rfl|(apply zd_ rfl<;>intro ht<;>try omega)|((first|apply zr_|apply zk_|apply ze_|apply zq_|(apply callW.mk_pu;(first|exact(fun _=>hC _)))|(apply callW.za;(first|exact(hC _)))|(apply zG<;>intro ht));all_goals try simp (disch:=first|omega|(simp only [lens,z6,z7,zg,z8,zh,zm,lQt,lQd,List.length_replicate];first|done|omega)) only [go_sem,h1,h3]))
 refine zW.loop (fun m J O'=>∃(i:Nat) (w:AV),m+i=P.length/\ OwnN 36 O O' w (hdrs (P.take i))/\ J 5=.str (z2b (P.drop i))/\ J 7=w/\ J 29=.int .u64 P.length/\ J 30=.int .u64 i) P.length ?_ ?_
 ·exact⟨0,.nilsl,by omega,⟨[],by simp,.inl ⟨rfl,rfl⟩⟩,by rw [List.drop_zero];simp (disch:=first|omega|(simp only [lens,z6,z7,zg,z8,zh,zm,lQt,lQd,List.length_replicate];first|done|omega)) only [go_sem],by simp (disch:=first|omega|(simp only [lens,z6,z7,zg,z8,zh,zm,lQt,lQd,List.length_replicate];first|done|omega)) only [go_sem],by simp (disch:=first|omega|(simp only [lens,z6,z7,zg,z8,zh,zm,lQt,lQd,List.length_replicate];first|done|omega)) only [go_sem],by simp (disch:=first|omega|(simp only [lens,z6,z7,zg,z8,zh,zm,lQt,lQd,List.length_replicate];first|done|omega)) only [go_sem];try rfl⟩
 ·rintro m J O' ⟨i,w,hm,hO,q5,q7,q29,q30⟩
  by_cases hi:i<P.length
  ·have hst:=zjf hi
   have hdr:=zrr hi
   have hcl2:=z9a (P:=P.drop (i+1)) fun q hq=>hv q (List.mem_of_mem_drop hq)
   rw [List.length_drop]at hcl2
   have hk:=hv P[i] (List.getElem_mem hi)
   generalize P[i]=u at*
   have hpl:=zev hk
   have htl:=zdt hk
   have hCt:=fun O=>zdf O (z28 (z2g u)++z2b (P.drop (i+1))) (by rw [List.length_append];omega)
   rw [zik (by omega)]at hCt
   rw [show stV (some (z2g u,z2b (P.drop (i+1))))=.tup [.str (z2g u),.str (z2b (P.drop (i+1))),.bool true]from rfl]at hCt
   have hG:=fun O=>Get_to O (z2g u) (by omega)
   rw [zrm hk]at hG
   rw [hdr]at q5
   have hul:=zg u
   have ua:(hdrC u).take 36=hdrC u:=z7f u
   obtain⟨w',O2,ha,hO2⟩:=(hO.more [some [hdrC u]]).app (ys:=[hdrC u]) (by simp) (by rw [z8,List.length_take];simp;omega)
   rw [hst]at hO2
   have hi':(i:Int)<P.length:=by omega
   repeat' (first|apply zs_|apply zb_|apply zc_|apply zt_ rfl|apply zf_ rfl|(apply zd_ rfl<;>intro ht<;>try omega)|((first|apply zr_|apply zk_|apply ze_|apply zq_|(apply callW.mk_pu;(first|exact(fun _=>hCt _)|exact(fun _=>hG _)))|(apply callW.za;(first|exact(hCt _)|exact(hG _)))|(apply zG<;>intro ht));all_goals try simp (disch:=first|omega|(simp only [lens,z6,z7,zg,z8,zh,zm,lQt,lQd,List.length_replicate];first|done|omega)) only [go_sem,q5,q7,q29,q30,hul,ua,ha,hi']))
   exact⟨m-1,by omega,i+1,w',by omega,hO2,by simp⟩
  ·obtain rfl:i=P.length:=by omega
   rw [List.take_of_length_le (Nat.le_refl _)]at hO
   rw [List.drop_of_length_le (Nat.le_refl _),show z2b []=[]from rfl]at q5
   repeat' (first|apply zs_|apply zb_|apply zc_|apply zt_ rfl|apply zf_ rfl|(apply zd_ rfl<;>intro ht<;>try omega)|((first|apply zr_|apply zk_|apply ze_|apply zq_|(apply zG<;>intro ht));all_goals try simp (disch:=first|omega|(simp only [lens,z6,z7,zg,z8,zh,zm,lQt,lQd,List.length_replicate];first|done|omega)) only [go_sem,q5,q7,q29,q30]))
   exact(hO.froze hw (z9r _)).tup2
theorem zrh(O:Store)(l:List NH)(hl:l.length<=64)(hok:∀p ∈ l,nhOk p=true):ACallsTo TC 115 [.str (knS l)] O (.tup [zz 33 (knP l),.int .i64 0]) O:=by
 have hcl:=z7j l
 have hnl:=z24 l.length
 have hC:=fun O=>zdr O 68 68 (numS l.length++z23 l) (by rw [List.length_append];omega)
 rw [if_pos rfl,z7l (by omega)]at hC
 rw [show rdV (some (l.length,z23 l))=.tup [.int .u64 l.length,.str (z23 l),.bool true]from rfl]at hC
 unfold knS
 have h3:¬(l.length:Int)>64:=by omega
 refine ACallsTo.of_body q29ok (by simp) fun hw _=> ?_
 repeat' (first|apply zs_|apply zb_|apply zc_|apply zt_ rfl|apply zf_ rfl|(apply zd_ rfl<;>intro ht<;>try omega)|((first|apply zr_|apply zk_|apply ze_|apply zq_|(apply callW.mk_pu;(first|exact(fun _=>hC _)))|(apply callW.za;(first|exact(hC _)))|(apply zG<;>intro ht));all_goals try simp (disch:=first|omega|(simp only [lens,z6,z7,zg,z8,zh,zm,lQt,lQd,List.length_replicate];first|done|omega)) only [go_sem,h3]))
 refine zW.loop (fun m J O'=>∃(i:Nat) (w:AV),m+i=l.length/\ OwnN 33 O O' w (knP (l.take i))/\ J 5=.str (z23 (l.drop i))/\ J 7=w/\ J 25=.int .u64 l.length/\ J 26=.int .u64 i) l.length ?_ ?_
 ·exact⟨0,.nilsl,by omega,⟨[],by simp,.inl ⟨rfl,rfl⟩⟩,by rw [List.drop_zero];simp (disch:=first|omega|(simp only [lens,z6,z7,zg,z8,zh,zm,lQt,lQd,List.length_replicate];first|done|omega)) only [go_sem],by simp (disch:=first|omega|(simp only [lens,z6,z7,zg,z8,zh,zm,lQt,lQd,List.length_replicate];first|done|omega)) only [go_sem],by simp (disch:=first|omega|(simp only [lens,z6,z7,zg,z8,zh,zm,lQt,lQd,List.length_replicate];first|done|omega)) only [go_sem],by simp (disch:=first|omega|(simp only [lens,z6,z7,zg,z8,zh,zm,lQt,lQd,List.length_replicate];first|done|omega)) only [go_sem];try rfl⟩
 ·rintro m J O' ⟨i,w,hm,hO,q5,q7,q25,q26⟩
  by_cases hi:i<l.length
  ·have hst:=zt4 hi
   have hdr:=ztz hi
   have hcl2:=z7j (l.drop (i+1))
   rw [List.length_drop]at hcl2
   have hk:=hok l[i] (List.getElem_mem hi)
   generalize l[i]=p at*
   obtain⟨n,r⟩:=p
   obtain⟨k1,k2⟩:=of_decide_eq_true hk
   dsimp only at k1 k2 hst
   obtain⟨K,rfl⟩:∃K:Nat,n=K:=⟨n.toNat,by omega⟩
   have kl:=z24 K
   have r32:=r.2
   rw [show nhS ((K:Int),r)=numS K++r.1 from rfl,List.append_assoc]at hdr
   have hRd:=fun O=>z7b O (numS K++(r.1++z23 (l.drop (i+1)))) (by simp only [List.length_append];omega)
   rw [z7l (by omega)]at hRd
   rw [show rdV (some (K,r.1++z23 (l.drop (i+1))))=.tup [.int .u64 K,.str (r.1++z23 (l.drop (i+1))),.bool true]from rfl]at hRd
   have hU:=fun O=>z81 O (r.1++z23 (l.drop (i+1))) (by simp only [List.length_append];omega)
   rw [zn4]at hU
   rw [show unV (some (r,z23 (l.drop (i+1))))=.tup [.agg (hc r),.str (z23 (l.drop (i+1))),.bool true]from rfl]at hU
   rw [hdr]at q5
   have rl:=z6 r
   have ra:(hc r).take 32=hc r:=List.take_of_length_le (by omega)
   have k4:¬(K:Int)>4096:=by omega
   obtain⟨w',O2,ha,hO2⟩:=(hO.more [some [hc r]]).app (ys:=[.int .i64 (K:Int)::hc r]) (by simp) (by rw [zm,List.length_take];simp;omega)
   rw [hst]at hO2
   have hi':(i:Int)<l.length:=by omega
   repeat' (first|apply zs_|apply zb_|apply zc_|apply zt_ rfl|apply zf_ rfl|(apply zd_ rfl<;>intro ht<;>try omega)|((first|apply zr_|apply zk_|apply ze_|apply zq_|(apply callW.mk_pu;(first|exact(fun _=>hRd _)|exact(fun _=>hU _)))|(apply callW.za;(first|exact(hRd _)|exact(hU _)))|(apply zG<;>intro ht));all_goals try simp (disch:=first|omega|(simp only [lens,z6,z7,zg,z8,zh,zm,lQt,lQd,List.length_replicate];first|done|omega)) only [go_sem,q5,q7,q25,q26,rl,ra,ha,hi',k4]))
   exact⟨m-1,by omega,i+1,w',by omega,hO2,by simp⟩
  ·obtain rfl:i=l.length:=by omega
   rw [List.take_of_length_le (Nat.le_refl _)]at hO
   rw [List.drop_of_length_le (Nat.le_refl _),show z23 []=[]from rfl]at q5
   repeat' (first|apply zs_|apply zb_|apply zc_|apply zt_ rfl|apply zf_ rfl|(apply zd_ rfl<;>intro ht<;>try omega)|((first|apply zr_|apply zk_|apply ze_|apply zq_|(apply zG<;>intro ht));all_goals try simp (disch:=first|omega|(simp only [lens,z6,z7,zg,z8,zh,zm,lQt,lQd,List.length_replicate];first|done|omega)) only [go_sem,q5,q7,q25,q26]))
   exact(hO.froze hw (zys _)).tup2
end
section
attribute [local irreducible] ACallsTo ACallsP
end
section
attribute [local irreducible] ACallsTo ACallsP
end
section
inductive MT where
 |gt (P:List Hdr)
 |kn (l:List NH)
structure MM where
 f:Nat
 t:Nat
 k:MT
def MT.txt:MT->List UInt8| .gt P=>gtS P| .kn l=>knS l
def MM.ml(m:MM):ML:=⟨m.f,m.t,m.k.txt⟩
def MT.Ok:MT->Prop
 | .gt P=>P ≠ []/\ P.length<=3/\ ∀q ∈ P,valH q=true
 | .kn l=>l.length<=64/\ ∀p ∈ l,nhOk p=true
structure MM.Ok(n:Nat)(m:MM):Prop where
 f:m.f<n
 t:m.t<n
 ne:m.f ≠ m.t
 k:m.k.Ok
theorem FrL.fr{O O':Store}{r:Nat}{sid sid':Option Nat}(h:FrL O O' r sid sid'):Fr O O' (r::sid.toList) (r::sid'.toList) where
 st j hj hn:=h.keep j hj (fun e=>hn (e ▸ List.mem_cons_self ..)) fun e=>hn (by rw [e];simp)
 new j hj:=by
  rcases List.mem_cons.1 hj with rfl|h2
  ·exact .inl (List.mem_cons_self ..)
  ·have:sid'=some j:=by cases sid'<;>simp_all
   rcases h.new j this with h3|h3
   ·exact .inl (by rw [h3];simp)
   ·exact .inr h3
 le:=h.len
theorem LkIs.lt2{O:Store}{r:Nat}{nodes:Int}{sid:Option Nat}{L:List ML}(h:LkIs O r nodes sid L):∀x ∈ r::sid.toList,x<O.length:=by
 intro x hx
 obtain⟨h1,h2⟩:=h.lt
 rcases List.mem_cons.1 hx with rfl|h3
 ·exact h1
 ·exact h2 x (by cases sid<;>simp_all)
theorem LkIs.keep{O O':Store}{r:Nat}{nodes:Int}{sid:Option Nat}{L:List ML}(h:LkIs O r nodes sid L)(hk:∀x ∈ r::sid.toList,O'[x]? =O[x]?):LkIs O' r nodes sid L:=by
 refine⟨by rw [hk r (List.mem_cons_self ..)];exact h.obj,?_,h.apart⟩
 have:=h.rows
 cases sid with
 |none=>exact this
 |some s=>obtain⟨junk,hj⟩:=this;exact⟨junk,by rw [hk s (by simp)];exact hj⟩
def zaa(N:Nat)(ow:Nat->List Nat):Prop:=∀i j,i<N->j<N->i ≠ j->∀x ∈ ow i,x ∉ ow j
def z2t(N:Nat)(ow:Nat->List Nat):List Nat:=(List.range N).flatMap ow
theorem mem_allOw{N:Nat}{ow:Nat->List Nat}{x:Nat}:x ∈ z2t N ow ↔ ∃i,i<N/\ x ∈ ow i:=by simp [z2t,List.mem_flatMap]
def updO(ow:Nat->List Nat)(m:Nat)(o:List Nat):Nat->List Nat:=fun j=>if j=m then o else ow j
theorem za6{ow:Nat->List Nat}{m:Nat}{o:List Nat}:updO ow m o m=o:=if_pos rfl
theorem z69{ow:Nat->List Nat}{m j:Nat}{o:List Nat}(h:j ≠ m):updO ow m o j=ow j:=if_neg h
theorem zkq{O O':Store}{N m:Nat}{ow:Nat->List Nat}{o:List Nat}(hm:m<N)(hlt:∀i,i<N->∀x ∈ ow i,x<O.length)(hd:zaa N ow)(hf:Fr O O' (ow m) o):
  zaa N (updO ow m o)/\ Fr O O' (z2t N ow) (z2t N (updO ow m o))/\ ∀j,j<N->j ≠ m->∀x ∈ ow j,O'[x]? =O[x]?:=by
 have hk:∀j,j<N->j ≠ m->∀x ∈ o,x ∉ ow j:=fun j hj hne x hx h2=>by
  rcases hf.new x hx with h3|h3
  ·exact hd m j hm hj (fun e=>hne e.symm) x h3 h2
  ·have:=hlt j hj x h2;omega
 refine⟨fun i j hi hj hne x hx h2=> ?_,⟨fun j hj hn=>hf.st j hj fun h=>hn (mem_allOw.2 ⟨m,hm,h⟩),fun x hx=> ?_,hf.le⟩,fun j hj hne x hx=>hf.st x (hlt j hj x hx) fun h=>hd j m hj hm hne x hx h⟩
 ·by_cases h1:i=m
  ·subst h1
   rw [za6]at hx
   rw [z69 (fun e=>hne e.symm)]at h2
   exact hk j hj (fun e=>hne e.symm) x hx h2
  ·rw [z69 h1]at hx
   by_cases h3:j=m
   ·subst h3;rw [za6]at h2;exact hk i hi h1 x h2 hx
   ·rw [z69 h3]at h2;exact hd i j hi hj hne x hx h2
 ·obtain⟨i,hi,h2⟩:=mem_allOw.1 hx
  by_cases h1:i=m
  ·subst h1;rw [za6]at h2
   exact(hf.new x h2).imp_left fun h=>mem_allOw.2 ⟨i,hm,h⟩
  ·rw [z69 h1]at h2;exact .inl (mem_allOw.2 ⟨i,hi,h2⟩)
abbrev PI:=Store->Nat->Hash->List Hdr->List Nat->Prop
structure PLoc(I:PI):Prop where
 lt:∀{O p key P own},I O p key P own->∀j ∈ own,j<O.length
 keep:∀{O O' p key P own},I O p key P own->(∀j,j ∈ own->O'[j]? =O[j]?)->I O' p key P own
theorem ploc_is:PLoc PoIs:=⟨fun h _ hj=>h.lt hj,fun h hk=>h.keep hk⟩
structure CirO(I:PI)(O:Store)(c q l:Nat)(sid:Option Nat)(pp:List Nat)(ow:Nat->List Nat)(key:Hash)(PS:List (List Hdr))(M:List MM):Prop where
 o0:ow 0=[c,q]
 o1:ow 1=l::sid.toList
 len:pp.length=PS.length
 obj:O[c]? =some (some [[.sl q 0 PS.length none 1,.ptr l 0 0]])
 row:O[q]? =some (some (pp.map fun p=>[.ptr p 0 0]))
 lk:LkIs O l PS.length sid (M.map MM.ml)
 pool:∀i,i<PS.length->I O (pp.getD i 0) key (PS.getD i []) (ow (i+2))
 apart:zaa (PS.length+2) ow
def CirS(I:PI)(O:Store)(c:Nat)(key:Hash)(PS:List (List Hdr))(M:List MM)(own:List Nat):Prop:=
 ∃q l sid pp ow,own=z2t (PS.length+2) ow/\ CirO I O c q l sid pp ow key PS M
section
variable {I:PI} (hI:PLoc I) {O O':Store} {c q l:Nat} {sid:Option Nat} {pp:List Nat} {ow:Nat->List Nat} {key:Hash} {PS:List (List Hdr)} {M:List MM} {own:List Nat}
include hI
theorem CirO.lt(h:CirO I O c q l sid pp ow key PS M):∀i,i<PS.length+2->∀x ∈ ow i,x<O.length:=by
 intro i hi x hx
 match i,hi,hx with
 | 0,_,hx=>
  rw [h.o0]at hx
  rcases List.mem_cons.1 hx with rfl|h2
  ·exact slen h.obj
  ·rw [List.mem_singleton.1 h2];exact slen h.row
 | 1,_,hx=>rw [h.o1]at hx;exact h.lk.lt2 x hx
 |i+2,hi,hx=>exact hI.lt (h.pool i (by omega)) x hx
theorem CirO.keep(h:CirO I O c q l sid pp ow key PS M)(hk:∀i,i<PS.length+2->∀x ∈ ow i,O'[x]? =O[x]?):CirO I O' c q l sid pp ow key PS M where
 o0:=h.o0
 o1:=h.o1
 len:=h.len
 obj:=by rw [hk 0 (by omega) c (by rw [h.o0];simp)];exact h.obj
 row:=by rw [hk 0 (by omega) q (by rw [h.o0];simp)];exact h.row
 lk:=h.lk.keep fun x hx=>hk 1 (by omega) x (by rw [h.o1];exact hx)
 pool i hi:=hI.keep (h.pool i hi) fun j hj=>hk (i+2) (by omega) j hj
 apart:=h.apart
theorem CirS.lt(h:CirS I O c key PS M own):∀x ∈ own,x<O.length:=by
 obtain⟨q,l,sid,pp,ow,rfl,h⟩:=h
 intro x hx
 obtain⟨i,hi,h2⟩:=mem_allOw.1 hx
 exact h.lt hI i hi x h2
theorem CirS.keep(h:CirS I O c key PS M own)(hk:∀x ∈ own,O'[x]? =O[x]?):CirS I O' c key PS M own:=by
 obtain⟨q,l,sid,pp,ow,rfl,h⟩:=h
 exact⟨q,l,sid,pp,ow,rfl,h.keep hI fun i hi x hx=>hk x (mem_allOw.2 ⟨i,hi,hx⟩)⟩
theorem CirS.ext(h:CirS I O c key PS M own)(he:Ext O O'):CirS I O' c key PS M own:=h.keep hI fun x hx=>by
 have:=h.lt hI x hx
 obtain⟨y,rfl⟩:=he
 exact gapp this
theorem CirS.fr{o o':List Nat}(h:CirS I O c key PS M own)(hf:Fr O O' o o')(hd:∀x ∈ o,x ∉ own):CirS I O' c key PS M own:=
 h.keep hI fun x hx=>hf.st x (h.lt hI x hx) fun h2=>hd x h2 hx
theorem CirO.pool'(h:CirO I O c q l sid pp ow key PS M){i:Nat}(hi:i<PS.length){P:List Hdr}{o:List Nat}(hf:Fr O O' (ow (i+2)) o)(hp:I O' (pp.getD i 0) key P o):
  CirO I O' c q l sid pp (updO ow (i+2) o) key (PS.set i P) M/\ Fr O O' (z2t (PS.length+2) ow) (z2t (PS.length+2) (updO ow (i+2) o)):=by
 obtain⟨h1,h2,h3⟩:=zkq (by omega) (h.lt hI) h.apart hf
 refine⟨?_,h2⟩
 have k0:=h3 0 (by omega) (by omega)
 have k1:=h3 1 (by omega) (by omega)
 exact {
  o0:=by rw [z69 (by omega)];exact h.o0
  o1:=by rw [z69 (by omega)];exact h.o1
  len:=by rw [List.length_set];exact h.len
  obj:=by rw [List.length_set,k0 c (by rw [h.o0];simp)];exact h.obj
  row:=by rw [k0 q (by rw [h.o0];simp)];exact h.row
  lk:=by rw [List.length_set];exact h.lk.keep fun x hx=>k1 x (by rw [h.o1];exact hx)
  pool:=fun j hj=>by
   rw [List.length_set]at hj
   by_cases e:j=i
   ·subst e
    rw [za6,show (PS.set j P).getD j []=P by simp [List.getD,hj]]
    exact hp
   ·rw [z69 (by omega),show (PS.set i P).getD j []=PS.getD j []by simp [List.getD,List.getElem?_set_ne (fun e2=>e e2.symm)]]
    exact hI.keep (h.pool j hj) (h3 (j+2) (by omega) (by omega))
  apart:=by rw [List.length_set];exact h1 }
theorem CirO.links'(h:CirO I O c q l sid pp ow key PS M){sid':Option Nat}{M':List MM}(hf:FrL O O' l sid sid')(hl:LkIs O' l PS.length sid' (M'.map MM.ml)):
  CirO I O' c q l sid' pp (updO ow 1 (l::sid'.toList)) key PS M'/\ Fr O O' (z2t (PS.length+2) ow) (z2t (PS.length+2) (updO ow 1 (l::sid'.toList))):=by
 obtain⟨h1,h2,h3⟩:=zkq (m:=1) (o:=l::sid'.toList) (by omega) (h.lt hI) h.apart (by rw [h.o1];exact hf.fr)
 refine⟨?_,h2⟩
 have k0:=h3 0 (by omega) (by omega)
 exact {
  o0:=by rw [z69 (by omega)];exact h.o0
  o1:=za6
  len:=h.len
  obj:=by rw [k0 c (by rw [h.o0];simp)];exact h.obj
  row:=by rw [k0 q (by rw [h.o0];simp)];exact h.row
  lk:=hl
  pool:=fun j hj=>by
   rw [z69 (by omega)]
   exact hI.keep (h.pool j hj) (h3 (j+2) (by omega) (by omega))
  apart:=h1 }
end
end
section
theorem zvm{mk:AV->List AV}{O:Store}{p:Nat}{v:AV}{sid:Option Nat}(P:List Hdr)(hp:O[p]? =some (some [mk v])):
  ∃O' v' sid',O'[p]? =some (some [mk v'])/\ RowAt 36 O' sid' v' (hdrs P)/\ sid' ≠ some p/\ Fr O O' (p::sid.toList) (p::sid'.toList):=by
 have hl:=slen hp
 by_cases h0:P=[]
 ·refine⟨O.set p (some [mk .nilsl]),.nilsl,none,z1x hl,.inl ⟨rfl,by rw [h0];rfl,rfl⟩,by simp,⟨fun j hj hn=>z1e fun e=>hn (by rw [e];simp),fun j hj=> ?_,by simp⟩⟩
  simp at hj;subst hj;exact .inl (List.mem_cons_self ..)
 ·refine⟨O.set p (some [mk (.sl O.length 0 (hdrs P).length none 36)])++ [some (hdrs P)],_,some O.length,?_,.inr ⟨O.length,rfl,?_,rfl,?_⟩,?_,⟨fun j hj hn=> ?_,fun j hj=> ?_,by simp⟩⟩
  ·rw [gapp (by simpa using hl),z1x hl]
  ·intro e;have:=congrArg List.length e;rw [z8]at this;exact h0 (List.length_eq_zero_iff.1 this)
  ·rw [z19 (by simp)];simp
  ·intro e;injection e with e;omega
  ·rw [gapp (by simpa using hj)];exact z1e fun e=>hn (by rw [e];simp)
  ·simp at hj
   rcases hj with rfl|rfl
   ·exact .inl (List.mem_cons_self ..)
   ·exact .inr (Nat.le_refl _)
def PAny(I:PI):Prop:=∀{O p key P own},I O p key P own->∀P',∃O' own',I O' p key P' own'/\ Fr O O' own own'
theorem z2s:PAny PoIs:=fun {O p key P own} h P'=>by
 obtain⟨v,sid,rfl,hp,hr,hn⟩:=h
 obtain⟨O',v',sid',h1,h2,h3,h4⟩:=zvm (mk:=poC key) (sid:=sid) P' hp
 exact⟨O',_,⟨v',sid',rfl,h1,h2,h3⟩,h4⟩
theorem Fr.trans{O O2 O3:Store}{a b c:List Nat}(h:Fr O O2 a b)(h2:Fr O2 O3 b c):Fr O O3 a c:=by
 refine⟨fun j hj hn=> ?_,fun j hj=> ?_,Nat.le_trans h.le h2.le⟩
 ·rw [h2.st j (by have:=h.le;omega) fun h3=> ?_,h.st j hj hn]
  rcases h.new j h3 with h4|h4
  ·exact hn h4
  ·omega
 ·rcases h2.new j hj with h3|h3
  ·exact h.new j h3
  ·exact .inr (by have:=h.le;omega)
section
variable {I:PI} (hI:PLoc I) (hA:PAny I) {O:Store} {c:Nat} {key:Hash} {PS:List (List Hdr)} {M:List MM} {own:List Nat}
include hI hA
theorem CirS.pools(h:CirS I O c key PS M own)(PS':List (List Hdr))(hl:PS'.length=PS.length):∀n,n<=PS.length->∃O' own',CirS I O' c key (PS'.take n++PS.drop n) M own'/\ Fr O O' own own'
 | 0,_=>⟨O,own,by simpa using h,⟨fun _ _ _=>rfl,fun _ h=> .inl h,Nat.le_refl _⟩⟩
 |n+1,hn=>by
  obtain⟨O1,own1,⟨q,l,sid,pp,ow,rfl,h1⟩,f1⟩:=CirS.pools h PS' hl n (by omega)
  have hlen:(PS'.take n++PS.drop n).length=PS.length:=by simp;omega
  obtain⟨O2,o,h2,f2⟩:=hA (h1.pool n (by omega)) (PS'.getD n [])
  obtain⟨h3,f3⟩:=h1.pool' hI (i:=n) (by omega) f2 h2
  have e:(PS'.take n++PS.drop n).set n (PS'.getD n [])=PS'.take (n+1)++PS.drop (n+1):=by
   rw [List.set_append_right _ _ (by simp;omega),List.length_take,show n-min n PS'.length=0 by omega,List.drop_eq_getElem_cons (by omega),List.set_cons_zero,List.take_succ_eq_append_getElem (show n<PS'.length by omega),List.append_assoc,show PS'.getD n []=PS'[n]'(by omega)by simp [List.getD,List.getElem?_eq_getElem (show n<PS'.length by omega)]]
   rfl
  rw [e]at h3
  exact⟨O2,_,⟨q,l,sid,pp,_,by rw [show (PS'.take (n+1)++PS.drop (n+1)).length=(PS'.take n++PS.drop n).length by simp;omega],h3⟩,f1.trans f3⟩
theorem CirS.any(h:CirS I O c key PS M own)(PS':List (List Hdr))(M':List MM)(hl:PS'.length=PS.length):∃O' own',CirS I O' c key PS' M' own'/\ Fr O O' own own':=by
 obtain⟨O1,own1,h1,f1⟩:=CirS.pools hI hA h PS' hl PS.length (Nat.le_refl _)
 rw [List.drop_length,List.append_nil,<-hl,List.take_length]at h1
 obtain⟨q,l,sid,pp,ow,rfl,h1⟩:=h1
 obtain⟨O2,sid',h2,f2⟩:=zk3 h1.lk (M'.map MM.ml)
 obtain⟨h3,f3⟩:=h1.links' hI f2 h2
 exact⟨O2,_,⟨q,l,sid',pp,_,rfl,h3⟩,f1.trans f3⟩
end
def CirP(I:PI)(O:Store)(c:Nat)(key:Hash)(own:List Nat)(v:AV)(PS:List (List Hdr))(M:List MM)(a:AV)(O':Store):Prop:=a=v/\ ∃own',CirS I O' c key PS M own'/\ Fr O O' own own'
theorem CirP.is{I:PI}(hI:PLoc I)(hA:PAny I){O:Store}{c:Nat}{key:Hash}{PS PS':List (List Hdr)}{M M':List MM}{own:List Nat}(h:CirS I O c key PS M own)(v:AV)(hl:PS'.length=PS.length):∃a O',CirP I O c key own v PS' M' a O':=by
 obtain⟨O',own',h1,h2⟩:=h.any hI hA PS' M' hl
 exact⟨v,O',rfl,own',h1,h2⟩
def isN(n:Nat)(i:Int):Bool:=decide (0<=i/\ i<n)
attribute [local irreducible] ACallsTo ACallsP
theorem z79(O:Store)(c q l n:Nat)(i:Int)(h:O[c]? =some (some [[.sl q 0 n none 1,.ptr l 0 0]])):ACallsTo TC 63 [.ptr c 0 0,.int .i64 i] O (.bool (isN n i)) O:=by
 refine ACallsTo.of_body q2tok (by simp) fun hw _=> ?_
 unfold isN
 by_cases h1:0<=i
 ·have h1':i>=0:=h1
  by_cases h2:i<n
  ·rw [decide_eq_true ⟨h1,h2⟩]
   repeat' (first|apply zs_|apply zb_|apply zc_|apply zt_ rfl|apply zf_ rfl|(apply zd_ rfl<;>intro ht<;>try omega)|((first|apply zr_|apply zk_|apply ze_|apply zq_|(apply zG<;>intro ht));all_goals try simp (disch:=first|omega|(simp only [lens,z6,z7,zg,z8,zh,zm,lQt,lQd,List.length_replicate,lQm];first|done|omega)) only [go_sem,h,h1',h2]))
   exact DownV.same hw rl_b
  ·rw [decide_eq_false fun h=>h2 h.2]
   repeat' (first|apply zs_|apply zb_|apply zc_|apply zt_ rfl|apply zf_ rfl|(apply zd_ rfl<;>intro ht<;>try omega)|((first|apply zr_|apply zk_|apply ze_|apply zq_|(apply zG<;>intro ht));all_goals try simp (disch:=first|omega|(simp only [lens,z6,z7,zg,z8,zh,zm,lQt,lQd,List.length_replicate,lQm];first|done|omega)) only [go_sem,h,h1',h2]))
   exact DownV.same hw rl_b
 ·have h1':¬i>=0:=h1
  rw [decide_eq_false fun h=>h1 h.1]
  repeat' (first|apply zs_|apply zb_|apply zc_|apply zt_ rfl|apply zf_ rfl|(apply zd_ rfl<;>intro ht<;>try omega)|((first|apply zr_|apply zk_|apply ze_|apply zq_|(apply zG<;>intro ht));all_goals try simp (disch:=first|omega|(simp only [lens,z6,z7,zg,z8,zh,zm,lQt,lQd,List.length_replicate,lQm];first|done|omega)) only [go_sem,h,h1']))
  exact DownV.same hw rl_b
theorem z7z(O:Store)(c q l n:Nat)(h:O[c]? =some (some [[.sl q 0 n none 1,.ptr l 0 0]]))(hn:0<n):ACallsTo TC 62 [.ptr c 0 0] O (.bool false) O:=by
 have h1:((n:Int)==0)=false:=beq_eq_false_iff_ne.2 (by omega)
 refine ACallsTo.of_body q2sok (by simp) fun hw _=> ?_
 repeat' (first|apply zs_|apply zb_|apply zc_|apply zt_ rfl|apply zf_ rfl|(apply zd_ rfl<;>intro ht<;>try omega)|((first|apply zr_|apply zk_|apply ze_|apply zq_|(apply zG<;>intro ht));all_goals try simp (disch:=first|omega|(simp only [lens,z6,z7,zg,z8,zh,zm,lQt,lQd,List.length_replicate,lQm];first|done|omega)) only [go_sem,h,h1]))
 exact DownV.same hw rl_b
section
variable {O:Store} {c:Nat} {key:Hash} {PS:List (List Hdr)} {M:List MM} {own:List Nat}
theorem zd4(h:CirS PoIs O c key PS M own)(hn:0<PS.length)(hl:M.length<1000000):ACallsTo TC 26 [.ptr c 0 0] O (.int .i64 M.length) O:=by
 obtain⟨q,l,sid,pp,ow,rfl,h⟩:=h
 have hN:=z7z O c q l _ h.obj hn
 have hM:=zte O l PS.length sid (M.map MM.ml) h.lk (by omega) (by simpa using hl)
 have ho:=h.obj
 have hln:(M.map MM.ml).length=M.length:=List.length_map ..
 have hsl:z1k (slOf (z7i O (M.map MM.ml)) (M.map MM.ml).length 3)=some (.int .i64 M.length):=by
  unfold z7i
  split
  ·rename_i h0
   have:M.length=0:=by rw [<-hln,h0];rfl
   rw [this];rfl
  ·rw [hln];rfl
 unfold z1k at hsl
 generalize slOf (z7i O (M.map MM.ml)) (M.map MM.ml).length 3=x at*
 refine ACallsTo.of_body q2pok (by simp) fun hw _=> ?_
 repeat' (first|apply zs_|apply zb_|apply zc_|apply zt_ rfl|apply zf_ rfl|(apply zd_ rfl<;>intro ht<;>try omega)|((first|apply zr_|apply zk_|apply ze_|apply zq_|(apply callW.mk_pu;(first|exact(fun _=>hN)|exact(fun _=>hM)))|(apply callW.za;(first|exact(hN)|exact(hM)))|(apply zG<;>intro ht));all_goals try simp (disch:=first|omega|(simp only [lens,z6,z7,zg,z8,zh,zm,lQt,lQd,List.length_replicate,lQm];first|done|omega)) only [go_sem,ho,hsl]))
 exact DownV.pure hw rl_i
def z3e(n:Nat)(M:List MM)(i:Int):List MM:=if atS n M.length i=0 then M.eraseIdx i.toNat else M
theorem zil(n:Nat)(M:List MM)(i:Int):(z3e n M i).map MM.ml=delL n (M.map MM.ml) i:=by
 unfold z3e delL
 rw [List.length_map]
 split
 ·rw [List.eraseIdx_eq_take_drop_succ,List.eraseIdx_eq_take_drop_succ,List.map_append,List.map_take,List.map_drop]
 ·rfl
theorem zhv(h:CirS PoIs O c key PS M own)(hn:0<PS.length)(hl:M.length<1000000)(i:Int):ACallsP TC 24 [.ptr c 0 0,.int .i64 i] O (CirP PoIs O c key own (.int .i64 (atS PS.length M.length i)) PS (z3e PS.length M i)):=by
 obtain⟨q,l,sid,pp,ow,rfl,h⟩:=h
 have hN:=z7z O c q l _ h.obj hn
 have hM:=ztb O l PS.length i sid (M.map MM.ml) h.lk (by simpa using hl)
 have ho:=h.obj
 refine ACallsP.of_keep q2nok (by simp) ?_
 repeat' (first|apply zs_|apply zb_|apply zc_|apply zt_ rfl|apply zf_ rfl|(apply zd_ rfl<;>intro ht<;>try omega)|((first|apply zr_|apply zk_|apply ze_|apply zq_|(apply callW.mk_pu;(first|exact(fun _=>hN)))|(apply callW.za;(first|exact(hN)))|(apply zG<;>intro ht));all_goals try simp (disch:=first|omega|(simp only [lens,z6,z7,zg,z8,zh,zm,lQt,lQd,List.length_replicate,lQm];first|done|omega)) only [go_sem,ho]))
 refine callW.mkP (caps:=[]) hM ?_ ?_
 ·obtain⟨O',k⟩:=ze9 h.lk (delL PS.length (M.map MM.ml) i) (fun e=>by subst e;exact zin h.lk)
  exact⟨_,O',rfl,k⟩
 rintro v O' ⟨rfl,k1,k2⟩
 rw [<-zil]at k1
 obtain⟨h1,h2⟩:=h.links' ploc_is k2 k1
 rw [List.length_map]
 simp (disch:=first|omega|(simp only [lens,z6,z7,zg,z8,zh,zm,lQt,lQd,List.length_replicate,lQm];first|done|omega)) only [go_sem]
 repeat' (first|apply zs_|apply zb_|apply zc_|apply zt_ rfl|apply zf_ rfl|(apply zd_ rfl<;>intro ht<;>try omega)|((first|apply zr_|apply zk_|apply ze_|apply zq_|(apply zG<;>intro ht));all_goals try simp (disch:=first|omega|(simp only [lens,z6,z7,zg,z8,zh,zm,lQt,lQd,List.length_replicate,lQm];first|done|omega)) only [go_sem]))
 exact⟨rfl,_,⟨q,l,sid,pp,_,rfl,h1⟩,h2⟩
theorem zj6(M:List MM)(i:Nat)(h:i<M.length):(M.map MM.ml).getD i ⟨0,0,[]⟩=(M.getD i ⟨0,0,.kn []⟩).ml:=by
 simp [List.getD,h]
def dblI(n:Nat)(M:List MM)(i:Int):Int:=dblS n (M.map MM.ml) i
def z4x(n:Nat)(M:List MM)(i:Int):List MM:=if dblI n M i=0 then M++ [M.getD i.toNat ⟨0,0,.kn []⟩]else M
theorem zb7{n:Nat}{M:List MM}{i:Int}(h:dblI n M i=0):atS n M.length i=0:=by
 unfold dblI dblS at h
 rw [List.length_map]at h
 by_cases h2:atS n M.length i=0
 ·exact h2
 ·rw [if_neg h2]at h;exact h
theorem zqb(n:Nat)(M:List MM)(i:Int):(z4x n M i).map MM.ml=if dblS n (M.map MM.ml) i=0 then M.map MM.ml++ [(M.map MM.ml).getD i.toNat ⟨0,0,[]⟩]else M.map MM.ml:=by
 unfold z4x
 by_cases h:dblI n M i=0
 ·obtain⟨_,h1,h2⟩:=z74 (zb7 h)
  rw [if_pos h,if_pos (show dblS n (M.map MM.ml) i=0 from h),List.map_append,zj6 M _ (by omega)];rfl
 ·rw [if_neg h,if_neg (show ¬dblS n (M.map MM.ml) i=0 from h)]
theorem zpe(h:CirS PoIs O c key PS M own)(hn:0<PS.length)(hl:M.length<1000000)(i:Int):ACallsP TC 25 [.ptr c 0 0,.int .i64 i] O (CirP PoIs O c key own (.int .i64 (dblI PS.length M i)) PS (z4x PS.length M i)):=by
 obtain⟨q,l,sid,pp,ow,rfl,h⟩:=h
 have hN:=z7z O c q l _ h.obj hn
 have hM:=zta O l PS.length i sid (M.map MM.ml) h.lk (by simpa using hl)
 have ho:=h.obj
 refine ACallsP.of_keep q2ook (by simp) ?_
 repeat' (first|apply zs_|apply zb_|apply zc_|apply zt_ rfl|apply zf_ rfl|(apply zd_ rfl<;>intro ht<;>try omega)|((first|apply zr_|apply zk_|apply ze_|apply zq_|(apply callW.mk_pu;(first|exact(fun _=>hN)))|(apply callW.za;(first|exact(hN)))|(apply zG<;>intro ht));all_goals try simp (disch:=first|omega|(simp only [lens,z6,z7,zg,z8,zh,zm,lQt,lQd,List.length_replicate,lQm];first|done|omega)) only [go_sem,ho]))
 refine callW.mkP (caps:=[]) hM ?_ ?_
 ·obtain⟨O',sid',k⟩:=zk3 h.lk (if dblS PS.length (M.map MM.ml) i=0 then M.map MM.ml++ [(M.map MM.ml).getD i.toNat ⟨0,0,[]⟩]else M.map MM.ml)
  exact⟨_,O',rfl,sid',k⟩
 rintro v O' ⟨rfl,sid',k1,k2⟩
 rw [<-zqb]at k1
 obtain⟨h1,h2⟩:=h.links' ploc_is k2 k1
 rw [show dblS PS.length (M.map MM.ml) i=dblI PS.length M i from rfl]
 simp (disch:=first|omega|(simp only [lens,z6,z7,zg,z8,zh,zm,lQt,lQd,List.length_replicate,lQm];first|done|omega)) only [go_sem]
 repeat' (first|apply zs_|apply zb_|apply zc_|apply zt_ rfl|apply zf_ rfl|(apply zd_ rfl<;>intro ht<;>try omega)|((first|apply zr_|apply zk_|apply ze_|apply zq_|(apply zG<;>intro ht));all_goals try simp (disch:=first|omega|(simp only [lens,z6,z7,zg,z8,zh,zm,lQt,lQd,List.length_replicate,lQm];first|done|omega)) only [go_sem]))
 exact⟨rfl,_,⟨q,l,sid',pp,_,rfl,h1⟩,h2⟩
end
end
section
theorem POk.val{key:Hash}{P:List Hdr}(h:POk key P):∀q ∈ P,valH q=true:=fun q hq=>by
 have:=h.chk q hq
 unfold z1j at this
 cases e:z29 q.n q.i q.s q.p
 ·rw [if_pos e]at this;cases this
 ·exact e
theorem val_nh{q:Hdr}(h:valH q=true):nhOk (q.n,q.r)=true:=by
 obtain⟨h1,h2,_⟩:=of_decide_eq_true h
 exact decide_eq_true ⟨h1,h2⟩
theorem POk.nh{key:Hash}{P:List Hdr}(h:POk key P):∀p ∈ hns P,nhOk p=true:=fun p hp=>by
 obtain⟨q,hq,rfl⟩:=List.mem_map.1 hp
 exact val_nh (h.val q hq)
def POks(key:Hash)(PS:List (List Hdr)):Prop:=∀i,i<PS.length->POk key (PS.getD i [])
theorem POks.set{key:Hash}{PS:List (List Hdr)}(h:POks key PS)(i:Nat){P:List Hdr}(hP:POk key P):POks key (PS.set i P):=fun j hj=>by
 rw [List.length_set]at hj
 by_cases e:i=j
 ·subst e;rw [show (PS.set i P).getD i []=P by simp [List.getD,hj]];exact hP
 ·rw [show (PS.set i P).getD j []=PS.getD j []by simp [List.getD,List.getElem?_set_ne e]];exact h j hj
def lrnC(key:Hash)(PS:List (List Hdr))(i:Int)(q:Hdr):Int:=if isN PS.length i=true then addC key (PS.getD i.toNat []) q else 0
def lrnS(key:Hash)(PS:List (List Hdr))(i:Int)(q:Hdr):List (List Hdr):=if isN PS.length i=true then PS.set i.toNat (addL key (PS.getD i.toNat []) q)else PS
theorem zk6(key:Hash)(PS:List (List Hdr))(i:Int)(q:Hdr):(lrnS key PS i q).length=PS.length:=by unfold lrnS;split<;>simp
theorem zti{key:Hash}{PS:List (List Hdr)}(h:POks key PS)(i:Int)(q:Hdr):POks key (lrnS key PS i q):=by
 unfold lrnS
 split
 ·rename_i hn
  obtain⟨h1,h2⟩:=of_decide_eq_true hn
  exact h.set _ ((h i.toNat (by omega)).add q)
 ·exact h
theorem z3w{n:Nat}{i:Int}(h:isN n i=true):∃k:Nat,i=k/\ k<n:=by
 obtain⟨h1,h2⟩:=of_decide_eq_true h
 exact⟨i.toNat,by omega,by omega⟩
theorem z6q{pp:List Nat}{i:Nat}(h:i<pp.length):(pp.map fun p=>[AV.ptr p 0 0])[i]? =some [.ptr (pp.getD i 0) 0 0]:=by
 simp [h,List.getD]
def twoN(n:Nat)(i k:Int):Bool:=isN n i && isN n k && !decide (i=k)
def tlkM(PS:List (List Hdr))(i k:Int):MM:=⟨i.toNat,k.toNat,.kn (hns (PS.getD i.toNat []))⟩
def tlkI(PS:List (List Hdr))(M:List MM)(i k:Int):Int:=if twoN PS.length i k=true then z1t PS.length M.length (tlkM PS i k).ml else 2
def z3y(PS:List (List Hdr))(M:List MM)(i k:Int):List MM:=if tlkI PS M i k=0 then M++ [tlkM PS i k]else M
attribute [local irreducible] ACallsTo ACallsP
section
variable {O:Store} {c:Nat} {key:Hash} {PS:List (List Hdr)} {M:List MM} {own:List Nat}
theorem zhy(h:CirS PoIs O c key PS M own)(hok:POks key PS)(i:Int)(q:Hdr)(x:AV)(hx:SlV 32 (hr q.p) x)(hxl:q.p.length<1000000):ACallsP TC 21 [.ptr c 0 0,.int .i64 i,.agg (sgC q.n q.r q.i q.s x)] O (CirP PoIs O c key own (.int .i64 (lrnC key PS i q)) (lrnS key PS i q) M):=by
 have hfin:=h
 obtain⟨Q,l,sid,pp,ow,rfl,h⟩:=h
 have hb:=fun y=>z79 (O++y) c Q l PS.length i (by rw [gapp (slen h.obj)];exact h.obj)
 have hb0:=z79 O c Q l PS.length i h.obj
 have ho:=h.obj
 have lq:=z7 q.n q.r q.i q.s x
 have hco:=slen h.obj
 refine ACallsP.of_keep q2kok (by simp) ?_
 unfold lrnC lrnS
 by_cases hi:isN PS.length i=true
 ·rw [if_pos hi,if_pos hi]
  obtain⟨k,rfl,hk⟩:=z3w hi
  rw [hi]at hb hb0
  have hr:=h.row
  have hrl:=slen hr
  have hpp:=z6q (pp:=pp) (i:=k) (by rw [h.len];exact hk)
  have hpl:(pp.map fun p=>[AV.ptr p 0 0]).length=PS.length:=by rw [List.length_map,h.len]
  have E:Ext O (O++ [some [sgC q.n q.r q.i q.s x]]):=⟨_,rfl⟩
  have tq:(sgC q.n q.r q.i q.s x).take 36=sgC q.n q.r q.i q.s x:=List.take_of_length_le (by omega)
  have hk':(k:Int)<PS.length:=by omega
  repeat' (first|apply zs_|apply zb_|apply zc_|apply zt_ rfl|apply zf_ rfl|(apply zd_ rfl<;>intro ht<;>try omega)|((first|apply zr_|apply zk_|apply ze_|apply zq_|(apply callW.mk_pu;(first|exact(fun _=>hb _)))|(apply callW.za;(first|exact(hb _)))|(apply zG<;>intro ht));all_goals try simp (disch:=first|omega|(simp only [lens,z6,z7,zg,z8,zh,zm,lQt,lQd,List.length_replicate,lQm];first|done|omega)) only [go_sem,ho,hr,hpp,hpl,lq,tq,hk']))
  have hP:=ploc_is.keep (h.pool k hk) (O':=O++ [some [sgC q.n q.r q.i q.s x]]) fun j hj=>gapp (ploc_is.lt (h.pool k hk) j hj)
  refine callW.mkP (caps:=[]) (zbm _ (pp.getD k 0) key _ _ q x hP (hok k hk).sort (hok k hk).len hx hxl (fun e=>zb6 e)) (PoAddP.is hP) ?_
  rintro v O' ⟨rfl,o,f1,P1⟩
  have f2:Fr O O' (ow (k+2)) o:=(Fr.ext E).trans f1
  obtain⟨h1,h2⟩:=h.pool' ploc_is hk f2 P1
  simp (disch:=first|omega|(simp only [lens,z6,z7,zg,z8,zh,zm,lQt,lQd,List.length_replicate,lQm];first|done|omega)) only [go_sem]
  repeat' (first|apply zs_|apply zb_|apply zc_|apply zt_ rfl|apply zf_ rfl|(apply zd_ rfl<;>intro ht<;>try omega)|((first|apply zr_|apply zk_|apply ze_|apply zq_|(apply zG<;>intro ht));all_goals try simp (disch:=first|omega|(simp only [lens,z6,z7,zg,z8,zh,zm,lQt,lQd,List.length_replicate,lQm];first|done|omega)) only [go_sem]))
  exact⟨rfl,_,⟨Q,l,sid,pp,_,by rw [List.length_set],h1⟩,h2⟩
 ·rw [if_neg hi,if_neg hi]
  rw [Bool.eq_false_iff.2 hi]at hb hb0
  repeat' (first|apply zs_|apply zb_|apply zc_|apply zt_ rfl|apply zf_ rfl|(apply zd_ rfl<;>intro ht<;>try omega)|((first|apply zr_|apply zk_|apply ze_|apply zq_|(apply callW.mk_pu;(first|exact(fun _=>hb _)))|(apply callW.za;(first|exact(hb _)))|(apply zG<;>intro ht));all_goals try simp (disch:=first|omega|(simp only [lens,z6,z7,zg,z8,zh,zm,lQt,lQd,List.length_replicate,lQm];first|done|omega)) only [go_sem,lq]))
  exact⟨rfl,_,hfin.ext ploc_is ⟨_,rfl⟩,Fr.ext ⟨_,rfl⟩⟩
theorem z6g(h:CirS PoIs O c key PS M own)(hok:POks key PS)(k:Nat)(hk:k<PS.length):ACallsP TC 27 [.ptr c 0 0,.int .i64 k] O (PoCopyP O key (PS.getD k [])):=by
 obtain⟨Q,l,sid,pp,ow,rfl,h⟩:=h
 have hb:=z79 O c Q l PS.length k h.obj
 rw [show isN PS.length k=true from decide_eq_true ⟨by omega,by omega⟩]at hb
 have ho:=h.obj
 have hr:=h.row
 have hpp:=z6q (pp:=pp) (i:=k) (by rw [h.len];exact hk)
 have hpl:(pp.map fun p=>[AV.ptr p 0 0]).length=PS.length:=by rw [List.length_map,h.len]
 have hk':(k:Int)<PS.length:=by omega
 have hl:=(hok k hk).len
 refine ACallsP.of_keep q2qok (by simp) ?_
 repeat' (first|apply zs_|apply zb_|apply zc_|apply zt_ rfl|apply zf_ rfl|(apply zd_ rfl<;>intro ht<;>try omega)|((first|apply zr_|apply zk_|apply ze_|apply zq_|(apply callW.mk_pu;(first|exact(fun _=>hb)))|(apply callW.za;(first|exact(hb)))|(apply zG<;>intro ht));all_goals try simp (disch:=first|omega|(simp only [lens,z6,z7,zg,z8,zh,zm,lQt,lQd,List.length_replicate,lQm];first|done|omega)) only [go_sem,ho,hr,hpp,hpl,hk']))
 refine callW.mkP (caps:=[]) (zvi O (pp.getD k 0) key _ _ (h.pool k hk) (by omega) (hok k hk).path) (PoCopyP.is _ _ _) ?_
 rintro v O' ⟨p,o,rfl,hE,hP,ho⟩
 simp (disch:=first|omega|(simp only [lens,z6,z7,zg,z8,zh,zm,lQt,lQd,List.length_replicate,lQm];first|done|omega)) only [go_sem]
 repeat' (first|apply zs_|apply zb_|apply zc_|apply zt_ rfl|apply zf_ rfl|(apply zd_ rfl<;>intro ht<;>try omega)|((first|apply zr_|apply zk_|apply ze_|apply zq_|(apply zG<;>intro ht));all_goals try simp (disch:=first|omega|(simp only [lens,z6,z7,zg,z8,zh,zm,lQt,lQd,List.length_replicate,lQm];first|done|omega)) only [go_sem]))
 exact⟨p,o,rfl,hE,hP,ho⟩
theorem zd9(h:CirS PoIs O c key PS M own)(hok:POks key PS)(hn:0<PS.length)(hl:M.length<1000000)(i k:Int):ACallsP TC 22 [.ptr c 0 0,.int .i64 i,.int .i64 k] O (CirP PoIs O c key own (.int .i64 (tlkI PS M i k)) PS (z3y PS M i k)):=by
 have hfin:=h
 obtain⟨Q,l,sid,pp,ow,rfl,h⟩:=h
 have hN:=z7z O c Q l _ h.obj hn
 have hbi:=z79 O c Q l PS.length i h.obj
 have hbk:=z79 O c Q l PS.length k h.obj
 have ho:=h.obj
 refine ACallsP.of_keep q2lok (by simp) ?_
 unfold z3y
 unfold tlkI
 by_cases ht:twoN PS.length i k=true
 ·rw [if_pos ht]
  unfold twoN at ht
  simp only [Bool.and_eq_true,Bool.not_eq_true',decide_eq_false_iff_not]at ht
  obtain⟨⟨hi,hk⟩,hne⟩:=ht
  rw [hi]at hbi
  rw [hk]at hbk
  obtain⟨a,rfl,ha⟩:=z3w hi
  obtain⟨b,rfl,hb⟩:=z3w hk
  have hne':((a:Int)==b)=false:=beq_eq_false_iff_ne.2 hne
  have hr:=h.row
  have hpp:=z6q (pp:=pp) (i:=a) (by rw [h.len];exact ha)
  have hpl:(pp.map fun p=>[AV.ptr p 0 0]).length=PS.length:=by rw [List.length_map,h.len]
  have ha':(a:Int)<PS.length:=by omega
  have hpo:=hok a ha
  have hpol:=hpo.len
  have hK:=z9m O (pp.getD a 0) key _ _ (h.pool a ha) (by omega)
  have hPK:=znu O (hns (PS.getD a [])) (zz 33 (kn (PS.getD a []))) (by rw [<-zju];exact z1y _ _) (by rw [z6j];omega) hpo.nh
  have hS:=ze8 O l PS.length sid (M.map MM.ml) (tlkM PS a b).ml h.lk
  have hE:=ze7 (m:=(tlkM PS a b).ml) h.lk
  rw [List.length_map]at hS hE
  have hml:(tlkM PS a b).ml=⟨(a:Int),(b:Int),knS (hns (PS.getD a []))⟩:=rfl
  have hargs:mailC (tlkM PS a b).ml=[.int .i64 (a:Int),.int .i64 (b:Int),.str (knS (hns (PS.getD a [])))]:=by rw [hml];rfl
  rw [hargs]at hS
  have hmm:(if z1t PS.length M.length (tlkM PS a b).ml=0 then M.map MM.ml++ [(tlkM PS a b).ml]else M.map MM.ml)=(if z1t PS.length M.length (tlkM PS a b).ml=0 then M++ [tlkM PS a b]else M).map MM.ml:=by
   split
   ·rw [List.map_append];rfl
   ·rfl
  generalize z1t PS.length M.length (tlkM PS a b).ml=e at*
  generalize tlkM PS a b=m at*
  generalize knS (hns (PS.getD a []))=txt at*
  repeat' (first|apply zs_|apply zb_|apply zc_|apply zt_ rfl|apply zf_ rfl|(apply zd_ rfl<;>intro ht<;>try omega)|((first|apply zr_|apply zk_|apply ze_|apply zq_|(apply callW.mk_pu;(first|exact(fun _=>hN)|exact(fun _=>hbi)|exact(fun _=>hbk)|exact(fun _=>hK)|exact(fun _=>hPK)))|(apply callW.za;(first|exact(hN)|exact(hbi)|exact(hbk)|exact(hK)|exact(hPK)))|(apply zG<;>intro ht));all_goals try simp (disch:=first|omega|(simp only [lens,z6,z7,zg,z8,zh,zm,lQt,lQd,List.length_replicate,lQm];first|done|omega)) only [go_sem,ho,hr,hpp,hpl,ha',hne']))
  refine callW.mkP (caps:=[]) hS hE ?_
  rintro v O' ⟨rfl,sid',k1,k2⟩
  rw [hmm]at k1
  obtain⟨h1,h2⟩:=h.links' ploc_is k2 k1
  simp (disch:=first|omega|(simp only [lens,z6,z7,zg,z8,zh,zm,lQt,lQd,List.length_replicate,lQm];first|done|omega)) only [go_sem]
  repeat' (first|apply zs_|apply zb_|apply zc_|apply zt_ rfl|apply zf_ rfl|(apply zd_ rfl<;>intro ht<;>try omega)|((first|apply zr_|apply zk_|apply ze_|apply zq_|(apply zG<;>intro ht));all_goals try simp (disch:=first|omega|(simp only [lens,z6,z7,zg,z8,zh,zm,lQt,lQd,List.length_replicate,lQm];first|done|omega)) only [go_sem]))
  exact⟨rfl,_,⟨Q,l,sid',pp,_,rfl,h1⟩,h2⟩
 ·rw [if_neg ht]
  rw [if_neg (by decide)]
  have hres:CirP PoIs O c key (z2t (PS.length+2) ow) (.int .i64 2) PS M (.int .i64 2) O:=⟨rfl,_,hfin,⟨fun _ _ _=>rfl,fun _ h=> .inl h,Nat.le_refl _⟩⟩
  cases hi:isN PS.length i
  ·rw [hi]at hbi
   repeat' (first|apply zs_|apply zb_|apply zc_|apply zt_ rfl|apply zf_ rfl|(apply zd_ rfl<;>intro ht<;>try omega)|((first|apply zr_|apply zk_|apply ze_|apply zq_|(apply callW.mk_pu;(first|exact(fun _=>hN)|exact(fun _=>hbi)))|(apply callW.za;(first|exact(hN)|exact(hbi)))|(apply zG<;>intro ht));all_goals try simp (disch:=first|omega|(simp only [lens,z6,z7,zg,z8,zh,zm,lQt,lQd,List.length_replicate,lQm];first|done|omega)) only [go_sem]))
   exact hres
  ·rw [hi]at hbi
   cases hk:isN PS.length k
   ·rw [hk]at hbk
    repeat' (first|apply zs_|apply zb_|apply zc_|apply zt_ rfl|apply zf_ rfl|(apply zd_ rfl<;>intro ht<;>try omega)|((first|apply zr_|apply zk_|apply ze_|apply zq_|(apply callW.mk_pu;(first|exact(fun _=>hN)|exact(fun _=>hbi)|exact(fun _=>hbk)))|(apply callW.za;(first|exact(hN)|exact(hbi)|exact(hbk)))|(apply zG<;>intro ht));all_goals try simp (disch:=first|omega|(simp only [lens,z6,z7,zg,z8,zh,zm,lQt,lQd,List.length_replicate,lQm];first|done|omega)) only [go_sem]))
    exact hres
   ·rw [hk]at hbk
    have hik:i=k:=by
     unfold twoN at ht
     rw [hi,hk]at ht
     simpa using ht
    subst hik
    have hee:((i:Int)==i)=true:=by simp
    repeat' (first|apply zs_|apply zb_|apply zc_|apply zt_ rfl|apply zf_ rfl|(apply zd_ rfl<;>intro ht<;>try omega)|((first|apply zr_|apply zk_|apply ze_|apply zq_|(apply callW.mk_pu;(first|exact(fun _=>hN)|exact(fun _=>hbi)))|(apply callW.za;(first|exact(hN)|exact(hbi)))|(apply zG<;>intro ht));all_goals try simp (disch:=first|omega|(simp only [lens,z6,z7,zg,z8,zh,zm,lQt,lQd,List.length_replicate,lQm];first|done|omega)) only [go_sem,hee]))
    exact hres
end
end
section
def z1b(key:Hash)(P:List Hdr)(l:List Hdr):List Hdr:=l.foldl (addL key) P
theorem z73{key:Hash}{P:List Hdr}(h:POk key P):∀l,POk key (z1b key P l):=fun l=>by
 induction l generalizing P with
 |nil=>exact h
 |cons q l ih=>exact ih (h.add q)
theorem zhg{key:Hash}{P l:List Hdr}{i:Nat}(h:i<l.length):z1b key P (l.take (i+1))=addL key (z1b key P (l.take i)) l[i]:=by
 unfold z1b;rw [List.take_succ_eq_append_getElem h,List.foldl_append];rfl
def zci(key:Hash)(PS:List (List Hdr))(m:MM):List (List Hdr):=match m.k with| .gt l=>PS.set m.t (z1b key (PS.getD m.t []) l)| .kn _=>PS
def repM(PS:List (List Hdr))(m:MM)(l:List NH):MM:=⟨m.t,m.f,.gt (z13 (PS.getD m.t []) l)⟩
def z4o(PS:List (List Hdr))(M:List MM)(m:MM):List MM:=match m.k with
 | .gt _=>M
 | .kn l=>if z13 (PS.getD m.t []) l ≠ []/\ z1t PS.length M.length (repM PS m l).ml=0 then M++ [repM PS m l]else M
theorem zmu(key:Hash)(PS:List (List Hdr))(m:MM):(zci key PS m).length=PS.length:=by unfold zci;split<;>simp
theorem z4z{PS:List (List Hdr)}{i:Nat}(h:i<PS.length)(P:List Hdr):(PS.set i P).getD i []=P:=by simp [List.getD,h]
theorem zn7{q:Hdr}(h:valH q=true):q.p.length=3:=(of_decide_eq_true h).2.2.2.2.2
attribute [local irreducible] ACallsTo ACallsP
section
variable {O:Store} {c:Nat} {key:Hash} {PS:List (List Hdr)} {M:List MM} {own:List Nat}
theorem zq6(h:CirS PoIs O c key PS M own)(hok:POks key PS)(f t:Nat)(l:List Hdr)(ht:t<PS.length)(hk:(MT.gt l).Ok):
  ACallsP TC 68 [.ptr c 0 0,.agg [.int .i64 f,.int .i64 t,.str (gtS l)]] O (CirP PoIs O c key own (.tup []) (PS.set t (z1b key (PS.getD t []) l)) M):=by
 obtain⟨k0,k3,kv⟩:=hk
 have hG:=fun O=>zrj O l k0 k3 kv
 have hsv:=z1y 36 (hdrs l)
 have r1:=hsv.len
 rw [z8]at r1
 unfold z1k at r1
 generalize zz 36 (hdrs l)=X at*
 generalize gtS l=txt at*
 have hcl:=h.lt ploc_is
 refine ACallsP.of_keep zf4 (by simp) ?_
 repeat' (first|apply zs_|apply zb_|apply zc_|apply zt_ rfl|apply zf_ rfl|(apply zd_ rfl<;>intro ht<;>try omega)|((first|apply zr_|apply zk_|apply ze_|apply zq_|(apply callW.mk_pu;(first|exact(fun _=>hG _)))|(apply callW.za;(first|exact(hG _)))|(apply zG<;>intro ht));all_goals try simp (disch:=first|omega|(simp only [lens,z6,z7,zg,z8,zh,zm,lQt,lQd,List.length_replicate,lQm];first|done|omega)) only [go_sem,r1]))
 refine zW.loop (fun m J O'=>∃(i:Nat) (own':List Nat),m+i=l.length/\ CirS PoIs O' c key (PS.set t (z1b key (PS.getD t []) (l.take i))) M own'/\ Fr O O' own own'/\ O'[O.length]? =some (some [[.int .i64 (f:Int),.int .i64 (t:Int),.str txt]])/\ O.length ∉ own'/\ J 0=.ptr c 0 0/\ J 3=.ptr O.length 0 0/\ J 20=X/\ J 21=.int .i64 l.length/\ J 22=.int .i64 i) l.length ?_ ?_
 ·refine⟨0,own,by omega,?_,Fr.ext ⟨_,rfl⟩,by rw [z19 (Nat.le_refl _),Nat.sub_self];rfl,fun e=>by have:=hcl _ e;omega,by simp (disch:=first|omega|(simp only [lens,z6,z7,zg,z8,zh,zm,lQt,lQd,List.length_replicate,lQm];first|done|omega)) only [go_sem],by simp (disch:=first|omega|(simp only [lens,z6,z7,zg,z8,zh,zm,lQt,lQd,List.length_replicate,lQm];first|done|omega)) only [go_sem],by simp (disch:=first|omega|(simp only [lens,z6,z7,zg,z8,zh,zm,lQt,lQd,List.length_replicate,lQm];first|done|omega)) only [go_sem],by simp (disch:=first|omega|(simp only [lens,z6,z7,zg,z8,zh,zm,lQt,lQd,List.length_replicate,lQm];first|done|omega)) only [go_sem,r1],by simp (disch:=first|omega|(simp only [lens,z6,z7,zg,z8,zh,zm,lQt,lQd,List.length_replicate,lQm];first|done|omega)) only [go_sem];try rfl⟩
  rw [show PS.set t (z1b key (PS.getD t []) (l.take 0))=PS by
   rw [show z1b key (PS.getD t []) (l.take 0)=PS.getD t []from rfl]
   apply List.ext_getElem?
   intro j
   by_cases e:t=j
   ·subst e;simp [List.getD,ht]
   ·rw [List.getElem?_set_ne e]]
  exact h.ext ploc_is ⟨_,rfl⟩
 ·rintro m J O' ⟨i,own',hm,hS,hF,hB,hnB,q0,q3,q20,q21,q22⟩
  by_cases hi:i<l.length
  ·obtain⟨ex,rfl⟩:=hsv.vsl (by rw [z8];omega)
   have hgi:=z9d hi
   have hst:=zhg (key:=key) (P:=PS.getD t []) hi
   have hvu:=kv l[i] (List.getElem_mem hi)
   have hdl:=z8 l
   generalize l[i]=u at*
   have hup:=zn7 hvu
   have hul:=zg u
   have ua:(hdrC u).take 36=hdrC u:=z7f u
   have hi':(i:Int)<l.length:=by omega
   obtain⟨Q,lk,sid,pp,ow,rfl,hC⟩:=hS
   have hlen:(PS.set t (z1b key (PS.getD t []) (l.take i))).length=PS.length:=List.length_set ..
   have htt:t<(PS.set t (z1b key (PS.getD t []) (l.take i))).length:=by omega
   have hpoolI:=hC.pool t htt
   rw [z4z ht]at hpoolI
   have hpok:=z73 (hok t ht) (l.take i)
   have ho:=hC.obj
   have hrw:=hC.row
   rw [hlen]at ho
   have hppl:pp.length=PS.length:=by rw [hC.len,hlen]
   have hpp:=z6q (pp:=pp) (i:=t) (by omega)
   have hpl:(pp.map fun p=>[AV.ptr p 0 0]).length=PS.length:=by rw [List.length_map,hppl]
   have ht':(t:Int)<PS.length:=by omega
   have dB:=slen hB
   have dc:=slen ho
   have dq:=slen hrw
   have E:Ext O' (O'++ [some [hdrC u]]):=⟨_,rfl⟩
   repeat' (first|apply zs_|apply zb_|apply zc_|apply zt_ rfl|apply zf_ rfl|(apply zd_ rfl<;>intro ht<;>try omega)|((first|apply zr_|apply zk_|apply ze_|apply zq_|(apply zG<;>intro ht));all_goals try simp (disch:=first|omega|(simp only [lens,z6,z7,zg,z8,zh,zm,lQt,lQd,List.length_replicate,lQm];first|done|omega)) only [go_sem,q0,q3,q20,q21,q22,hgi,hdl,hul,ua,hi',ho,hrw,hpp,hpl,ht',hB]))
   have hP:=ploc_is.keep hpoolI (O':=O'++ [some [hdrC u]]) fun j hj=>gapp (ploc_is.lt hpoolI j hj)
   have hAdd:=zbm _ (pp.getD t 0) key _ _ u _ hP hpok.sort hpok.len (z1y _ _) (by omega) (fun e=>zb6 e)
   rw [show sgC u.n u.r u.i u.s (zz 32 (hr u.p))=hdrC u from rfl]at hAdd
   refine callW.mkP (caps:=[]) hAdd (PoAddP.is hP) ?_
   rintro v O2 ⟨rfl,o,f1,P1⟩
   have f2:Fr O' O2 (ow (t+2)) o:=(Fr.ext E).trans f1
   obtain⟨h1,h2⟩:=hC.pool' ploc_is htt f2 P1
   rw [List.set_set,<-hst]at h1
   have hnB2:=h2.nin dB hnB
   have hB2:=h2.get hB hnB
   have hF2:=hF.trans h2
   have hS2:CirS PoIs O2 c key (PS.set t (z1b key (PS.getD t []) (l.take (i+1)))) M (z2t ((PS.set t (z1b key (PS.getD t []) (l.take i))).length+2) (updO ow (t+2) o)):=⟨Q,lk,sid,pp,_,by rw [List.length_set,List.length_set],h1⟩
   generalize z2t ((PS.set t (z1b key (PS.getD t []) (l.take i))).length+2) (updO ow (t+2) o)=own2 at*
   simp (disch:=first|omega|(simp only [lens,z6,z7,zg,z8,zh,zm,lQt,lQd,List.length_replicate,lQm];first|done|omega)) only [go_sem,q0,q3,q20,q21,q22]
   repeat' (first|apply zs_|apply zb_|apply zc_|apply zt_ rfl|apply zf_ rfl|(apply zd_ rfl<;>intro ht<;>try omega)|((first|apply zr_|apply zk_|apply ze_|apply zq_|(apply zG<;>intro ht));all_goals try simp (disch:=first|omega|(simp only [lens,z6,z7,zg,z8,zh,zm,lQt,lQd,List.length_replicate,lQm];first|done|omega)) only [go_sem,q0,q3,q20,q21,q22]))
   exact⟨m-1,by omega,i+1,own2,by omega,hS2,hF2,hB2,hnB2,by simp⟩
  ·rw [List.take_of_length_le (by omega)]at hS
   have hi':¬(i:Int)<l.length:=by omega
   repeat' (first|apply zs_|apply zb_|apply zc_|apply zt_ rfl|apply zf_ rfl|(apply zd_ rfl<;>intro ht<;>try omega)|((first|apply zr_|apply zk_|apply ze_|apply zq_|(apply zG<;>intro ht));all_goals try simp (disch:=first|omega|(simp only [lens,z6,z7,zg,z8,zh,zm,lQt,lQd,List.length_replicate,lQm];first|done|omega)) only [go_sem,q0,q3,q20,q21,q22,hi']))
   exact⟨rfl,own',hS,hF⟩
theorem zk9{P:List Hdr}(l:List NH)(h:z13 P l ≠ []):(MT.gt (z13 P l)).Ok:=⟨h,zbh P l,fun q hq=>(z6m hq).2.1⟩
theorem zq7(h:CirS PoIs O c key PS M own)(hok:POks key PS)(f t:Nat)(l:List NH)(ht:t<PS.length)(hk:(MT.kn l).Ok):
  ACallsP TC 68 [.ptr c 0 0,.agg [.int .i64 f,.int .i64 t,.str (knS l)]] O (CirP PoIs O c key own (.tup []) PS (z4o PS M ⟨f,t,.kn l⟩)):=by
 have hfin:=h
 obtain⟨Q,lk,sid,pp,ow,rfl,hC⟩:=h
 obtain⟨k1,k2⟩:=hk
 have hG:=fun O=>zri O (numS l.length++z23 l) (by have:=z24 l.length;have:=z7j l;rw [List.length_append];omega)
 rw [show 68::(numS l.length++z23 l)=knS l from rfl]at hG
 have hGK:=fun O=>zrh O l k1 k2
 have hcl:=hC.lt ploc_is
 have ho:=hC.obj
 have hrw:=hC.row
 have dc:=slen ho
 have dq:=slen hrw
 have hpo:=hok t ht
 have hpol:=hpo.len
 have hpp:=z6q (pp:=pp) (i:=t) (by rw [hC.len];exact ht)
 have hpl:(pp.map fun p=>[AV.ptr p 0 0]).length=PS.length:=by rw [List.length_map,hC.len]
 have ht':(t:Int)<PS.length:=by omega
 have E:Ext O (O++ [some [[.int .i64 (f:Int),.int .i64 (t:Int),.str (knS l)]]]):=⟨_,rfl⟩
 have hB:(O++ [some [[.int .i64 (f:Int),.int .i64 (t:Int),.str (knS l)]]])[O.length]? =some (some [[.int .i64 (f:Int),.int .i64 (t:Int),.str (knS l)]]):=by rw [z19 (Nat.le_refl _),Nat.sub_self];rfl
 have hP:=ploc_is.keep (hC.pool t ht) (O':=O++ [some [[.int .i64 (f:Int),.int .i64 (t:Int),.str (knS l)]]]) fun j hj=>gapp (ploc_is.lt (hC.pool t ht) j hj)
 have hH:=zkx _ (pp.getD t 0) key _ _ hP (by omega) hpo.path
 have hM:=fun O=>zgu O (PS.getD t []) l (zz 36 (hdrs (PS.getD t []))) (zz 33 (knP l)) (z1y _ _) (z1y _ _) (by omega) (by omega) hpo.path
 have hPt:=fun O=>zrk O (z13 (PS.getD t []) l) _ (z1y _ _) (zbh _ _) fun q hq=>(z6m hq).2.1
 unfold z4o
 dsimp only
 have hrm:(repM PS ⟨f,t,.kn l⟩ l).ml=⟨(t:Int),(f:Int),gtS (z13 (PS.getD t []) l)⟩:=rfl
 by_cases h0:z13 (PS.getD t []) l=[]
 ·rw [if_neg fun h=>h.1 h0]
  rw [h0,zl0]at hPt
  rw [h0]at hM
  refine ACallsP.of_keep zf4 (by simp) ?_
  repeat' (first|apply zs_|apply zb_|apply zc_|apply zt_ rfl|apply zf_ rfl|(apply zd_ rfl<;>intro ht<;>try omega)|((first|apply zr_|apply zk_|apply ze_|apply zq_|(apply callW.mk_pu;(first|exact(fun _=>hG _)|exact(fun _=>hGK _)|exact(fun _=>hH)|exact(fun _=>hM _)|exact(fun _=>hPt _)))|(apply callW.za;(first|exact(hG _)|exact(hGK _)|exact(hH)|exact(hM _)|exact(hPt _)))|(apply zG<;>intro ht));all_goals try simp (disch:=first|omega|(simp only [lens,z6,z7,zg,z8,zh,zm,lQt,lQd,List.length_replicate,lQm];first|done|omega)) only [go_sem,ho,hrw,hpp,hpl,ht',hB]))
  exact⟨rfl,_,hfin.ext ploc_is E,Fr.ext E⟩
 ·rw [zl1 h0 fun q hq=>(z6m hq).2.1]at hPt
  have hlk:=hC.lk.keep (O':=O++ [some [[.int .i64 (f:Int),.int .i64 (t:Int),.str (knS l)]]]) fun x hx=>gapp (hC.lk.lt2 x hx)
  have hS:=ze8 _ lk PS.length sid (M.map MM.ml) (repM PS ⟨f,t,.kn l⟩ l).ml hlk
  have hE:=ze7 (m:=(repM PS ⟨f,t,.kn l⟩ l).ml) hlk
  rw [List.length_map]at hS hE
  have hargs:mailC (repM PS ⟨f,t,.kn l⟩ l).ml=[.int .i64 (t:Int),.int .i64 (f:Int),.str (gtS (z13 (PS.getD t []) l))]:=by rw [hrm];rfl
  rw [hargs]at hS
  have hmm:(if z1t PS.length M.length (repM PS ⟨f,t,.kn l⟩ l).ml=0 then M.map MM.ml++ [(repM PS ⟨f,t,.kn l⟩ l).ml]else M.map MM.ml)=(if z13 (PS.getD t []) l ≠ []/\ z1t PS.length M.length (repM PS ⟨f,t,.kn l⟩ l).ml=0 then M++ [repM PS ⟨f,t,.kn l⟩ l]else M).map MM.ml:=by
   by_cases e:z1t PS.length M.length (repM PS ⟨f,t,.kn l⟩ l).ml=0
   ·rw [if_pos e,if_pos ⟨h0,e⟩,List.map_append];rfl
   ·rw [if_neg e,if_neg fun h=>e h.2]
  generalize z1t PS.length M.length (repM PS ⟨f,t,.kn l⟩ l).ml=e at*
  generalize repM PS ⟨f,t,.kn l⟩ l=m at*
  generalize gtS (z13 (PS.getD t []) l)=txt at*
  generalize knS l=txt2 at*
  refine ACallsP.of_keep zf4 (by simp) ?_
  repeat' (first|apply zs_|apply zb_|apply zc_|apply zt_ rfl|apply zf_ rfl|(apply zd_ rfl<;>intro ht<;>try omega)|((first|apply zr_|apply zk_|apply ze_|apply zq_|(apply callW.mk_pu;(first|exact(fun _=>hG _)|exact(fun _=>hGK _)|exact(fun _=>hH)|exact(fun _=>hM _)|exact(fun _=>hPt _)))|(apply callW.za;(first|exact(hG _)|exact(hGK _)|exact(hH)|exact(hM _)|exact(hPt _)))|(apply zG<;>intro ht));all_goals try simp (disch:=first|omega|(simp only [lens,z6,z7,zg,z8,zh,zm,lQt,lQd,List.length_replicate,lQm];first|done|omega)) only [go_sem,ho,hrw,hpp,hpl,ht',hB]))
  refine callW.mkP (caps:=[]) hS hE ?_
  rintro v O' ⟨rfl,sid',k1,k2⟩
  rw [hmm]at k1
  obtain⟨h1,h2⟩:=(hC.keep ploc_is (O':=O++ [some [[.int .i64 (f:Int),.int .i64 (t:Int),.str txt2]]]) fun i hi x hx=>gapp (hcl i hi x hx)).links' ploc_is k2 k1
  simp (disch:=first|omega|(simp only [lens,z6,z7,zg,z8,zh,zm,lQt,lQd,List.length_replicate,lQm];first|done|omega)) only [go_sem]
  repeat' (first|apply zs_|apply zb_|apply zc_|apply zt_ rfl|apply zf_ rfl|(apply zd_ rfl<;>intro ht<;>try omega)|((first|apply zr_|apply zk_|apply ze_|apply zq_|(apply zG<;>intro ht));all_goals try simp (disch:=first|omega|(simp only [lens,z6,z7,zg,z8,zh,zm,lQt,lQd,List.length_replicate,lQm];first|done|omega)) only [go_sem]))
  exact⟨rfl,_,⟨Q,lk,sid',pp,_,rfl,h1⟩,(Fr.ext E).trans h2⟩
theorem zq8(h:CirS PoIs O c key PS M own)(hok:POks key PS)(m:MM)(hm:m.Ok PS.length):
  ACallsP TC 68 [.ptr c 0 0,.agg (mailC m.ml)] O (CirP PoIs O c key own (.tup []) (zci key PS m) (z4o PS M m)):=by
 obtain⟨f,t,k⟩:=m
 cases k with
 |gt l=>exact zq6 h hok f t l hm.t hm.k
 |kn l=>exact zq7 h hok f t l hm.t hm.k
end
end
section
def mm0:MM:=⟨0,0,.kn []⟩
def MOks(n:Nat)(M:List MM):Prop:=∀m ∈ M,m.Ok n
def z3f(key:Hash)(PS:List (List Hdr))(M:List MM)(i:Int):List (List Hdr):=if atS PS.length M.length i=0 then zci key PS (M.getD i.toNat mm0)else PS
def z3z(PS:List (List Hdr))(M:List MM)(i:Int):List MM:=if atS PS.length M.length i=0 then z4o PS (M.eraseIdx i.toNat) (M.getD i.toNat mm0)else M
theorem zio(key:Hash)(PS:List (List Hdr))(M:List MM)(i:Int):(z3f key PS M i).length=PS.length:=by unfold z3f;split<;>simp [zmu]
theorem zbc{M:List MM}{i:Nat}(h:i<M.length):M.getD i mm0 ∈ M:=by
 rw [show M.getD i mm0=M[i]by simp [List.getD,h]];exact List.getElem_mem h
theorem MOks.erase{n:Nat}{M:List MM}(h:MOks n M)(i:Nat):MOks n (M.eraseIdx i):=fun m hm=>h m (List.mem_of_mem_eraseIdx hm)
theorem MOks.snoc{n:Nat}{M:List MM}(h:MOks n M){m:MM}(hm:m.Ok n):MOks n (M++ [m]):=fun x hx=>(List.mem_append.1 hx).elim (h x) fun h2=>by rw [List.mem_singleton.1 h2];exact hm
theorem z14g{PS:List (List Hdr)}{M:List MM}{n:Nat}(h:MOks n M){m:MM}(hm:m.Ok n):MOks n (z4o PS M m):=by
 unfold z4o
 split
 ·exact h
 ·split
  ·rename_i l hk h2
   exact h.snoc ⟨hm.t,hm.f,fun e=>hm.ne e.symm,zk9 l h2.1⟩
  ·exact h
attribute [local irreducible] ACallsTo ACallsP
section
variable {O:Store} {c:Nat} {key:Hash} {PS:List (List Hdr)} {M:List MM} {own:List Nat}
theorem zb0(h:CirS PoIs O c key PS M own)(hok:POks key PS)(hM:MOks PS.length M)(hn:0<PS.length)(hl:M.length<1000000)(i:Int):
  ACallsP TC 23 [.ptr c 0 0,.int .i64 i] O (CirP PoIs O c key own (.int .i64 (atS PS.length M.length i)) (z3f key PS M i) (z3z PS M i)):=by
 have hfin:=h
 obtain⟨Q,lk,sid,pp,ow,rfl,hC⟩:=h
 have hN:=z7z O c Q lk _ hC.obj hn
 have ho:=hC.obj
 have hD:=zk2 O lk PS.length i sid (M.map MM.ml) hC.lk (by simpa using hl)
 have hE:=zk1 (i:=i) hC.lk
 unfold z3f z3z
 refine ACallsP.of_keep q2mok (by simp) ?_
 repeat' (first|apply zs_|apply zb_|apply zc_|apply zt_ rfl|apply zf_ rfl|(apply zd_ rfl<;>intro ht<;>try omega)|((first|apply zr_|apply zk_|apply ze_|apply zq_|(apply callW.mk_pu;(first|exact(fun _=>hN)))|(apply callW.za;(first|exact(hN)))|(apply zG<;>intro ht));all_goals try simp (disch:=first|omega|(simp only [lens,z6,z7,zg,z8,zh,zm,lQt,lQd,List.length_replicate,lQm];first|done|omega)) only [go_sem,ho]))
 refine callW.mkP (caps:=[]) hD hE ?_
 rintro v O' ⟨rfl,k1,k2⟩
 rw [<-zil]at k1
 obtain⟨h1,h2⟩:=hC.links' ploc_is k2 k1
 have S1:CirS PoIs O' c key PS (z3e PS.length M i) (z2t (PS.length+2) (updO ow 1 (lk::sid.toList))):=⟨Q,lk,sid,pp,_,rfl,h1⟩
 generalize z2t (PS.length+2) (updO ow 1 (lk::sid.toList))=own1 at*
 unfold delV delM
 rw [List.length_map]
 by_cases ha:atS PS.length M.length i=0
 ·obtain⟨_,h3,h4⟩:=z74 ha
  rw [if_pos ha,if_pos ha,if_pos ha,ha]
  unfold z3e at S1
  rw [if_pos ha]at S1
  rw [zj6 M _ (by omega)]
  rw [show M.getD i.toNat ⟨0,0,.kn []⟩=M.getD i.toNat mm0 from rfl]
  have hm:=hM _ (zbc (M:=M) (i:=i.toNat) (by omega))
  generalize M.getD i.toNat mm0=m at*
  have hml:(mailC m.ml).length=3:=rfl
  have hmt:(mailC m.ml).take 3=mailC m.ml:=rfl
  have E:Ext O' (O'++ [some [mailC m.ml]]):=⟨_,rfl⟩
  have S2:=S1.ext ploc_is E
  generalize hmc:mailC m.ml=mc at*
  simp (disch:=first|omega|(simp only [lens,z6,z7,zg,z8,zh,zm,lQt,lQd,List.length_replicate,lQm];first|done|omega)) only [go_sem,hml,hmt]
  repeat' (first|apply zs_|apply zb_|apply zc_|apply zt_ rfl|apply zf_ rfl|(apply zd_ rfl<;>intro ht<;>try omega)|((first|apply zr_|apply zk_|apply ze_|apply zq_|(apply zG<;>intro ht));all_goals try simp (disch:=first|omega|(simp only [lens,z6,z7,zg,z8,zh,zm,lQt,lQd,List.length_replicate,lQm];first|done|omega)) only [go_sem,hml,hmt]))
  have hT:=zq8 S2 hok m hm
  rw [hmc]at hT
  refine callW.mkP (caps:=[]) hT (CirP.is ploc_is z2s S2 _ (zmu ..)) ?_
  rintro v O3 ⟨rfl,own3,S3,f3⟩
  simp (disch:=first|omega|(simp only [lens,z6,z7,zg,z8,zh,zm,lQt,lQd,List.length_replicate,lQm];first|done|omega)) only [go_sem]
  repeat' (first|apply zs_|apply zb_|apply zc_|apply zt_ rfl|apply zf_ rfl|(apply zd_ rfl<;>intro ht<;>try omega)|((first|apply zr_|apply zk_|apply ze_|apply zq_|(apply zG<;>intro ht));all_goals try simp (disch:=first|omega|(simp only [lens,z6,z7,zg,z8,zh,zm,lQt,lQd,List.length_replicate,lQm];first|done|omega)) only [go_sem]))
  exact⟨rfl,own3,S3,(h2.trans (Fr.ext E)).trans f3⟩
 ·rw [if_neg ha,if_neg ha,if_neg ha]
  unfold z3e at S1
  rw [if_neg ha]at S1
  have ha':(atS PS.length M.length i==0)=false:=beq_eq_false_iff_ne.2 ha
  generalize atS PS.length M.length i=e at*
  simp (disch:=first|omega|(simp only [lens,z6,z7,zg,z8,zh,zm,lQt,lQd,List.length_replicate,lQm];first|done|omega)) only [go_sem,mailC]
  repeat' (first|apply zs_|apply zb_|apply zc_|apply zt_ rfl|apply zf_ rfl|(apply zd_ rfl<;>intro ht<;>try omega)|((first|apply zr_|apply zk_|apply ze_|apply zq_|(apply zG<;>intro ht));all_goals try simp (disch:=first|omega|(simp only [lens,z6,z7,zg,z8,zh,zm,lQt,lQd,List.length_replicate,lQm];first|done|omega)) only [go_sem,ha']))
  exact⟨rfl,own1,S1.ext ploc_is ⟨_,rfl⟩,h2.trans (Fr.ext ⟨_,rfl⟩)⟩
end
end
section
def z1f(key:Hash):Nat->List Hdr->List Hdr->Nat->Nat × List Hdr
 | 0,P,_,n=>(n,P)
 |f+1,P,Q,n=>if z13 Q (hns P)=[]then(n,P)else if (z1b key P (z13 Q (hns P))).length=P.length then(n+1,z1b key P (z13 Q (hns P)))else z1f key f (z1b key P (z13 Q (hns P))) Q (n+2)
theorem zcx(key:Hash)(P:List Hdr)(q:Hdr):(addL key P q).length=if addC key P q=2 \/addC key P q=3 then P.length+1 else P.length:=by
 unfold addL
 split
 ·exact z86 P q
 ·rfl
theorem zhf(key:Hash)(l:List Hdr):∀P:List Hdr,P.length<=(z1b key P l).length:=by
 induction l with
 |nil=>intro P;exact Nat.le_refl _
 |cons q l ih=>
  intro P
  have:=ih (addL key P q)
  have h:=zcx key P q
  show P.length<=(z1b key (addL key P q) l).length
  split at h<;>omega
attribute [local irreducible] ACallsTo ACallsP
section
variable {O:Store} {c:Nat} {key:Hash} {PS:List (List Hdr)} {M:List MM} {own:List Nat}
theorem zij(h:CirS PoIs O c key PS M own)(hok:POks key PS)(i k:Nat)(hi:i<PS.length)(hk:k<PS.length)(hik:i ≠ k):
  ACallsP TC 64 [.ptr c 0 0,.int .i64 i,.int .i64 k] O (CirP PoIs O c key own (.int .i64 ((z1f key 17 (PS.getD i []) (PS.getD k []) 1).1:Nat)) (PS.set i (z1f key 17 (PS.getD i []) (PS.getD k []) 1).2) M):=by
 have hQ:=hok k hk
 have hP0:=hok i hi
 have hset:PS.set i (PS.getD i [])=PS:=by
  apply List.ext_getElem?
  intro j
  by_cases e:i=j
  ·subst e;simp [List.getD,hi]
  ·rw [List.getElem?_set_ne e]
 have hgk:∀P:List Hdr,(PS.set i P).getD k []=PS.getD k []:=fun P=>by simp [List.getD,List.getElem?_set_ne hik]
 have hgi:∀P:List Hdr,(PS.set i P).getD i []=P:=fun P=>z4z hi P
 generalize hR:z1f key 17 (PS.getD i []) (PS.getD k []) 1=R
 refine ACallsP.of_keep q2uok (by simp) ?_
 repeat' (first|apply zs_|apply zb_|apply zc_|apply zt_ rfl|apply zf_ rfl|(apply zd_ rfl<;>intro ht<;>try omega)|((first|apply zr_|apply zk_|apply ze_|apply zq_|(apply zG<;>intro ht));all_goals try simp (disch:=first|omega|(simp only [lens,z6,z7,zg,z8,zh,zm,lQt,lQd,List.length_replicate,lQm];first|done|omega)) only [go_sem]))
 refine zW.loop (fun m J O'=>∃(P:List Hdr) (n f:Nat) (own':List Nat),m+P.length=16/\ m<f/\ n+2*m<=33/\ POk key P/\ CirS PoIs O' c key (PS.set i P) M own'/\ Fr O O' own own'/\ z1f key f P (PS.getD k []) n=R/\ J 0=.ptr c 0 0/\ J 1=.int .i64 i/\ J 2=.int .i64 k/\ J 7=.int .i64 n) (16-(PS.getD i []).length) ?_ ?_
 ·exact⟨PS.getD i [],1,17,own,by have:=hP0.len;omega,by omega,by omega,hP0,by rw [hset];exact h,⟨fun _ _ _=>rfl,fun _ h=> .inl h,Nat.le_refl _⟩,hR,by simp (disch:=first|omega|(simp only [lens,z6,z7,zg,z8,zh,zm,lQt,lQd,List.length_replicate,lQm];first|done|omega)) only [go_sem],by simp (disch:=first|omega|(simp only [lens,z6,z7,zg,z8,zh,zm,lQt,lQd,List.length_replicate,lQm];first|done|omega)) only [go_sem],by simp (disch:=first|omega|(simp only [lens,z6,z7,zg,z8,zh,zm,lQt,lQd,List.length_replicate,lQm];first|done|omega)) only [go_sem],by simp (disch:=first|omega|(simp only [lens,z6,z7,zg,z8,zh,zm,lQt,lQd,List.length_replicate,lQm];first|done|omega)) only [go_sem];try rfl⟩
 ·rintro m J O' ⟨P,n,f,own',hm,hf,hn,hP,hS,hF,hG,q0,q1,q2,q7⟩
  obtain⟨f,rfl⟩:∃g,f=g+1:=⟨f-1,by omega⟩
  unfold z1f at hG
  have hS0:=hS
  obtain⟨Q,lk,sid,pp,ow,rfl,hC⟩:=hS
  have hlen:(PS.set i P).length=PS.length:=List.length_set ..
  have ho:=hC.obj
  have hrw:=hC.row
  rw [hlen]at ho
  have dc:=slen ho
  have dq:=slen hrw
  have hppl:pp.length=PS.length:=by rw [hC.len,hlen]
  have hppi:=z6q (pp:=pp) (i:=i) (by omega)
  have hppk:=z6q (pp:=pp) (i:=k) (by omega)
  have hpl:(pp.map fun p=>[AV.ptr p 0 0]).length=PS.length:=by rw [List.length_map,hppl]
  have hi':(i:Int)<PS.length:=by omega
  have hk':(k:Int)<PS.length:=by omega
  have hIk:=hC.pool k (by omega)
  have hIi:=hC.pool i (by omega)
  rw [hgk]at hIk
  rw [hgi]at hIi
  have hPl:=hP.len
  have hQl:=hQ.len
  have hHd:=zkx O' (pp.getD k 0) key _ _ hIk (by omega) hQ.path
  have hKn:=z9m O' (pp.getD i 0) key _ _ hIi (by omega)
  have hMs:=zgu O' (PS.getD k []) (hns P) (zz 36 (hdrs (PS.getD k []))) (zz 33 (kn P)) (z1y _ _) (by rw [<-zju];exact z1y _ _) (by omega) (by rw [z6j];omega) hQ.path
  have hXm:=zbh (PS.getD k []) (hns P)
  have hXv:∀q ∈ z13 (PS.getD k []) (hns P),valH q=true:=fun q hq=>(z6m hq).2.1
  generalize z13 (PS.getD k []) (hns P)=X at*
  have hsv:=z1y 36 (hdrs X)
  have r1:=hsv.len
  rw [z8]at r1
  unfold z1k at r1
  generalize zz 36 (hdrs X)=x at*
  repeat' (first|apply zs_|apply zb_|apply zc_|apply zt_ rfl|apply zf_ rfl|(apply zd_ rfl<;>intro ht<;>try omega)|((first|apply zr_|apply zk_|apply ze_|apply zq_|(apply callW.mk_pu;(first|exact(fun _=>hHd)|exact(fun _=>hKn)|exact(fun _=>hMs)))|(apply callW.za;(first|exact(hHd)|exact(hKn)|exact(hMs)))|(apply zG<;>intro ht));all_goals try simp (disch:=first|omega|(simp only [lens,z6,z7,zg,z8,zh,zm,lQt,lQd,List.length_replicate,lQm];first|done|omega)) only [go_sem,q0,q1,q2,q7,ho,hrw,hppi,hppk,hpl,hi',hk',r1]))
  refine zW.loop (fun m2 J O2=>∃(j:Nat) (own2:List Nat),m2+j=X.length/\ CirS PoIs O2 c key (PS.set i (z1b key P (X.take j))) M own2/\ Fr O O2 own own2/\ J 0=.ptr c 0 0/\ J 1=.int .i64 i/\ J 2=.int .i64 k/\ J 7=.int .i64 n/\ J 8=x/\ J 9=.bool (decide (P.length<(z1b key P (X.take j)).length))/\ J 32=x/\ J 33=.int .i64 X.length/\ J 34=.int .i64 j) X.length ?_ ?_
  ·exact⟨0,_,by omega,by rw [show z1b key P (X.take 0)=P from rfl];exact hS0,hF,by simp (disch:=first|omega|(simp only [lens,z6,z7,zg,z8,zh,zm,lQt,lQd,List.length_replicate,lQm];first|done|omega)) only [go_sem,q0],by simp (disch:=first|omega|(simp only [lens,z6,z7,zg,z8,zh,zm,lQt,lQd,List.length_replicate,lQm];first|done|omega)) only [go_sem,q1],by simp (disch:=first|omega|(simp only [lens,z6,z7,zg,z8,zh,zm,lQt,lQd,List.length_replicate,lQm];first|done|omega)) only [go_sem,q2],by simp (disch:=first|omega|(simp only [lens,z6,z7,zg,z8,zh,zm,lQt,lQd,List.length_replicate,lQm];first|done|omega)) only [go_sem,q7],by simp (disch:=first|omega|(simp only [lens,z6,z7,zg,z8,zh,zm,lQt,lQd,List.length_replicate,lQm];first|done|omega)) only [go_sem],by rw [show z1b key P (X.take 0)=P from rfl,decide_eq_false (by omega)];simp (disch:=first|omega|(simp only [lens,z6,z7,zg,z8,zh,zm,lQt,lQd,List.length_replicate,lQm];first|done|omega)) only [go_sem],by simp (disch:=first|omega|(simp only [lens,z6,z7,zg,z8,zh,zm,lQt,lQd,List.length_replicate,lQm];first|done|omega)) only [go_sem],by simp (disch:=first|omega|(simp only [lens,z6,z7,zg,z8,zh,zm,lQt,lQd,List.length_replicate,lQm];first|done|omega)) only [go_sem,r1],by simp (disch:=first|omega|(simp only [lens,z6,z7,zg,z8,zh,zm,lQt,lQd,List.length_replicate,lQm];first|done|omega)) only [go_sem];try rfl⟩
  ·clear q0 q1 q2 q7 hHd hKn hMs hIk hIi hC hrw ho hppi hppk hpl dc dq hppl hS0 hF
   clear ow sid pp lk Q
   rintro m2 J O2 ⟨j,own2,hm2,hS2,hF2,q0,q1,q2,q7,q8,q9,q32,q33,q34⟩
   by_cases hj:j<X.length
   ·obtain⟨ex,rfl⟩:=hsv.vsl (by rw [z8];omega)
    have hgj:=z9d hj
    have hst:=zhg (key:=key) (P:=P) hj
    have hvu:=hXv X[j] (List.getElem_mem hj)
    have hdl:=z8 X
    generalize X[j]=u at*
    have hup:=zn7 hvu
    have hul:=zg u
    have ua:(hdrC u).take 36=hdrC u:=z7f u
    have hj':(j:Int)<X.length:=by omega
    obtain⟨Q,lk,sid,pp,ow,rfl,hC⟩:=hS2
    have hpok:=z73 hP (X.take j)
    have hge:=zhf key (X.take j) P
    have hstl:=zcx key (z1b key P (X.take j)) u
    rw [<-hst]at hstl
    have hlen2:(PS.set i (z1b key P (X.take j))).length=PS.length:=List.length_set ..
    have hIi:=hC.pool i (by omega)
    rw [hgi]at hIi
    have ho:=hC.obj
    have hrw:=hC.row
    rw [hlen2]at ho
    have dc:=slen ho
    have dq:=slen hrw
    have hppl:pp.length=PS.length:=by rw [hC.len,hlen2]
    have hppi:=z6q (pp:=pp) (i:=i) (by omega)
    have hpl:(pp.map fun p=>[AV.ptr p 0 0]).length=PS.length:=by rw [List.length_map,hppl]
    have E:Ext O2 (O2++ [some [hdrC u]]):=⟨_,rfl⟩
    repeat' (first|apply zs_|apply zb_|apply zc_|apply zt_ rfl|apply zf_ rfl|(apply zd_ rfl<;>intro ht<;>try omega)|((first|apply zr_|apply zk_|apply ze_|apply zq_|(apply zG<;>intro ht));all_goals try simp (disch:=first|omega|(simp only [lens,z6,z7,zg,z8,zh,zm,lQt,lQd,List.length_replicate,lQm];first|done|omega)) only [go_sem,q0,q1,q2,q7,q8,q9,q32,q33,q34,hgj,hdl,hul,ua,hj',ho,hrw,hppi,hpl,hi']))
    have hPk:=ploc_is.keep hIi (O':=O2++ [some [hdrC u]]) fun j hj=>gapp (ploc_is.lt hIi j hj)
    have hAdd:=zbm _ (pp.getD i 0) key _ _ u _ hPk hpok.sort hpok.len (z1y _ _) (by omega) (fun e=>zb6 e)
    rw [show sgC u.n u.r u.i u.s (zz 32 (hr u.p))=hdrC u from rfl]at hAdd
    refine callW.mkP (caps:=[]) hAdd (PoAddP.is hPk) ?_
    rintro v O3 ⟨rfl,o,f1,P1⟩
    have f2:Fr O2 O3 (ow (i+2)) o:=(Fr.ext E).trans f1
    obtain⟨h1,h2⟩:=hC.pool' ploc_is (by omega) f2 P1
    rw [List.set_set,<-hst]at h1
    have hF3:=hF2.trans h2
    have hS3:CirS PoIs O3 c key (PS.set i (z1b key P (X.take (j+1)))) M (z2t ((PS.set i (z1b key P (X.take j))).length+2) (updO ow (i+2) o)):=⟨Q,lk,sid,pp,_,by rw [List.length_set,List.length_set],h1⟩
    generalize z2t ((PS.set i (z1b key P (X.take j))).length+2) (updO ow (i+2) o)=own3 at*
    generalize addC key (z1b key P (X.take j)) u=e at*
    have hflag:∀b:Bool,decide (P.length<(z1b key P (X.take j)).length)=b->decide (P.length<(z1b key P (X.take (j+1))).length)=(b ||decide (e=2 \/e=3)):=by
     intro b hb
     subst hb
     rw [hstl]
     by_cases e1:e=2 \/e=3
     ·rw [if_pos e1,decide_eq_true e1,Bool.or_true];exact decide_eq_true (by omega)
     ·rw [if_neg e1,decide_eq_false e1,Bool.or_false]
    generalize decide (P.length<(z1b key P (X.take j)).length)=b at*
    have hfl:=hflag b rfl
    cases b
    ·by_cases e2:e=2
     ·subst e2
      simp (disch:=first|omega|(simp only [lens,z6,z7,zg,z8,zh,zm,lQt,lQd,List.length_replicate,lQm];first|done|omega)) only [go_sem,q0,q1,q2,q7,q8,q9,q32,q33,q34]
      repeat' (first|apply zs_|apply zb_|apply zc_|apply zt_ rfl|apply zf_ rfl|(apply zd_ rfl<;>intro ht<;>try omega)|((first|apply zr_|apply zk_|apply ze_|apply zq_|(apply zG<;>intro ht));all_goals try simp (disch:=first|omega|(simp only [lens,z6,z7,zg,z8,zh,zm,lQt,lQd,List.length_replicate,lQm];first|done|omega)) only [go_sem,q0,q1,q2,q7,q8,q9,q32,q33,q34]))
      exact⟨m2-1,by omega,j+1,own3,by omega,hS3,hF3,by rw [hfl];simp⟩
     ·by_cases e3:e=3
      ·subst e3
       simp (disch:=first|omega|(simp only [lens,z6,z7,zg,z8,zh,zm,lQt,lQd,List.length_replicate,lQm];first|done|omega)) only [go_sem,q0,q1,q2,q7,q8,q9,q32,q33,q34]
       repeat' (first|apply zs_|apply zb_|apply zc_|apply zt_ rfl|apply zf_ rfl|(apply zd_ rfl<;>intro ht<;>try omega)|((first|apply zr_|apply zk_|apply ze_|apply zq_|(apply zG<;>intro ht));all_goals try simp (disch:=first|omega|(simp only [lens,z6,z7,zg,z8,zh,zm,lQt,lQd,List.length_replicate,lQm];first|done|omega)) only [go_sem,q0,q1,q2,q7,q8,q9,q32,q33,q34]))
       exact⟨m2-1,by omega,j+1,own3,by omega,hS3,hF3,by rw [hfl];simp⟩
      ·have e2':(e==2)=false:=beq_eq_false_iff_ne.2 e2
       have e3':(e==3)=false:=beq_eq_false_iff_ne.2 e3
       rw [decide_eq_false (show ¬(e=2 \/e=3)by omega),Bool.or_false]at hfl
       simp (disch:=first|omega|(simp only [lens,z6,z7,zg,z8,zh,zm,lQt,lQd,List.length_replicate,lQm];first|done|omega)) only [go_sem,q0,q1,q2,q7,q8,q9,q32,q33,q34]
       repeat' (first|apply zs_|apply zb_|apply zc_|apply zt_ rfl|apply zf_ rfl|(apply zd_ rfl<;>intro ht<;>try omega)|((first|apply zr_|apply zk_|apply ze_|apply zq_|(apply zG<;>intro ht));all_goals try simp (disch:=first|omega|(simp only [lens,z6,z7,zg,z8,zh,zm,lQt,lQd,List.length_replicate,lQm];first|done|omega)) only [go_sem,q0,q1,q2,q7,q8,q9,q32,q33,q34,e2',e3']))
       exact⟨m2-1,by omega,j+1,own3,by omega,hS3,hF3,by rw [hfl];simp⟩
    ·rw [Bool.true_or]at hfl
     simp (disch:=first|omega|(simp only [lens,z6,z7,zg,z8,zh,zm,lQt,lQd,List.length_replicate,lQm];first|done|omega)) only [go_sem,q0,q1,q2,q7,q8,q9,q32,q33,q34]
     repeat' (first|apply zs_|apply zb_|apply zc_|apply zt_ rfl|apply zf_ rfl|(apply zd_ rfl<;>intro ht<;>try omega)|((first|apply zr_|apply zk_|apply ze_|apply zq_|(apply zG<;>intro ht));all_goals try simp (disch:=first|omega|(simp only [lens,z6,z7,zg,z8,zh,zm,lQt,lQd,List.length_replicate,lQm];first|done|omega)) only [go_sem,q0,q1,q2,q7,q8,q9,q32,q33,q34]))
     exact⟨m2-1,by omega,j+1,own3,by omega,hS3,hF3,by rw [hfl];simp⟩
   ·rw [List.take_of_length_le (by omega)]at hS2 q9
    have hj':¬(j:Int)<X.length:=by omega
    have hge:=zhf key X P
    have hPX:=z73 hP X
    have hXl:=hPX.len
    by_cases h0:X=[]
    ·rw [if_pos h0]at hG
     subst h0
     subst hG
     have hz:([]:List Hdr).length=0:=rfl
     rw [hz]at r1
     repeat' (first|apply zs_|apply zb_|apply zc_|apply zt_ rfl|apply zf_ rfl|(apply zd_ rfl<;>intro ht<;>try omega)|((first|apply zr_|apply zk_|apply ze_|apply zq_|(apply zG<;>intro ht));all_goals try simp (disch:=first|omega|(simp only [lens,z6,z7,zg,z8,zh,zm,lQt,lQd,List.length_replicate,lQm];first|done|omega)) only [go_sem,q0,q1,q2,q7,q8,q9,q32,q33,q34,hj',r1]))
     exact⟨rfl,own2,hS2,hF2⟩
    ·rw [if_neg h0]at hG
     have hz:((X.length:Int)==0)=false:=beq_eq_false_iff_ne.2 (by have:=List.length_pos_iff.2 h0;omega)
     by_cases hmo:(z1b key P X).length=P.length
     ·rw [if_pos hmo]at hG
      rw [decide_eq_false (by omega)]at q9
      subst hG
      repeat' (first|apply zs_|apply zb_|apply zc_|apply zt_ rfl|apply zf_ rfl|(apply zd_ rfl<;>intro ht<;>try omega)|((first|apply zr_|apply zk_|apply ze_|apply zq_|(apply zG<;>intro ht));all_goals try simp (disch:=first|omega|(simp only [lens,z6,z7,zg,z8,zh,zm,lQt,lQd,List.length_replicate,lQm];first|done|omega)) only [go_sem,q0,q1,q2,q7,q8,q9,q32,q33,q34,hj',r1,hz]))
      exact⟨by simp,own2,hS2,hF2⟩
     ·rw [if_neg hmo]at hG
      rw [decide_eq_true (by omega)]at q9
      repeat' (first|apply zs_|apply zb_|apply zc_|apply zt_ rfl|apply zf_ rfl|(apply zd_ rfl<;>intro ht<;>try omega)|((first|apply zr_|apply zk_|apply ze_|apply zq_|(apply zG<;>intro ht));all_goals try simp (disch:=first|omega|(simp only [lens,z6,z7,zg,z8,zh,zm,lQt,lQd,List.length_replicate,lQm];first|done|omega)) only [go_sem,q0,q1,q2,q7,q8,q9,q32,q33,q34,hj',r1,hz]))
      exact⟨16-(z1b key P X).length,by omega,z1b key P X,n+2,f,own2,by omega,by omega,by omega,hPX,hS2,hF2,hG,by simp⟩
def metN(key:Hash)(PS:List (List Hdr))(i k:Nat):Nat × List (List Hdr):=
 let a:=z1f key 17 (PS.getD i []) (PS.getD k []) 1
 let b:=z1f key 17 (PS.getD k []) a.2 1
 (a.1+b.1,(PS.set i a.2).set k b.2)
theorem z7k(key:Hash)(Q:List Hdr):∀(f:Nat) {P:List Hdr} (n:Nat),POk key P->POk key (z1f key f P Q n).2
 | 0,P,n,h=>h
 |f+1,P,n,h=>by
  unfold z1f
  split
  ·exact h
  ·split
   ·exact z73 h _
   ·exact z7k key Q f _ (z73 h _)
theorem zes(key:Hash)(Q:List Hdr):∀(f:Nat) (P:List Hdr) (n:Nat),(z1f key f P Q n).1<=n+2*f
 | 0,P,n=>by simp [z1f]
 |f+1,P,n=>by
  unfold z1f
  split
  ·dsimp only;omega
  ·split
   ·dsimp only;omega
   ·have:=zes key Q f (z1b key P (z13 Q (hns P))) (n+2);omega
theorem ztl(key:Hash)(PS:List (List Hdr))(i k:Nat):(metN key PS i k).2.length=PS.length:=by simp [metN]
theorem ztm{key:Hash}{PS:List (List Hdr)}(h:POks key PS){i k:Nat}(hi:i<PS.length)(hk:k<PS.length):POks key (metN key PS i k).2:=
 (h.set i (z7k key _ 17 1 (h i hi))).set k (z7k key _ 17 1 (h k hk))
def metI(key:Hash)(PS:List (List Hdr))(i k:Int):AV:=if twoN PS.length i k=true then .tup [.int .i64 (metN key PS i.toNat k.toNat).1,.int .i64 0]else .tup [.int .i64 0,.int .i64 2]
def metS(key:Hash)(PS:List (List Hdr))(i k:Int):List (List Hdr):=if twoN PS.length i k=true then(metN key PS i.toNat k.toNat).2 else PS
theorem zd5(h:CirS PoIs O c key PS M own)(hok:POks key PS)(hn:0<PS.length)(i k:Int):
  ACallsP TC 20 [.ptr c 0 0,.int .i64 i,.int .i64 k] O (CirP PoIs O c key own (metI key PS i k) (metS key PS i k) M):=by
 have hfin:=h
 obtain⟨Q,lk,sid,pp,ow,hown,hC⟩:=h
 have hN:=z7z O c Q lk _ hC.obj hn
 have hbi:=z79 O c Q lk PS.length i hC.obj
 have hbk:=z79 O c Q lk PS.length k hC.obj
 clear hC hown
 refine ACallsP.of_keep q2jok (by simp) ?_
 unfold metI metS
 by_cases ht:twoN PS.length i k=true
 ·rw [if_pos ht,if_pos ht]
  unfold twoN at ht
  simp only [Bool.and_eq_true,Bool.not_eq_true',decide_eq_false_iff_not]at ht
  obtain⟨⟨hi,hk⟩,hne⟩:=ht
  rw [hi]at hbi
  rw [hk]at hbk
  obtain⟨a,rfl,ha⟩:=z3w hi
  obtain⟨b,rfl,hb⟩:=z3w hk
  have hne':((a:Int)==b)=false:=beq_eq_false_iff_ne.2 hne
  have hab:a ≠ b:=fun e=>hne (by rw [e])
  repeat' (first|apply zs_|apply zb_|apply zc_|apply zt_ rfl|apply zf_ rfl|(apply zd_ rfl<;>intro ht<;>try omega)|((first|apply zr_|apply zk_|apply ze_|apply zq_|(apply callW.mk_pu;(first|exact(fun _=>hN)|exact(fun _=>hbi)|exact(fun _=>hbk)))|(apply callW.za;(first|exact(hN)|exact(hbi)|exact(hbk)))|(apply zG<;>intro ht));all_goals try simp (disch:=first|omega|(simp only [lens,z6,z7,zg,z8,zh,zm,lQt,lQd,List.length_replicate,lQm];first|done|omega)) only [go_sem,hne']))
  refine callW.mkP (caps:=[]) (zij hfin hok a b ha hb hab) (CirP.is ploc_is z2s hfin _ (by simp)) ?_
  rintro v O2 ⟨rfl,own2,S2,f2⟩
  have hn1:=zes key (PS.getD b []) 17 (PS.getD a []) 1
  have hok2:POks key (PS.set a (z1f key 17 (PS.getD a []) (PS.getD b []) 1).2):=hok.set a (z7k key _ 17 1 (hok a ha))
  have hga:(PS.set a (z1f key 17 (PS.getD a []) (PS.getD b []) 1).2).getD a []=(z1f key 17 (PS.getD a []) (PS.getD b []) 1).2:=z4z ha _
  have hgb:(PS.set a (z1f key 17 (PS.getD a []) (PS.getD b []) 1).2).getD b []=PS.getD b []:=by simp [List.getD,List.getElem?_set_ne hab]
  have hA:=zij S2 hok2 b a (by simpa using hb) (by simpa using ha) (fun e=>hab e.symm)
  rw [hga,hgb]at hA
  unfold metN
  dsimp only
  have hn2:=zes key (z1f key 17 (PS.getD a []) (PS.getD b []) 1).2 17 (PS.getD b []) 1
  generalize (z1f key 17 (PS.getD b []) (z1f key 17 (PS.getD a []) (PS.getD b []) 1).2 1)=r2 at*
  generalize (z1f key 17 (PS.getD a []) (PS.getD b []) 1)=r1 at*
  simp (disch:=first|omega|(simp only [lens,z6,z7,zg,z8,zh,zm,lQt,lQd,List.length_replicate,lQm];first|done|omega)) only [go_sem]
  repeat' (first|apply zs_|apply zb_|apply zc_|apply zt_ rfl|apply zf_ rfl|(apply zd_ rfl<;>intro ht<;>try omega)|((first|apply zr_|apply zk_|apply ze_|apply zq_|(apply zG<;>intro ht));all_goals try simp (disch:=first|omega|(simp only [lens,z6,z7,zg,z8,zh,zm,lQt,lQd,List.length_replicate,lQm];first|done|omega)) only [go_sem]))
  refine callW.mkP (caps:=[]) hA (CirP.is ploc_is z2s S2 _ (by simp)) ?_
  rintro v O3 ⟨rfl,own3,S3,f3⟩
  simp (disch:=first|omega|(simp only [lens,z6,z7,zg,z8,zh,zm,lQt,lQd,List.length_replicate,lQm];first|done|omega)) only [go_sem]
  repeat' (first|apply zs_|apply zb_|apply zc_|apply zt_ rfl|apply zf_ rfl|(apply zd_ rfl<;>intro ht<;>try omega)|((first|apply zr_|apply zk_|apply ze_|apply zq_|(apply zG<;>intro ht));all_goals try simp (disch:=first|omega|(simp only [lens,z6,z7,zg,z8,zh,zm,lQt,lQd,List.length_replicate,lQm];first|done|omega)) only [go_sem]))
  exact⟨by simp,own3,S3,f2.trans f3⟩
 ·rw [if_neg ht,if_neg ht]
  have hres:CirP PoIs O c key own (.tup [.int .i64 0,.int .i64 2]) PS M (.tup [.int .i64 0,.int .i64 2]) O:=⟨rfl,_,hfin,⟨fun _ _ _=>rfl,fun _ h=> .inl h,Nat.le_refl _⟩⟩
  cases hi:isN PS.length i
  ·rw [hi]at hbi
   repeat' (first|apply zs_|apply zb_|apply zc_|apply zt_ rfl|apply zf_ rfl|(apply zd_ rfl<;>intro ht<;>try omega)|((first|apply zr_|apply zk_|apply ze_|apply zq_|(apply callW.mk_pu;(first|exact(fun _=>hN)|exact(fun _=>hbi)))|(apply callW.za;(first|exact(hN)|exact(hbi)))|(apply zG<;>intro ht));all_goals try simp (disch:=first|omega|(simp only [lens,z6,z7,zg,z8,zh,zm,lQt,lQd,List.length_replicate,lQm];first|done|omega)) only [go_sem]))
   exact hres
  ·rw [hi]at hbi
   cases hk:isN PS.length k
   ·rw [hk]at hbk
    repeat' (first|apply zs_|apply zb_|apply zc_|apply zt_ rfl|apply zf_ rfl|(apply zd_ rfl<;>intro ht<;>try omega)|((first|apply zr_|apply zk_|apply ze_|apply zq_|(apply callW.mk_pu;(first|exact(fun _=>hN)|exact(fun _=>hbi)|exact(fun _=>hbk)))|(apply callW.za;(first|exact(hN)|exact(hbi)|exact(hbk)))|(apply zG<;>intro ht));all_goals try simp (disch:=first|omega|(simp only [lens,z6,z7,zg,z8,zh,zm,lQt,lQd,List.length_replicate,lQm];first|done|omega)) only [go_sem]))
    exact hres
   ·rw [hk]at hbk
    have hik:i=k:=by
     unfold twoN at ht
     rw [hi,hk]at ht
     simpa using ht
    subst hik
    have hee:((i:Int)==i)=true:=by simp
    repeat' (first|apply zs_|apply zb_|apply zc_|apply zt_ rfl|apply zf_ rfl|(apply zd_ rfl<;>intro ht<;>try omega)|((first|apply zr_|apply zk_|apply ze_|apply zq_|(apply callW.mk_pu;(first|exact(fun _=>hN)|exact(fun _=>hbi)))|(apply callW.za;(first|exact(hN)|exact(hbi)))|(apply zG<;>intro ht));all_goals try simp (disch:=first|omega|(simp only [lens,z6,z7,zg,z8,zh,zm,lQt,lQd,List.length_replicate,lQm];first|done|omega)) only [go_sem,hee]))
    exact hres
end
end
section
theorem zyu{O:Store}{sid:Option Nat}{w x:AV}{rows:List (List AV)}(h:RowAt 1 O sid w rows)(hl:rows.length<1000000):
  ∃O2,aApp O 1 w [[x]]=some (.sl O.length 0 (rows.length+1) none 1,O2)/\ O2[O.length]? =some (some (rows++ [[x]]))/\ O2.length=O.length+1/\ ∀j,j<O.length->sid ≠ some j->O2[j]? =O[j]?:=by
 rcases h with⟨rfl,rfl,rfl⟩| ⟨q,rfl,hne,rfl,hq⟩
 ·refine⟨O++ [some [[x]]],by simp [aApp],by simp,by simp,fun j hj _=>gapp hj⟩
 ·refine⟨O.set q none++ [some (rows++ [[x]])],?_,by rw [z19 (by simp)];simp,by simp,fun j hj hn=> ?_⟩
  ·unfold aApp
   rw [if_neg (by simp)]
   simp only [hq]
   rw [if_pos ⟨trivial,by omega,by simp;omega⟩,if_neg (by simp)]
   simp
  ·rw [gapp (by simpa using hj)]
   exact z1e fun e=>hn (by rw [e])
theorem zqv{O O':Store}(hl:O.length<=O'.length)(h:∀j,j<O.length->O'[j]? =O[j]?):Ext O O':=by
 refine⟨O'.drop O.length,List.ext_getElem? fun j=> ?_⟩
 by_cases hj:j<O.length
 ·rw [gapp hj,h j hj]
 ·rw [z19 (by omega),List.getElem?_drop];congr 1;omega
structure NewS(τ O:Store)(key:Hash)(n i:Nat)(w:AV)(pp:List Nat)(sid:Option Nat):Prop where
 ext:Ext τ O
 len:pp.length=i
 box:O[τ.length]? =some (some [hc key])
 lk:O[τ.length+1]? =some (some [[.int .i64 n,.nilsl]])
 obj:O[τ.length+2]? =some (some [[w,.ptr (τ.length+1) 0 0]])
 row:RowAt 1 O sid w (pp.map fun p=>[.ptr p 0 0])
 pool:∀p ∈ pp,O[p]? =some (some [poC key .nilsl])/\ τ.length+2<p
 nd:pp.Nodup
 sid:∀s,sid=some s->τ.length+2<s/\ s ∉ pp
theorem NewS.step{τ O O2:Store}{key:Hash}{n i:Nat}{w:AV}{pp:List Nat}{sid:Option Nat}(h:NewS τ O key n i w pp sid)
  (hr:O2[O.length+2]? =some (some ((pp.map fun p=>[.ptr p 0 0])++ [[.ptr (O.length+1) 0 0]]))) (hl:O2.length=O.length+3) (hk:∀j,j<O.length+2->sid ≠ some j->O2[j]? =(O++ [some [hc key],some [poC key .nilsl]])[j]?):
  NewS τ (O2.set (τ.length+2) (some [[.sl (O.length+2) 0 (i+1) none 1,.ptr (τ.length+1) 0 0]])) key n (i+1) (.sl (O.length+2) 0 (i+1) none 1) (pp++ [O.length+1]) (some (O.length+2)):=by
 have d:=slen h.obj
 have hns:∀j,j<=τ.length+2->sid ≠ some j:=fun j hj e=>by have:=(h.sid j e).1;omega
 have hlow:∀j,j<O.length->j ≠ τ.length+2->sid ≠ some j->(O2.set (τ.length+2) (some [[.sl (O.length+2) 0 (i+1) none 1,.ptr (τ.length+1) 0 0]]))[j]? =O[j]?:=fun j hj h1 h2=>by
  rw [z1e (fun e=>h1 e.symm),hk j (by omega) h2,gapp hj]
 have hpl:∀p ∈ pp,p<O.length:=fun p hp=>slen (h.pool p hp).1
 have hmap:((pp++ [O.length+1]).map fun p=>[AV.ptr p 0 0])=(pp.map fun p=>[.ptr p 0 0])++ [[.ptr (O.length+1) 0 0]]:=by simp
 refine { ext:= ?_,len:=by rw [List.length_append,h.len];rfl,box:= ?_,lk:= ?_,obj:= ?_,row:= ?_,pool:= ?_,nd:= ?_,sid:= ?_ }
 ·obtain⟨y,hy⟩:=h.ext
  refine zqv (by rw [List.length_set,hl];omega) fun j hj=> ?_
  rw [hlow j (by omega) (by omega) (hns j (by omega)),hy,gapp hj]
 ·rw [hlow _ (by omega) (by omega) (hns _ (by omega))];exact h.box
 ·rw [hlow _ (by omega) (by omega) (hns _ (by omega))];exact h.lk
 ·exact z1x (by omega)
 ·refine .inr ⟨_,rfl,by simp,?_,?_⟩
  ·rw [List.length_map,List.length_append,h.len];rfl
  ·rw [z1e (by omega),hr,hmap]
 ·intro p hp
  rcases List.mem_append.1 hp with h1|h1
  ·obtain⟨h2,h3⟩:=h.pool p h1
   refine⟨?_,h3⟩
   rw [hlow p (hpl p h1) (by omega) fun e=>(h.sid p e).2 h1];exact h2
  ·rw [List.mem_singleton.1 h1]
   refine⟨?_,by omega⟩
   rw [z1e (by omega),hk _ (by omega) fun e=>by
    have hh:=h.row
    rcases hh with⟨e2,_⟩| ⟨q,e2,_,_,hq⟩
    ·rw [e2]at e;cases e
    ·rw [e2]at e;injection e with e;have:=slen hq;omega,z19 (by omega)]
   rw [show O.length+1-O.length=1 by omega];rfl
 ·rw [List.nodup_append]
  refine⟨h.nd,by simp,fun a ha b hb=> ?_⟩
  rw [List.mem_singleton.1 hb];have:=hpl a ha;omega
 ·intro s hs
  injection hs with hs;subst hs
  refine⟨by omega,fun hm=> ?_⟩
  rcases List.mem_append.1 hm with h1|h1
  ·have:=hpl _ h1;omega
  ·have:=List.mem_singleton.1 h1;omega
def CNewP(τ:Store)(key:Hash)(n:Nat)(v:AV)(O':Store):Prop:=∃c own,v=.tup [.ptr c 0 0,.int .i64 0]/\ Ext τ O'/\ CirS PoIs O' c key (List.replicate n []) [] own/\ ∀x ∈ own,τ.length<=x
theorem NewS.fin{τ O:Store}{key:Hash}{n:Nat}{w:AV}{pp:List Nat}{sid:Option Nat}(h:NewS τ O key n n w pp sid)(h0:0<n):CNewP τ key n (.tup [.ptr (τ.length+2) 0 0,.int .i64 0]) O:=by
 obtain⟨y,hy⟩:=h.ext
 have hrow:=h.row
 rcases hrow with⟨_,h1,_⟩| ⟨q,hq,h1,hw,hg⟩
 ·have:=congrArg List.length h1
  rw [List.length_map,h.len]at this;simp at this;omega
 have hql:(pp.map fun p=>[AV.ptr p 0 0]).length=n:=by rw [List.length_map,h.len]
 rw [hql]at hw
 subst hw
 have hsid:=h.sid q hq
 let ow:Nat->List Nat:=fun j=>if j=0 then [τ.length+2,q]else if j=1 then [τ.length+1]else [pp.getD (j-2) 0]
 have hpm:∀j,j<n->pp.getD j 0 ∈ pp:=fun j hj=>by
  rw [show pp.getD j 0=pp[j]'(by rw [h.len];exact hj)by simp [List.getD,h.len,hj]];exact List.getElem_mem _
 have hge:∀j,j<n+2->∀x ∈ ow j,τ.length<=x:=by
  intro j hj x hx
  show τ.length<=x
  simp only [ow]at hx
  split at hx
  ·simp at hx;omega
  ·split at hx
   ·simp at hx;omega
   ·rw [List.mem_singleton]at hx;have:=(h.pool _ (hpm (j-2) (by omega))).2;omega
 refine⟨τ.length+2,z2t (n+2) ow,rfl,h.ext,⟨q,τ.length+1,none,pp,ow,by rw [List.length_replicate],?_⟩,fun x hx=> ?_⟩
 ·exact {
   o0:=rfl
   o1:=rfl
   len:=by rw [h.len,List.length_replicate]
   obj:=by rw [List.length_replicate];exact h.obj
   row:=hg
   lk:=⟨by rw [List.length_replicate];exact h.lk,rfl,by simp⟩
   pool:=fun i hi=>by
    rw [List.length_replicate]at hi
    obtain⟨h2,h3⟩:=h.pool _ (hpm i hi)
    refine⟨.nilsl,none,?_,h2,.inl ⟨rfl,?_,rfl⟩,by simp⟩
    ·simp [ow]
    ·simp [List.getD,hi,hdrs]
   apart:=by
    rw [List.length_replicate]
    intro i j hi hj hne x hx hx2
    simp only [ow]at hx hx2
    have hp:=fun k (hk:k<n+2) (h2:¬k=0) (h3:¬k=1)=>(h.pool _ (hpm (k-2) (by omega))).2
    have hqq:=fun k (hk:k<n+2) (h2:¬k=0) (h3:¬k=1) (e:q=pp.getD (k-2) 0)=>hsid.2 (by rw [e];exact hpm (k-2) (by omega))
    by_cases i0:i=0
    ·rw [if_pos i0]at hx
     rw [if_neg (by omega)]at hx2
     by_cases j1:j=1
     ·rw [if_pos j1]at hx2;simp at hx hx2;omega
     ·rw [if_neg j1]at hx2;simp at hx hx2
      have:=hp j hj (by omega) j1
      rcases hx with rfl|rfl
      ·simp [List.getD]at this;omega
      ·exact hqq j hj (by omega) j1 (by simp [List.getD];exact hx2)
    ·rw [if_neg i0]at hx
     by_cases i1:i=1
     ·rw [if_pos i1]at hx
      by_cases j0:j=0
      ·rw [if_pos j0]at hx2;simp at hx hx2;omega
      ·rw [if_neg j0,if_neg (by omega)]at hx2
       have:=hp j hj j0 (by omega)
       simp at hx hx2;simp [List.getD]at this;omega
     ·rw [if_neg i1]at hx
      have hpi:=hp i hi i0 i1
      by_cases j0:j=0
      ·rw [if_pos j0]at hx2
       simp at hx hx2
       rcases hx2 with rfl|rfl
       ·simp [List.getD]at hpi;omega
       ·exact hqq i hi i0 i1 (by simp [List.getD];exact hx)
      ·rw [if_neg j0]at hx2
       by_cases j1:j=1
       ·rw [if_pos j1]at hx2
        simp at hx hx2;simp [List.getD]at hpi;omega
       ·rw [if_neg j1]at hx2
        rw [List.mem_singleton]at hx hx2
        rw [hx]at hx2
        have a1:i-2<pp.length:=by rw [h.len];omega
        have a2:j-2<pp.length:=by rw [h.len];omega
        rw [show pp.getD (i-2) 0=pp[i-2]by simp [List.getD,a1],show pp.getD (j-2) 0=pp[j-2]by simp [List.getD,a2]]at hx2
        rcases Nat.lt_or_gt_of_ne (show i-2 ≠ j-2 by omega)with hlt|hlt
        ·exact List.pairwise_iff_getElem.1 h.nd _ _ a1 a2 hlt hx2
        ·exact List.pairwise_iff_getElem.1 h.nd _ _ a2 a1 hlt hx2.symm }
 ·obtain⟨j,hj,h2⟩:=mem_allOw.1 hx
  exact hge j hj x h2
theorem CNewP.is(τ:Store)(key:Hash)(n:Nat)(h0:0<n):∃v O',CNewP τ key n v O':=by
 have hs:∀i,∃O w pp sid,NewS τ O key n i w pp sid:=by
  intro i
  induction i with
  |zero=>
   exact⟨τ++ [some [hc key],some [[.int .i64 n,.nilsl]],some [[.nilsl,.ptr (τ.length+1) 0 0]]],.nilsl,[],none,⟨_,rfl⟩,rfl,by rw [z19 (by omega),Nat.sub_self];rfl,by rw [z19 (by omega),Nat.add_sub_cancel_left];rfl,by rw [z19 (by omega),Nat.add_sub_cancel_left];rfl,.inl ⟨rfl,rfl,rfl⟩,by simp,by simp,by simp⟩
  |succ i ih=>
   obtain⟨O,w,pp,sid,h⟩:=ih
   refine⟨_,_,_,_,h.step (O2:=O++ [some [hc key],some [poC key .nilsl],some ((pp.map fun p=>[.ptr p 0 0])++ [[.ptr (O.length+1) 0 0]])]) ?_ (by simp) fun j hj _=> ?_⟩
   ·rw [z19 (by omega),Nat.add_sub_cancel_left];rfl
   ·rw [show O++ [some [hc key],some [poC key .nilsl],some ((pp.map fun p=>[AV.ptr p 0 0])++ [[.ptr (O.length+1) 0 0]])]=(O++ [some [hc key],some [poC key .nilsl]])++ [some ((pp.map fun p=>[AV.ptr p 0 0])++ [[.ptr (O.length+1) 0 0]])]by simp,gapp (by simpa using hj)]
 obtain⟨O,w,pp,sid,h⟩:=hs n
 exact⟨_,O,h.fin h0⟩
attribute [local irreducible] ACallsTo ACallsP
theorem zhz(O:Store)(key:Hash)(n:Nat)(h2:2<=n)(h8:n<=8):ACallsP TC 28 [.agg (hc key),.int .i64 n] O (CNewP O key n):=by
 have l:=z6 key
 have tk:(hc key).take 32=hc key:=List.take_of_length_le (by omega)
 have c1:¬(n:Int)<2:=by omega
 have c2:¬(n:Int)>8:=by omega
 have hL:=fun O=>ztf O n ⟨by omega,by omega⟩
 refine ACallsP.of_keep q2rok (by simp) ?_
 repeat' (first|apply zs_|apply zb_|apply zc_|apply zt_ rfl|apply zf_ rfl|(apply zd_ rfl<;>intro ht<;>try omega)|((first|apply zr_|apply zk_|apply ze_|apply zq_|(apply callW.mk_pu;(first|exact(fun _=>hL _)))|(apply callW.za;(first|exact(hL _)))|(apply zG<;>intro ht));all_goals try simp (disch:=first|omega|(simp only [lens,z6,z7,zg,z8,zh,zm,lQt,lQd,List.length_replicate,lQm];first|done|omega)) only [go_sem,c1,c2,l]))
 refine zW.loop (fun m J O'=>∃(i:Nat) (w:AV) (pp:List Nat) (sid:Option Nat),m+i=n/\ NewS O O' key n i w pp sid/\ J 2=.ptr O.length 0 0/\ J 8=.ptr (O.length+2) 0 0/\ J 26=.int .i64 n/\ J 27=.int .i64 i) n ?_ ?_
 ·refine⟨0,.nilsl,[],none,by omega,?_,by simp (disch:=first|omega|(simp only [lens,z6,z7,zg,z8,zh,zm,lQt,lQd,List.length_replicate,lQm];first|done|omega)) only [go_sem],by simp (disch:=first|omega|(simp only [lens,z6,z7,zg,z8,zh,zm,lQt,lQd,List.length_replicate,lQm];first|done|omega)) only [go_sem],by simp (disch:=first|omega|(simp only [lens,z6,z7,zg,z8,zh,zm,lQt,lQd,List.length_replicate,lQm];first|done|omega)) only [go_sem],by simp (disch:=first|omega|(simp only [lens,z6,z7,zg,z8,zh,zm,lQt,lQd,List.length_replicate,lQm];first|done|omega)) only [go_sem];try rfl⟩
  exact⟨⟨_,rfl⟩,rfl,by simp,by simp,by simp,.inl ⟨rfl,rfl,rfl⟩,by simp,by simp,by simp⟩
 ·rintro m J O' ⟨i,w,pp,sid,hm,hS,q2,q8,q26,q27⟩
  by_cases hi:i<n
  ·have hi':(i:Int)<n:=by omega
   have hb:=hS.box
   have ho:=hS.obj
   have db:=slen hb
   have do':=slen ho
   have hE:=zkv O' key
   repeat' (first|apply zs_|apply zb_|apply zc_|apply zt_ rfl|apply zf_ rfl|(apply zd_ rfl<;>intro ht<;>try omega)|((first|apply zr_|apply zk_|apply ze_|apply zq_|(apply zG<;>intro ht));all_goals try simp (disch:=first|omega|(simp only [lens,z6,z7,zg,z8,zh,zm,lQt,lQd,List.length_replicate,lQm];first|done|omega)) only [go_sem,q2,q8,q26,q27,hb,ho,hi',tk,l]))
   refine callW.mkP_ef (caps:=[]) hE ⟨_,_,rfl,rfl⟩ ?_
   rintro v O1 ⟨rfl,rfl⟩
   have hrow:RowAt 1 (O'++ [some [hc key],some [poC key .nilsl]]) sid w (pp.map fun p=>[.ptr p 0 0]):=hS.row.keep fun q hq=>gapp (hS.row.lt hq)
   obtain⟨O2,ha,hr,hl2,hk⟩:=zyu (x:=.ptr (O'.length+1) 0 0) hrow (by rw [List.length_map,hS.len];omega)
   have hlen:(O'++ [some [hc key],some [poC key .nilsl]]).length=O'.length+2:=by simp
   rw [hlen]at hr hl2 hk ha
   have hN:=hS.step hr hl2 hk
   rw [List.length_map,hS.len]at ha
   have ho2:O2[O.length+2]? =some (some [[w,.ptr (O.length+1) 0 0]]):=by
    rw [hk _ (by omega) fun e=>by have:=(hS.sid _ e).1;omega,gapp do'];exact ho
   refine⟨by simp (disch:=first|omega|(simp only [lens,z6,z7,zg,z8,zh,zm,lQt,lQd,List.length_replicate,lQm];first|done|omega)) only [go_sem,hb,ho,tk,l],?_⟩
   simp (disch:=first|omega|(simp only [lens,z6,z7,zg,z8,zh,zm,lQt,lQd,List.length_replicate,lQm];first|done|omega)) only [go_sem,q2,q8,q26,q27,hb,ho,ho2,ha]
   repeat' (first|apply zs_|apply zb_|apply zc_|apply zt_ rfl|apply zf_ rfl|(apply zd_ rfl<;>intro ht<;>try omega)|((first|apply zr_|apply zk_|apply ze_|apply zq_|(apply zG<;>intro ht));all_goals try simp (disch:=first|omega|(simp only [lens,z6,z7,zg,z8,zh,zm,lQt,lQd,List.length_replicate,lQm];first|done|omega)) only [go_sem,q2,q8,q26,q27,hb,ho,ho2,ha]))
   exact⟨m-1,by omega,i+1,_,_,_,by omega,hN,by simp⟩
  ·obtain rfl:i=n:=by omega
   repeat' (first|apply zs_|apply zb_|apply zc_|apply zt_ rfl|apply zf_ rfl|(apply zd_ rfl<;>intro ht<;>try omega)|((first|apply zr_|apply zk_|apply ze_|apply zq_|(apply zG<;>intro ht));all_goals try simp (disch:=first|omega|(simp only [lens,z6,z7,zg,z8,zh,zm,lQt,lQd,List.length_replicate,lQm];first|done|omega)) only [go_sem,q2,q8,q26,q27]))
   exact hS.fin (by omega)
end
section
theorem zvv{h:Hdr}(hv:valH h=true):(z2g h).length<=20000:=by
 obtain⟨N,I,e1,e2,h1,h2,h3,h4⟩:=za7 (show z29 h.n h.i h.s h.p=true from hv)
 unfold z2g putH
 have a1:=z24 h.n.toNat
 have a2:=z24 h.i.toNat
 have a3:=z24 h.s.length
 have a4:=zdv (l:=h.p)
 have a5:=h.r.2
 unfold z28
 simp only [List.length_append]
 omega
theorem zj9:∀{P:List Hdr},(∀q ∈ P,valH q=true)->(z2b P).length<=20011*P.length
 | [],_=>by simp [z2b]
 |q::P,h=>by
  have h1:=zj9 (P:=P) fun q hq=>h q (List.mem_cons_of_mem _ hq)
  have h2:=zvv (h q (by simp))
  have h3:=zge (z2g q)
  unfold z2b at h1 ⊢
  simp only [List.map_cons,List.flatten_cons,List.length_append,List.length_cons]
  omega
theorem txt_le{k:MT}(h:k.Ok):(k.txt.length:Int)<=65536:=by
 cases k with
 |gt P=>
  obtain⟨h0,h1,h2⟩:=h
  have a:=zj9 h2
  have b:=z24 P.length
  show ((gtS P).length:Int)<=65536
  unfold gtS
  rw [List.length_cons,List.length_append];omega
 |kn l=>
  obtain⟨h1,h2⟩:=h
  have a:=z7j l
  have b:=z24 l.length
  show ((knS l).length:Int)<=65536
  unfold knS
  rw [List.length_cons,List.length_append];omega
theorem zcd{n len:Nat}{m:MM}(h:m.Ok n)(hl:len<200):z1t n len m.ml=0:=by
 have h1:=h.f
 have h2:=h.t
 have h3:=h.ne
 have h4:=txt_le h.k
 unfold z1t
 rw [if_neg (by omega),if_neg (by show ¬((m.f:Int)<0 \/(n:Int)<=m.f \/(m.t:Int)<0 \/(n:Int)<=m.t \/(m.f:Int)=m.t);omega),if_neg (by show ¬(65536:Int)<m.k.txt.length;omega),if_neg (by omega)]
theorem zie{key:Hash}{q:Hdr}(h:z1j key q.n q.i q.r q.s q.p=0):valH q=true:=by
 unfold z1j at h
 cases e:z29 q.n q.i q.s q.p
 ·rw [if_pos e]at h;cases h
 ·exact e
theorem z8v{key:Hash}{h:Hdr}(hc:z1j key h.n h.i h.r h.s h.p=0):addC key [] h=2/\ addL key [] h=[h]:=by
 obtain⟨h1,h2⟩:=zog (P:=[]) (b:=0) hc rfl (fun⟨e,_⟩=>by simp at e) (by simp)
 rw [h1,h2]
 refine⟨?_,rfl⟩
 rw [if_neg]
 rintro(⟨e,_⟩|e)
 ·omega
 ·simp at e
section
variable {K:Hash} {h:Hdr} (hc:z1j K h.n h.i h.r h.s h.p=0)
include hc
theorem told1:lrnC K [[],[],[]] 0 h=2:=(if_pos (show isN 3 0=true by decide)).trans (z8v hc).1
theorem told2:lrnS K [[],[],[]] 0 h=[[h],[],[]]:=(if_pos (show isN 3 0=true by decide)).trans (by rw [show ([[],[],[]]:List (List Hdr)).getD (0:Int).toNat []=[]from rfl,(z8v hc).2];rfl)
omit hc in
theorem zki:(⟨1,0,.kn []⟩:MM).Ok 3:=⟨by decide,by decide,by decide,by decide,fun _ h=>by simp at h⟩
theorem zkh:(⟨0,1,.gt [h]⟩:MM).Ok 3:=⟨by show 0<3;omega,by show 1<3;omega,by show 0 ≠ 1;omega,by simp,by simp,fun q hq=>by rw [List.mem_singleton.1 hq];exact zie hc⟩
omit hc in
theorem told3:tlkI [[h],[],[]] [] 1 0=0:=(if_pos (show twoN 3 1 0=true by decide)).trans (zcd (m:=⟨1,0,.kn []⟩) zki (by decide))
omit hc in
theorem told4:z3y [[h],[],[]] [] 1 0=[⟨1,0,.kn []⟩]:=if_pos told3
omit hc in
theorem told5:z3f K [[h],[],[]] [⟨1,0,.kn []⟩] 0=[[h],[],[]]:=if_pos (show atS 3 1 0=0 by decide)
theorem zeb:z13 [h] []=[h]:=by simp [z13,z21,zie hc,List.filter]
omit hc in
theorem zec:z13 [h] (hns [h])=[]:=by simp [z13,z21,hns,List.filter]
omit hc in
theorem miss0(l:List NH):z13 [] l=[]:=rfl
theorem told6:z3z [[h],[],[]] [⟨1,0,.kn []⟩] 0=[⟨0,1,.gt [h]⟩]:=by
 have e:repM [[h],[],[]] ⟨1,0,.kn []⟩ []=⟨0,1,.gt [h]⟩:=by
  show (⟨0,1,.gt (z13 [h] [])⟩:MM)=_
  rw [zeb hc]
 refine(if_pos (show atS 3 1 0=0 by decide)).trans ?_
 show (if z13 [h] [] ≠ []/\ z1t 3 0 (repM [[h],[],[]] ⟨1,0,.kn []⟩ []).ml=0 then []++ [repM [[h],[],[]] ⟨1,0,.kn []⟩ []]else [])=_
 rw [e,if_pos ⟨by rw [zeb hc];simp,zcd (zkh hc) (by decide)⟩];rfl
theorem told7:z3f K [[h],[],[]] [⟨0,1,.gt [h]⟩] 0=[[h],[h],[]]:=by
 refine(if_pos (show atS 3 1 0=0 by decide)).trans ?_
 show [[h],addL K [] h,[]]=_
 rw [(z8v hc).2]
omit hc in
theorem told8:z3z [[h],[],[]] [⟨0,1,.gt [h]⟩] 0=[]:=if_pos (show atS 3 1 0=0 by decide)
omit hc in
theorem zbt(P Q:List Hdr)(f n:Nat)(e:z13 Q (hns P)=[]):z1f K (f+1) P Q n=(n,P):=by unfold z1f;rw [if_pos e]
theorem zvt(n:Nat):z1f K 17 [] [h] n=(n+2,[h]):=by
 unfold z1f
 rw [show z13 [h] (hns [])=[h]from zeb hc,if_neg (by simp),show z1b K [] [h]=[h]from(z8v hc).2,if_neg (by simp)]
 exact zbt _ _ _ _ zec
theorem told9:metN K [[h],[h],[]] 1 2=(4,[[h],[h],[h]]):=by
 unfold metN
 rw [show ([[h],[h],[]]:List (List Hdr)).getD 1 []=[h]from rfl,show ([[h],[h],[]]:List (List Hdr)).getD 2 []=[]from rfl,zbt [h] [] 16 1 (miss0 _)]
 dsimp only
 rw [zvt hc];rfl
omit hc in
theorem zmw:metN K [[h],[h],[h]] 1 2=(2,[[h],[h],[h]]):=by
 unfold metN
 rw [show ([[h],[h],[h]]:List (List Hdr)).getD 1 []=[h]from rfl,show ([[h],[h],[h]]:List (List Hdr)).getD 2 []=[h]from rfl,zbt [h] [h] 16 1 zec]
 dsimp only
 rw [zbt [h] [h] 16 1 zec];rfl
theorem zmx:metI K [[h],[h],[]] 1 2=.tup [.int .i64 4,.int .i64 0]/\ metS K [[h],[h],[]] 1 2=[[h],[h],[h]]:=by
 refine⟨(if_pos (show twoN 3 1 2=true by decide)).trans ?_,(if_pos (show twoN 3 1 2=true by decide)).trans ?_⟩
 ·rw [show metN K [[h],[h],[]] (1:Int).toNat (2:Int).toNat=metN K [[h],[h],[]] 1 2 from rfl,told9 hc];rfl
 ·rw [show metN K [[h],[h],[]] (1:Int).toNat (2:Int).toNat=metN K [[h],[h],[]] 1 2 from rfl,told9 hc]
omit hc in
theorem told13:metI K [[h],[h],[h]] 1 2=.tup [.int .i64 2,.int .i64 0]/\ metS K [[h],[h],[h]] 1 2=[[h],[h],[h]]:=by
 refine⟨(if_pos (show twoN 3 1 2=true by decide)).trans ?_,(if_pos (show twoN 3 1 2=true by decide)).trans ?_⟩
 ·rw [show metN K [[h],[h],[h]] (1:Int).toNat (2:Int).toNat=metN K [[h],[h],[h]] 1 2 from rfl,zmw];rfl
 ·rw [show metN K [[h],[h],[h]] (1:Int).toNat (2:Int).toNat=metN K [[h],[h],[h]] 1 2 from rfl,zmw]
theorem POk.one:POk K [h]:=by have:=(POk.nil K).add h;rwa [(z8v hc).2]at this
end
end
section
theorem zz6(seed:List UInt8)(a r k b:Nat)(hb:b%8 ≠ 0):z1j (z11 (keyL seed)) (z3s seed a r k b).n (z3s seed a r k b).i (z3s seed a r k b).r (z3s seed a r k b).s (z3s seed a r k b).p=0:=by
 rw [zfl seed a r k b hb]
 exact zzg seed (k%8) (z38 a) (z31 r) (Nat.mod_lt _ (by omega)) (by unfold z38;omega)
attribute [local irreducible] ACallsTo ACallsP
theorem z14p:ACallsTo TC 19 [] [] (.bool true) []:=by
 have hNew:=fun O=>zjr O [107] (by simp)
 refine ACallsTo.of_body q2iok (by simp) fun hw _=> ?_
 repeat' (first|apply zs_|apply zb_|apply zc_|apply zt_ rfl|apply zf_ rfl|(apply zd_ rfl<;>intro ht<;>try omega)|((first|apply zr_|apply zk_|apply ze_|apply zq_|(apply callW.mk_pu;(first|exact(fun _=>hNew _)))|(apply callW.za;(first|exact(hNew _)))|(apply zG<;>intro ht));all_goals try simp (disch:=first|omega|(simp only [lens,z6,z7,zg,z8,zh,zm,lQt,lQd,List.length_replicate,lQm];first|done|omega)) only [go_sem]))
 try simp only [List.nil_append,List.length_nil]
 have hsl:([107]:List UInt8).length<1000000:=by simp
 generalize ([107]:List UInt8)=seed at*
 have hRt:=zgh [some [z1m true seed (keyL seed)]] 0 seed (keyL seed) rfl (z3g seed)
 have hN:ACallsP TC 28 [.agg (hc (z11 (keyL seed))),.int .i64 3] [some [z1m true seed (keyL seed)]] (CNewP [some [z1m true seed (keyL seed)]] (z11 (keyL seed)) 3):=zhz _ _ 3 (by omega) (by omega)
 have hchk:=zz6 seed 0 0 0 1 (by omega)
 repeat' (first|apply zs_|apply zb_|apply zc_|apply zt_ rfl|apply zf_ rfl|(apply zd_ rfl<;>intro ht<;>try omega)|((first|apply zr_|apply zk_|apply ze_|apply zq_|(apply callW.mk_pu;(first|exact(fun _=>hRt)))|(apply callW.za;(first|exact(hRt)))|(apply zG<;>intro ht));all_goals try simp (disch:=first|omega|(simp only [lens,z6,z7,zg,z8,zh,zm,lQt,lQd,List.length_replicate,lQm];first|done|omega)) only [go_sem]))
 refine callW.mkP (caps:=[]) hN (CNewP.is _ _ 3 (by omega)) ?_
 rintro v O1 ⟨c,own,rfl,hE1,S1,hge⟩
 have S1:CirS PoIs O1 c (z11 (keyL seed)) [[],[],[]] [] own:=S1
 obtain⟨y1,hy1⟩:=hE1
 have g0:O1[0]? =some (some [z1m true seed (keyL seed)]):=by rw [hy1];rfl
 have hOf:ACallsTo TC 12 [.agg [.int .u8 0,.int .u8 0,.int .u8 0,.int .u8 1],.ptr 0 0 0] O1 (.agg (hdrC (z3s seed 0 0 0 1))) O1:=zm1 O1 0 seed 0 0 0 1 g0 hsl (by omega) (by omega) (by omega) (by omega)
 generalize z3s seed 0 0 0 1=h at*
 generalize z11 (keyL seed)=K at*
 have hpl:=zdy hchk
 have hl:=zg h
 have hh:=zjd h
 have ha:(hdrC h).take 36=hdrC h:=z7f h
 have E:Ext O1 (O1++ [some [hdrC h]]):=⟨_,rfl⟩
 have S2:=S1.ext ploc_is E
 have hB:(O1++ [some [hdrC h]])[O1.length]? =some (some [hdrC h]):=by rw [z19 (Nat.le_refl _),Nat.sub_self];rfl
 have hnB:O1.length ∉ own:=fun e=>by have:=S1.lt ploc_is _ e;omega
 have k0:POks K [[],[],[]]:=fun i hi=>by
  have:([[],[],[]]:List (List Hdr)).getD i []=[]:=by
   match i,hi with
   | 0,_=>rfl
   | 1,_=>rfl
   | 2,_=>rfl
  rw [this];exact POk.nil K
 have k1:POks K [[h],[],[]]:=k0.set 0 (POk.one hchk)
 have k2:POks K [[h],[h],[]]:=k1.set 1 (POk.one hchk)
 have k3:POks K [[h],[h],[h]]:=k2.set 2 (POk.one hchk)
 simp (disch:=first|omega|(simp only [lens,z6,z7,zg,z8,zh,zm,lQt,lQd,List.length_replicate,lQm];first|done|omega)) only [go_sem,hl,ha]
 repeat' (first|apply zs_|apply zb_|apply zc_|apply zt_ rfl|apply zf_ rfl|(apply zd_ rfl<;>intro ht<;>try omega)|((first|apply zr_|apply zk_|apply ze_|apply zq_|(apply callW.mk_pu;(first|exact(fun _=>hOf)))|(apply callW.za;(first|exact(hOf)))|(apply zG<;>intro ht));all_goals try simp (disch:=first|omega|(simp only [lens,z6,z7,zg,z8,zh,zm,lQt,lQd,List.length_replicate,lQm];first|done|omega)) only [go_sem,hl,ha]))
 have hL:=zhy S2 k0 0 h _ (z1y 32 (hr h.p)) (by omega)
 rw [show sgC h.n h.r h.i h.s (zz 32 (hr h.p))=hdrC h from rfl,told1 hchk,told2 hchk]at hL
 refine callW.mkP (caps:=[]) hL (CirP.is ploc_is z2s S2 _ rfl) ?_
 rintro v O3 ⟨rfl,own3,S3,f3⟩
 have hB3:=f3.get hB hnB
 have hnB3:=f3.nin (slen hB) hnB
 simp (disch:=first|omega|(simp only [lens,z6,z7,zg,z8,zh,zm,lQt,lQd,List.length_replicate,lQm];first|done|omega)) only [go_sem]
 repeat' (first|apply zs_|apply zb_|apply zc_|apply zt_ rfl|apply zf_ rfl|(apply zd_ rfl<;>intro ht<;>try omega)|((first|apply zr_|apply zk_|apply ze_|apply zq_|(apply zG<;>intro ht));all_goals try simp (disch:=first|omega|(simp only [lens,z6,z7,zg,z8,zh,zm,lQt,lQd,List.length_replicate,lQm];first|done|omega)) only [go_sem]))
 have hT:=zd9 S3 k1 (by simp) (by simp) 1 0
 rw [told3,told4]at hT
 refine callW.mkP (caps:=[]) hT (CirP.is ploc_is z2s S3 _ rfl) ?_
 rintro v O4 ⟨rfl,own4,S4,f4⟩
 have hB4:=f4.get hB3 hnB3
 have hnB4:=f4.nin (slen hB3) hnB3
 simp (disch:=first|omega|(simp only [lens,z6,z7,zg,z8,zh,zm,lQt,lQd,List.length_replicate,lQm];first|done|omega)) only [go_sem]
 repeat' (first|apply zs_|apply zb_|apply zc_|apply zt_ rfl|apply zf_ rfl|(apply zd_ rfl<;>intro ht<;>try omega)|((first|apply zr_|apply zk_|apply ze_|apply zq_|(apply zG<;>intro ht));all_goals try simp (disch:=first|omega|(simp only [lens,z6,z7,zg,z8,zh,zm,lQt,lQd,List.length_replicate,lQm];first|done|omega)) only [go_sem]))
 have hD:=zb0 S4 k1 (fun m hm=>by rw [List.mem_singleton.1 hm];exact zki) (by simp) (by simp) 0
 rw [told5,told6 hchk,show atS ([[h],[],[]]:List (List Hdr)).length ([⟨1,0,.kn []⟩]:List MM).length 0=0 by show atS 3 1 0=0;decide]at hD
 refine callW.mkP (caps:=[]) hD (CirP.is ploc_is z2s S4 _ rfl) ?_
 rintro v O5 ⟨rfl,own5,S5,f5⟩
 have hB5:=f5.get hB4 hnB4
 have hnB5:=f5.nin (slen hB4) hnB4
 simp (disch:=first|omega|(simp only [lens,z6,z7,zg,z8,zh,zm,lQt,lQd,List.length_replicate,lQm];first|done|omega)) only [go_sem]
 repeat' (first|apply zs_|apply zb_|apply zc_|apply zt_ rfl|apply zf_ rfl|(apply zd_ rfl<;>intro ht<;>try omega)|((first|apply zr_|apply zk_|apply ze_|apply zq_|(apply zG<;>intro ht));all_goals try simp (disch:=first|omega|(simp only [lens,z6,z7,zg,z8,zh,zm,lQt,lQd,List.length_replicate,lQm];first|done|omega)) only [go_sem]))
 have hD:=zb0 S5 k1 (fun m hm=>by rw [List.mem_singleton.1 hm];exact zkh hchk) (by simp) (by simp) 0
 rw [told7 hchk,told8,show atS ([[h],[],[]]:List (List Hdr)).length ([⟨0,1,.gt [h]⟩]:List MM).length 0=0 by show atS 3 1 0=0;decide]at hD
 refine callW.mkP (caps:=[]) hD (CirP.is ploc_is z2s S5 _ rfl) ?_
 rintro v O6 ⟨rfl,own6,S6,f6⟩
 have hB6:=f6.get hB5 hnB5
 have hnB6:=f6.nin (slen hB5) hnB5
 simp (disch:=first|omega|(simp only [lens,z6,z7,zg,z8,zh,zm,lQt,lQd,List.length_replicate,lQm];first|done|omega)) only [go_sem]
 repeat' (first|apply zs_|apply zb_|apply zc_|apply zt_ rfl|apply zf_ rfl|(apply zd_ rfl<;>intro ht<;>try omega)|((first|apply zr_|apply zk_|apply ze_|apply zq_|(apply zG<;>intro ht));all_goals try simp (disch:=first|omega|(simp only [lens,z6,z7,zg,z8,zh,zm,lQt,lQd,List.length_replicate,lQm];first|done|omega)) only [go_sem]))
 have hPo:ACallsP TC 27 [.ptr c 0 0,.int .i64 1] O6 (PoCopyP O6 K [h]):=z6g S6 k2 1 (by simp)
 refine callW.mkP_ef (caps:=[]) hPo (PoCopyP.is _ _ _) ?_
 rintro v O7 ⟨p7,o7,rfl,E7,P7,_⟩
 have S7:=S6.ext ploc_is E7
 have hB7:O7[O1.length]? =some (some [hdrC h]):=by obtain⟨y,rfl⟩:=E7;rw [gapp (slen hB6)];exact hB6
 have hH7:=P7.has (POk.one hchk).sort (by simp) h.n h.r
 rw [show isP [h] h.n h.r=true from(z6k (POk.one hchk).sort h.n h.r).2 ⟨h,by simp,rfl,rfl⟩]at hH7
 have hM7:=zd4 S7 (by simp) (by simp)
 rw [show ((([]:List MM).length:Nat):Int)=0 from rfl]at hM7
 refine⟨by simp (disch:=first|omega|(simp only [lens,z6,z7,zg,z8,zh,zm,lQt,lQd,List.length_replicate,lQm];first|done|omega)) only [go_sem,hB7,hl,hh],?_⟩
 simp (disch:=first|omega|(simp only [lens,z6,z7,zg,z8,zh,zm,lQt,lQd,List.length_replicate,lQm];first|done|omega)) only [go_sem,hB6,hB7,hl,hh]
 repeat' (first|apply zs_|apply zb_|apply zc_|apply zt_ rfl|apply zf_ rfl|(apply zd_ rfl<;>intro ht<;>try omega)|((first|apply zr_|apply zk_|apply ze_|apply zq_|(apply callW.mk_pu;(first|exact(fun _=>hH7)|exact(fun _=>hM7)))|(apply callW.za;(first|exact(hH7)|exact(hM7)))|(apply zG<;>intro ht));all_goals try simp (disch:=first|omega|(simp only [lens,z6,z7,zg,z8,zh,zm,lQt,lQd,List.length_replicate,lQm];first|done|omega)) only [go_sem,hB6,hB7,hl,hh]))
 have hMe:=zd5 S7 k2 (by simp) 1 2
 rw [(zmx hchk).1,(zmx hchk).2]at hMe
 refine callW.mkP (caps:=[]) hMe (CirP.is ploc_is z2s S7 _ rfl) ?_
 rintro v O8 ⟨rfl,own8,S8,f8⟩
 have hB8:=f8.get hB7 hnB6
 have hnB8:=f8.nin (slen hB7) hnB6
 simp (disch:=first|omega|(simp only [lens,z6,z7,zg,z8,zh,zm,lQt,lQd,List.length_replicate,lQm];first|done|omega)) only [go_sem]
 repeat' (first|apply zs_|apply zb_|apply zc_|apply zt_ rfl|apply zf_ rfl|(apply zd_ rfl<;>intro ht<;>try omega)|((first|apply zr_|apply zk_|apply ze_|apply zq_|(apply zG<;>intro ht));all_goals try simp (disch:=first|omega|(simp only [lens,z6,z7,zg,z8,zh,zm,lQt,lQd,List.length_replicate,lQm];first|done|omega)) only [go_sem]))
 have hMe:=zd5 S8 k3 (by simp) 1 2
 rw [told13.1,told13.2]at hMe
 refine callW.mkP (caps:=[]) hMe (CirP.is ploc_is z2s S8 _ rfl) ?_
 rintro v O9 ⟨rfl,own9,S9,f9⟩
 have hB9:=f9.get hB8 hnB8
 simp (disch:=first|omega|(simp only [lens,z6,z7,zg,z8,zh,zm,lQt,lQd,List.length_replicate,lQm];first|done|omega)) only [go_sem]
 repeat' (first|apply zs_|apply zb_|apply zc_|apply zt_ rfl|apply zf_ rfl|(apply zd_ rfl<;>intro ht<;>try omega)|((first|apply zr_|apply zk_|apply ze_|apply zq_|(apply zG<;>intro ht));all_goals try simp (disch:=first|omega|(simp only [lens,z6,z7,zg,z8,zh,zm,lQt,lQd,List.length_replicate,lQm];first|done|omega)) only [go_sem]))
 have hPo:ACallsP TC 27 [.ptr c 0 0,.int .i64 2] O9 (PoCopyP O9 K [h]):=z6g S9 k3 2 (by simp)
 refine callW.mkP_ef (caps:=[]) hPo (PoCopyP.is _ _ _) ?_
 rintro v σa ⟨pa,oa,rfl,Ea,Pa,_⟩
 have hBa:σa[O1.length]? =some (some [hdrC h]):=by obtain⟨y,rfl⟩:=Ea;rw [gapp (slen hB9)];exact hB9
 have hHa:=Pa.has (POk.one hchk).sort (by simp) h.n h.r
 rw [show isP [h] h.n h.r=true from(z6k (POk.one hchk).sort h.n h.r).2 ⟨h,by simp,rfl,rfl⟩]at hHa
 refine⟨by simp (disch:=first|omega|(simp only [lens,z6,z7,zg,z8,zh,zm,lQt,lQd,List.length_replicate,lQm];first|done|omega)) only [go_sem,hBa,hl,hh],?_⟩
 simp (disch:=first|omega|(simp only [lens,z6,z7,zg,z8,zh,zm,lQt,lQd,List.length_replicate,lQm];first|done|omega)) only [go_sem,hB9,hBa,hl,hh]
 repeat' (first|apply zs_|apply zb_|apply zc_|apply zt_ rfl|apply zf_ rfl|(apply zd_ rfl<;>intro ht<;>try omega)|((first|apply zr_|apply zk_|apply ze_|apply zq_|(apply callW.mk_pu;(first|exact(fun _=>hHa)))|(apply callW.za;(first|exact(hHa)))|(apply zG<;>intro ht));all_goals try simp (disch:=first|omega|(simp only [lens,z6,z7,zg,z8,zh,zm,lQt,lQd,List.length_replicate,lQm];first|done|omega)) only [go_sem,hB9,hBa,hl,hh]))
 exact DownV.pure (τ:=[]) hw z2c
theorem z8h(O:Store):ACallsTo TC 19 [] O (.bool true) O:=ACallsTo.frame glok z14p (by simp [RLs]) O
end
section
structure ActV8 where
 k:Nat
 a:Nat
 b:Nat
 s:Sn
 q:Hdr
 x:AV
 n:Int
 m:Int
def z6z(A:ActV8):List AV:=[.int .u8 A.k,.int .u8 A.a,.int .u8 A.b,.int .u8 A.s.1,.int .u8 A.s.2.1,.int .u8 A.s.2.2.1,.int .u8 A.s.2.2.2]
def z2a(A:ActV8):List AV:=z6z A++(sgC A.q.n A.q.r A.q.i A.q.s A.x++ [.int .i64 A.n,.int .i64 A.m])
structure ActV8.Ok(A:ActV8):Prop where
 k:A.k<256
 a:A.a<256
 b:A.b<256
 s:SnOk A.s
 x:SlV 32 (hr A.q.p) A.x
 x1:A.q.p ≠ []->A.x=zz 32 (hr A.q.p)
 p:A.q.p.length<=maxLen
 g:A.q.s.length<=maxLen
def z3d(L:List ActV8):List (List AV):=L.map z2a
theorem zy(L:List ActV8):(z3d L).length=L.length:=by simp [z3d]
theorem zh7{L:List ActV8}{i:Nat}(h:i<L.length):(z3d L)[i]? =some (z2a L[i]):=by simp [z3d,List.getElem?_eq_getElem h]
theorem zl(A:ActV8):(z2a A).length=45:=by simp [z2a,z6z,z7]
theorem zo4(A:ActV8):(z2a A)[41]? =some (.str A.q.s):=by
 unfold z2a
 rw [List.getElem?_append_right (by simp [z6z]),List.getElem?_append_left (by simp [z6z,z7])]
 exact sgC_34 ..
theorem zo5(A:ActV8):(z2a A)[42]? =some A.x:=by
 unfold z2a
 rw [List.getElem?_append_right (by simp [z6z]),List.getElem?_append_left (by simp [z6z,z7])]
 exact zm5 ..
theorem zo6(A:ActV8):(z2a A).take 45=z2a A:=List.take_of_length_le (by rw [zl];omega)
def z8u:Ty:=.row [.int .u8,.int .u8,.int .u8,zfx,z9v,.row [.int .i64,.int .i64]]
theorem zo8{cs:List AV}(h:ShC z8u cs):∃A:ActV8,cs=z2a A/\ A.Ok:=by
 simp only [z8u,ShC]at h
 simp only [z3b]at h
 obtain⟨c1,r1,rfl,h1,c2,r2,rfl,h2,c3,r3,rfl,h3,c4,r4,rfl,h4,c5,r5,rfl,h5,c6,r6,rfl,h6,rfl⟩:=h
 obtain⟨a,rfl,a0,a1⟩:=(by simpa only [ShC]using h1:∃n,_)
 obtain⟨b,rfl,b0,b1⟩:=(by simpa only [ShC]using h2:∃n,_)
 obtain⟨c,rfl,c0,c1⟩:=(by simpa only [ShC]using h3:∃n,_)
 obtain⟨s,rfl,hs⟩:=zzw h4
 obtain⟨q,x,e,hx,hx1,hp,hg⟩:=zzb (a:=.agg c5) (by simpa only [z9v,Sh,ShC]using⟨c5,rfl,by simpa only [z9v,ShC]using h5⟩)
 injection e with e
 subst e
 simp only [ShC,z3b]at h6
 obtain⟨d1,e1,rfl,⟨n,rfl,n0,n1⟩,d2,e2,rfl,⟨m,rfl,m0,m1⟩,rfl⟩:=h6
 simp only [IntKind.min,IntKind.max,IntKind.signed,IntKind.bits]at a0 a1 b0 b1 c0 c1
 simp at a0 a1 b0 b1 c0 c1
 obtain⟨a,rfl⟩:∃k:Nat,a=k:=⟨a.toNat,by omega⟩
 obtain⟨b,rfl⟩:∃k:Nat,b=k:=⟨b.toNat,by omega⟩
 obtain⟨c,rfl⟩:∃k:Nat,c=k:=⟨c.toNat,by omega⟩
 exact⟨⟨a,b,c,s,q,x,n,m⟩,by simp [z2a,z6z,snC],⟨by show a<256;omega,by show b<256;omega,by show c<256;omega,hs,hx,hx1,hp,hg⟩⟩
def greatA38(A:ActV8):Bool:=decide (17000<A.q.s.length \/10<A.q.p.length)
def z99(L:List ActV8)(n:Int):Bool:=L.any greatA38 ||decide (n<L.length)
theorem zom{L:List ActV8}{i:Nat}(h:i<L.length):(L.take (i+1)).any greatA38=((L.take i).any greatA38 ||greatA38 L[i]):=by
 rw [List.take_succ_eq_append_getElem h,List.any_append];simp
def CirN(O:Store)(p:AV):Prop:=p=.nilp \/ ∃r,p=.ptr r 0 0/\ O[r]? =some (some [[.nilsl,.nilp]])
attribute [local irreducible] ACallsTo ACallsP
theorem znn(O:Store)(L:List ActV8)(n:Int)(x:AV)(hx:SlV 45 (z3d L) x)(hok:∀A ∈ L,A.Ok)(hl:L.length<=maxLen):
  ACallsTo TC 18 [x,.int .i64 n] O (.bool (z99 L n)) O:=by
 have hm:maxLen<9223372036854775808:=by decide
 have r1:=hx.len
 rw [zy]at r1
 unfold z1k at r1
 unfold z99
 refine ACallsTo.of_body q2hok (by simp) fun hw _=> ?_
 repeat' (first|apply zs_|apply zb_|apply zc_|apply zt_ rfl|apply zf_ rfl|(apply zd_ rfl<;>intro ht<;>try omega)|((first|apply zr_|apply zk_|apply ze_|apply zq_|(apply zG<;>intro ht));all_goals try simp (disch:=first|omega|(simp only [lens,z6,z7,zg,z8,zh,zm,lQt,lQd,List.length_replicate,lQm];first|done|omega)) only [go_sem]))
 refine zW.loop (fun m J O'=>∃i:Nat,m+i=L.length/\ O'=O/\ (L.take i).any greatA38=false/\ J 0=x/\ J 1=.int .i64 n/\ J 5=.int .i64 i) L.length ?_ ?_
 ·exact⟨0,by omega,rfl,by simp,by simp (disch:=first|omega|(simp only [lens,z6,z7,zg,z8,zh,zm,lQt,lQd,List.length_replicate,lQm];first|done|omega)) only [go_sem],by simp (disch:=first|omega|(simp only [lens,z6,z7,zg,z8,zh,zm,lQt,lQd,List.length_replicate,lQm];first|done|omega)) only [go_sem],by simp (disch:=first|omega|(simp only [lens,z6,z7,zg,z8,zh,zm,lQt,lQd,List.length_replicate,lQm];first|done|omega)) only [go_sem];try rfl⟩
 ·rintro m J O' ⟨i,hm,rfl,hN,q0,q1,q5⟩
  by_cases hi:i<L.length
  ·obtain⟨ex,rfl⟩:=hx.vsl (by rw [zy];omega)
   have hgi:=zh7 hi
   have hal:=zy L
   have hA:=hok L[i] (List.getElem_mem hi)
   have hst:=zom hi
   have hin:L[i] ∈ L:=List.getElem_mem hi
   have hi':(i:Int)<L.length:=by omega
   generalize hAi:L[i]=A at*
   have c41:(List.drop 1 (List.drop 33 (List.drop 7 (z2a A))))[0]? =some (.str A.q.s):=by simp only [List.getElem?_drop];exact zo4 A
   have c42:(List.drop 2 (List.drop 33 (List.drop 7 (z2a A))))[0]? =some A.x:=by simp only [List.getElem?_drop];exact zo5 A
   have cl:=zl A
   have r2:=hA.x.len
   rw [zi]at r2
   unfold z1k at r2
   rw [hN,Bool.false_or]at hst
   have hall:greatA38 A=true->L.any greatA38=true:=fun h=>List.any_eq_true.2 ⟨A,hin,h⟩
   by_cases c1:17000<A.q.s.length
   ·rw [hall (decide_eq_true (.inl c1)),Bool.true_or]
    have c1':(A.q.s.length:Int)>17000:=by omega
    repeat' (first|apply zs_|apply zb_|apply zc_|apply zt_ rfl|apply zf_ rfl|(apply zd_ rfl<;>intro ht<;>try omega)|((first|apply zr_|apply zk_|apply ze_|apply zq_|(apply zG<;>intro ht));all_goals try simp (disch:=first|omega|(simp only [lens,z6,z7,zg,z8,zh,zm,lQt,lQd,List.length_replicate,lQm];first|done|omega)) only [go_sem,q0,q1,q5,hgi,hal,c41,c42,cl,r2,hi',c1']))
    exact DownV.same hw z2c
   ·have c1':¬(A.q.s.length:Int)>17000:=by omega
    by_cases c2:10<A.q.p.length
    ·rw [hall (decide_eq_true (.inr c2)),Bool.true_or]
     have c2':(A.q.p.length:Int)>10:=by omega
     repeat' (first|apply zs_|apply zb_|apply zc_|apply zt_ rfl|apply zf_ rfl|(apply zd_ rfl<;>intro ht<;>try omega)|((first|apply zr_|apply zk_|apply ze_|apply zq_|(apply zG<;>intro ht));all_goals try simp (disch:=first|omega|(simp only [lens,z6,z7,zg,z8,zh,zm,lQt,lQd,List.length_replicate,lQm];first|done|omega)) only [go_sem,q0,q1,q5,hgi,hal,c41,c42,cl,r2,hi',c1',c2']))
     exact DownV.same hw z2c
    ·have c2':¬(A.q.p.length:Int)>10:=by omega
     rw [show greatA38 A=false from decide_eq_false (by omega)]at hst
     repeat' (first|apply zs_|apply zb_|apply zc_|apply zt_ rfl|apply zf_ rfl|(apply zd_ rfl<;>intro ht<;>try omega)|((first|apply zr_|apply zk_|apply ze_|apply zq_|(apply zG<;>intro ht));all_goals try simp (disch:=first|omega|(simp only [lens,z6,z7,zg,z8,zh,zm,lQt,lQd,List.length_replicate,lQm];first|done|omega)) only [go_sem,q0,q1,q5,hgi,hal,c41,c42,cl,r2,hi',c1',c2']))
     exact⟨m-1,by omega,i+1,by omega,hst,by simp⟩
  ·rw [List.take_of_length_le (by omega)]at hN
   rw [hN,Bool.false_or]
   have hi':¬(i:Int)<L.length:=by omega
   by_cases c:n<L.length
   ·rw [decide_eq_true c]
    have c':(L.length:Int)>n:=c
    repeat' (first|apply zs_|apply zb_|apply zc_|apply zt_ rfl|apply zf_ rfl|(apply zd_ rfl<;>intro ht<;>try omega)|((first|apply zr_|apply zk_|apply ze_|apply zq_|(apply zG<;>intro ht));all_goals try simp (disch:=first|omega|(simp only [lens,z6,z7,zg,z8,zh,zm,lQt,lQd,List.length_replicate,lQm];first|done|omega)) only [go_sem,q0,q1,q5,r1,hi',c']))
    exact DownV.same hw z2c
   ·rw [decide_eq_false c]
    have c':¬(L.length:Int)>n:=c
    repeat' (first|apply zs_|apply zb_|apply zc_|apply zt_ rfl|apply zf_ rfl|(apply zd_ rfl<;>intro ht<;>try omega)|((first|apply zr_|apply zk_|apply ze_|apply zq_|(apply zG<;>intro ht));all_goals try simp (disch:=first|omega|(simp only [lens,z6,z7,zg,z8,zh,zm,lQt,lQd,List.length_replicate,lQm];first|done|omega)) only [go_sem,q0,q1,q5,r1,hi',c']))
    exact DownV.same hw z2c
theorem CirN.app{O:Store}{p:AV}(h:CirN O p)(y:Store):CirN (O++y) p:=by
 rcases h with rfl| ⟨r,rfl,h⟩
 ·exact .inl rfl
 ·exact .inr ⟨r,rfl,by rw [gapp (slen h)];exact h⟩
end
section
def logC:List UInt8:=[108,111,103]
theorem zo9(A:ActV8):(z2a A)[0]? =some (.int .u8 A.k):=rfl
theorem zaq(A:ActV8):(z2a A)[1]? =some (.int .u8 A.a):=rfl
theorem zo7(A:ActV8):(z2a A)[2]? =some (.int .u8 A.b):=rfl
theorem mod4(k:Nat):((k:Int)).tmod 4=((k%4:Nat):Int):=by rw [Int.tmod_eq_emod_of_nonneg (by omega)];omega
theorem zoa(A:ActV8):((z2a A).drop 3).take 4=[.int .u8 A.s.1,.int .u8 A.s.2.1,.int .u8 A.s.2.2.1,.int .u8 A.s.2.2.2]:=rfl
theorem zob{x:AV}(h:ShC (.sl 45 z8u) [x]):∃L:List ActV8,SlV 45 (z3d L) x/\ L.length<=maxLen/\ ∀A ∈ L,A.Ok:=by
 simp only [ShC]at h
 rcases h with h| ⟨es,h,hl,_,h2⟩
 ·cases h
  exact⟨[],.inl ⟨rfl,rfl⟩,Nat.zero_le _,by simp⟩
 ·cases h
  have:∀es:List (List AV),(∀x ∈ es,ShC z8u x)->∃L:List ActV8,es=z3d L/\ ∀s ∈ L,s.Ok:=by
   intro es
   induction es with
   |nil=>intro _;exact⟨[],rfl,by simp⟩
   |cons e es ih=>
    intro h
    obtain⟨s,rfl,hs⟩:=zo8 (h e (by simp))
    obtain⟨L,rfl,hL⟩:=ih fun x hx=>h x (by simp [hx])
    exact⟨s::L,rfl,fun z hz=>by rcases List.mem_cons.1 hz with rfl|h;exact hs;exact hL z h⟩
  obtain⟨L,rfl,hL⟩:=this es h2
  exact⟨L,.inr ⟨false,rfl⟩,by rwa [zy]at hl,hL⟩
theorem zrq{L:List ActV8}{n:Nat}(h:z99 L n=false):L.length<=n/\ ∀A ∈ L,A.q.s.length<=17000/\ A.q.p.length<=10:=by
 unfold z99 at h
 rw [Bool.or_eq_false_iff]at h
 obtain⟨h1,h2⟩:=h
 have h3:=of_decide_eq_false h2
 refine⟨by omega,fun A hA=> ?_⟩
 have h4:=List.any_eq_false.1 h1 A hA
 unfold greatA38 at h4
 have h5:¬(17000<A.q.s.length \/10<A.q.p.length):=fun h=>h4 (decide_eq_true h)
 omega
theorem z14n{key:Hash}{PS:List (List Hdr)}{M:List MM}(hok:POks key PS)(h:MOks PS.length M)(i k:Int):MOks PS.length (z3y PS M i k):=by
 unfold z3y
 split
 ·rename_i he
  unfold tlkI at he
  by_cases ht:twoN PS.length i k=true
  ·unfold twoN at ht
   simp only [Bool.and_eq_true,Bool.not_eq_true',decide_eq_false_iff_not]at ht
   obtain⟨⟨hi,hk⟩,hne⟩:=ht
   obtain⟨a,rfl,ha⟩:=z3w hi
   obtain⟨b,rfl,hb⟩:=z3w hk
   have hp:=hok a ha
   have hpl:=hp.len
   refine h.snoc ⟨ha,hb,fun e=>hne (by rw [show a=b from e]),?_,hp.nh⟩
   rw [z6j]
   show (PS.getD a []).length<=64
   omega
  ·rw [if_neg ht]at he;cases he
 ·exact h
theorem zqe{n:Nat}{M:List MM}(h:MOks n M)(i:Int):MOks n (z3e n M i):=by
 unfold z3e
 split
 ·exact h.erase _
 ·exact h
theorem zqc{n:Nat}{M:List MM}(h:MOks n M)(i:Int):MOks n (z4x n M i):=by
 unfold z4x
 split
 ·rename_i he
  obtain⟨_,h1,h2⟩:=z74 (zb7 he)
  exact h.snoc (h _ (zbc (by omega)))
 ·exact h
theorem zfm{n:Int}{len:Nat}{m:ML}(h:z1t n len m=0):len<200:=by
 unfold z1t at h
 by_cases c:(200:Int)<=len
 ·exfalso
  split at h
  ·cases h
  ·split at h
   ·cases h
   ·split at h
    ·cases h
    ·cases h
 ·omega
theorem z14m{PS:List (List Hdr)}{M:List MM}(h:M.length<=200)(i k:Int):(z3y PS M i k).length<=200:=by
 unfold z3y
 split
 ·rename_i he
  unfold tlkI at he
  by_cases ht:twoN PS.length i k=true
  ·rw [if_pos ht]at he
   have:=zfm he
   rw [List.length_append,List.length_singleton];omega
  ·rw [if_neg ht]at he;cases he
 ·exact h
theorem zqd{n:Nat}{M:List MM}(h:M.length<=200)(i:Int):(z3e n M i).length<=200:=by
 unfold z3e
 split
 ·rw [List.length_eraseIdx];split<;>omega
 ·exact h
theorem zqa{n:Nat}{M:List MM}(h:M.length<=200)(i:Int):(z4x n M i).length<=200:=by
 unfold z4x
 split
 ·rename_i he
  have ha:=zb7 he
  unfold dblI dblS at he
  rw [List.length_map,if_pos ha]at he
  have:=zfm he
  rw [List.length_append,List.length_singleton];omega
 ·exact h
theorem z14f{PS:List (List Hdr)}{M:List MM}(h:M.length<=200)(m:MM):(z4o PS M m).length<=200:=by
 unfold z4o
 split
 ·exact h
 ·split
  ·rename_i l hk h2
   have:=zfm h2.2
   rw [List.length_append,List.length_singleton];omega
  ·exact h
theorem zk7(key:Hash)(PS:List (List Hdr))(i k:Int):(metS key PS i k).length=PS.length:=by
 unfold metS
 split
 ·exact ztl ..
 ·rfl
theorem ztn{key:Hash}{PS:List (List Hdr)}(h:POks key PS)(i k:Int):POks key (metS key PS i k):=by
 unfold metS
 split
 ·rename_i ht
  unfold twoN at ht
  simp only [Bool.and_eq_true]at ht
  obtain⟨⟨hi,hk⟩,_⟩:=ht
  obtain⟨a,rfl,ha⟩:=z3w hi
  obtain⟨b,rfl,hb⟩:=z3w hk
  exact ztm h ha hb
 ·exact h
end
section
def HLe(P Q:List Hdr):Prop:=∀n r,z18 P n r->z18 Q n r
theorem HLe.refl(P:List Hdr):HLe P P:=fun _ _ h=>h
theorem HLe.trans{P Q R:List Hdr}(h:HLe P Q)(h2:HLe Q R):HLe P R:=fun n r h3=>h2 n r (h n r h3)
theorem HLe.nil(P:List Hdr):HLe [] P:=fun n r ⟨w,hw,_⟩=>by simp at hw
theorem mem_hns{P:List Hdr}{n:Int}{r:Hash}:(n,r) ∈ hns P ↔ z18 P n r:=by
 unfold hns z18
 rw [List.mem_map]
 constructor
 ·rintro⟨q,hq,e⟩
  injection e with e1 e2
  exact⟨q,hq,e1,e2⟩
 ·rintro⟨q,hq,e1,e2⟩
  exact⟨q,hq,by rw [e1,e2]⟩
theorem zei{α:Type}[DecidableEq α]:∀{l m:List α},l.Nodup->(∀x ∈ l,x ∈ m)->l.length<=m.length
 | [],m,_,_=>Nat.zero_le _
 |a::l,m,h,hs=>by
  have h1:=hs a (by simp)
  obtain⟨hn,hd⟩:=List.nodup_cons.1 h
  have:=zei (l:=l) (m:=m.erase a) hd fun x hx=>(List.mem_erase_of_ne (fun e=>hn (by rw [<-e];exact hx))).2 (hs x (by simp [hx]))
  rw [List.length_erase_of_mem h1]at this
  have:=List.length_pos_of_mem h1
  rw [List.length_cons];omega
theorem ze0:∀{P:List Hdr},PSort P->(hns P).Nodup
 | [],_=>by simp [hns]
 |q::P,h=>by
  have ih:=ze0 h.tail
  unfold hns at ih ⊢
  rw [List.map_cons,List.nodup_cons]
  refine⟨fun hm=> ?_,ih⟩
  obtain⟨w,hw,e⟩:=List.mem_map.1 hm
  injection e with e1 e2
  have a:=h.head hw
  rw [e1,e2]at a
  have:poI q.n q.r q.n q.r=0:=po_zero.2 ⟨rfl,rfl⟩
  omega
theorem HLe.len{P Q:List Hdr}(hP:PSort P)(h:HLe P Q):P.length<=Q.length:=by
 have:=zei (ze0 hP) (m:=hns Q) fun x hx=>mem_hns.2 (h x.1 x.2 (mem_hns.1 hx))
 rwa [z6j,z6j]at this
theorem HLe.lt{P Q:List Hdr}(hP:PSort P)(h:HLe P Q){n:Int}{r:Hash}(hQ:z18 Q n r)(hn:¬z18 P n r):P.length<Q.length:=by
 have hd:((n,r)::hns P).Nodup:=List.nodup_cons.2 ⟨fun hm=>hn (mem_hns.1 hm),ze0 hP⟩
 have:=zei hd (m:=hns Q) fun x hx=>by
  rcases List.mem_cons.1 hx with rfl|h2
  ·exact mem_hns.2 hQ
  ·exact mem_hns.2 (h x.1 x.2 (mem_hns.1 h2))
 rw [List.length_cons,z6j,z6j]at this;omega
theorem z6e(key:Hash)(P:List Hdr)(q:Hdr):HLe P (addL key P q):=fun n r ⟨w,hw,h⟩=>by
 unfold addL
 split
 ·exact⟨w,insL_mem.2 (.inr hw),h⟩
 ·exact⟨w,hw,h⟩
theorem zcw{key:Hash}{P:List Hdr}{q:Hdr}{n:Int}{r:Hash}(h:z18 (addL key P q) n r):z18 P n r \/(q.n=n/\ q.r=r/\ z1j key q.n q.i q.r q.s q.p=0):=by
 obtain⟨w,hw,h1,h2⟩:=h
 rcases zhe hw with h3| ⟨rfl,h3⟩
 ·exact .inl ⟨w,h3,h1,h2⟩
 ·exact .inr ⟨h1,h2,h3⟩
theorem zhd{key:Hash}{P:List Hdr}(hP:POk key P){q:Hdr}(hq:z1j key q.n q.i q.r q.s q.p=0)(hf:addC key P q ≠ 4):z18 (addL key P q) q.n q.r:=by
 cases h1:isP P q.n q.r with
 |true=>exact z6e key P q _ _ ((z6k hP.sort _ _).1 h1)
 |false=>
  by_cases h2:16<=P.length
  ·exfalso;apply hf;unfold addC;rw [if_neg (by omega),if_neg (by rw [h1];simp),if_pos h2]
  ·exact((zcy q hP hq (by omega)).2.2 _ _).2 (.inr ⟨rfl,rfl⟩)
theorem zar{key:Hash}{P A:List Hdr}{q:Hdr}(h:HLe P A)(hq:z1j key q.n q.i q.r q.s q.p=0->z18 A q.n q.r):HLe (addL key P q) A:=fun n r hh=>by
 rcases zcw hh with h1| ⟨rfl,rfl,h1⟩
 ·exact h _ _ h1
 ·exact hq h1
theorem z71(key:Hash):∀(l P:List Hdr),HLe P (z1b key P l)
 | [],P=>HLe.refl P
 |q::l,P=>(z6e key P q).trans (z71 key l (addL key P q))
theorem zas{key:Hash}{A:List Hdr}:∀{l P:List Hdr},HLe P A->(∀q ∈ l,z18 A q.n q.r)->HLe (z1b key P l) A
 | [],P,h,_=>h
 |q::l,P,h,hl=>zas (l:=l) (P:=addL key P q) (zar h fun _=>hl q (by simp)) fun w hw=>hl w (by simp [hw])
theorem z9k{P:List Hdr}{K:List NH}{q:Hdr}(h:q ∈ z13 P K):z18 P q.n q.r:=⟨q,(z6m h).1,rfl,rfl⟩
theorem zok{key:Hash}{P A:List Hdr}(hP:POk key P)(hA:A.length<=16)(h:HLe P A){q:Hdr}(hq:z1j key q.n q.i q.r q.s q.p=0)(hqA:z18 A q.n q.r):addC key P q ≠ 4:=by
 intro e
 have h1:isP P q.n q.r=false:=by
  cases h1:isP P q.n q.r with
  |false=>rfl
  |true=>unfold addC at e;rw [if_neg (by omega),if_pos h1]at e;omega
 have hn:¬z18 P q.n q.r:=fun hh=>by rw [(z6k hP.sort _ _).2 hh]at h1;cases h1
 have:=h.lt hP.sort hqA hn
 unfold addC at e
 rw [if_neg (by omega),if_neg (by rw [h1];simp),if_neg (by omega)]at e
 split at e<;>omega
theorem add_in{key:Hash}{P A:List Hdr}(hP:POk key P)(hA:A.length<=16)(h:HLe P A){q:Hdr}(hq:z1j key q.n q.i q.r q.s q.p=0)(hqA:z18 A q.n q.r)(n:Int)(r:Hash):z18 (addL key P q) n r ↔ z18 P n r \/(q.n=n/\ q.r=r):=by
 constructor
 ·intro hh
  rcases zcw hh with h1| ⟨h1,h2,_⟩
  ·exact .inl h1
  ·exact .inr ⟨h1,h2⟩
 ·rintro(h1| ⟨rfl,rfl⟩)
  ·exact z6e key P q _ _ h1
  ·exact zhd hP hq (zok hP hA h hq hqA)
theorem zcz{key:Hash}{A:List Hdr}(hA:A.length<=16):∀{l P:List Hdr},POk key P->HLe P A->(∀q ∈ l,z1j key q.n q.i q.r q.s q.p=0/\ z18 A q.n q.r)->∀n r,z18 (z1b key P l) n r ↔ z18 P n r \/z18 l n r
 | [],P,_,_,_,n,r=>⟨.inl,fun h=>h.elim id fun⟨w,hw,_⟩=>by simp at hw⟩
 |q::l,P,hP,h,hl,n,r=>by
  obtain⟨h1,h2⟩:=hl q (by simp)
  have ih:=zcz hA (l:=l) (hP.add q) (zar h fun _=>h2) (fun w hw=>hl w (by simp [hw])) n r
  rw [show z1b key P (q::l)=z1b key (addL key P q) l from rfl,ih,add_in hP hA h h1 h2,or_assoc]
  refine or_congr_right ⟨?_,?_⟩
  ·rintro(⟨e1,e2⟩| ⟨w,hw,h3⟩)
   ·exact⟨q,by simp,e1,e2⟩
   ·exact⟨w,by simp [hw],h3⟩
  ·rintro⟨w,hw,h3⟩
   rcases List.mem_cons.1 hw with rfl|hw
   ·exact .inl h3
   ·exact .inr ⟨w,hw,h3⟩
def z2r(P Q:List Hdr):Nat:=(Q.filter (z21 (hns P))).length
theorem ze6(P Q:List Hdr):z2r P Q<=Q.length:=List.length_filter_le _ _
theorem zjy{key:Hash}{P Q:List Hdr}(hQ:POk key Q)(h:z2r P Q=0):HLe Q P:=by
 rintro n r ⟨w,hw,rfl,rfl⟩
 have h1:=List.eq_nil_of_length_eq_zero h
 rw [List.filter_eq_nil_iff]at h1
 have h2:=h1 w hw
 unfold z21 at h2
 rw [hQ.val w hw]at h2
 simp at h2
 exact mem_hns.1 h2
theorem zka{P Q:List Hdr}(h:z13 Q (hns P)=[]):z2r P Q=0:=by
 have:=congrArg List.length h
 unfold z13 at this
 rw [List.length_take]at this
 unfold z2r
 simp at this
 simp
 exact this
theorem zjx{P P' Q:List Hdr}(h:HLe P P')(hX:HLe (z13 Q (hns P)) P'):z2r P' Q<=z2r P Q-3:=by
 have e:Q.filter (z21 (hns P'))=(Q.filter (z21 (hns P))).filter (z21 (hns P')):=by
  rw [List.filter_filter]
  refine List.filter_congr fun q hq=> ?_
  unfold z21
  by_cases hp:(q.n,q.r) ∈ hns P'
  ·simp [hp]
  ·have:(q.n,q.r) ∉ hns P:=fun h2=>hp (mem_hns.2 (h _ _ (mem_hns.1 h2)))
   simp [hp,this]
 unfold z2r
 rw [e]
 have hx:(z13 Q (hns P)).filter (z21 (hns P'))=[]:=by
  rw [List.filter_eq_nil_iff]
  intro q hq
  have:=mem_hns.2 (hX q.n q.r ⟨q,hq,rfl,rfl⟩)
  unfold z21
  simp [this]
 unfold z13 at hx
 rw [show (Q.filter (z21 (hns P))).filter (z21 (hns P'))=((Q.filter (z21 (hns P))).take 3++(Q.filter (z21 (hns P))).drop 3).filter (z21 (hns P'))by rw [List.take_append_drop],List.filter_append,hx,List.nil_append]
 have:=List.length_filter_le (z21 (hns P')) ((Q.filter (z21 (hns P))).drop 3)
 rw [List.length_drop]at this
 exact this
theorem z9n(key:Hash)(Q:List Hdr):∀(f:Nat) (P:List Hdr) (n:Nat),HLe P (z1f key f P Q n).2
 | 0,P,n=>HLe.refl P
 |f+1,P,n=>by
  unfold z1f
  split
  ·exact HLe.refl P
  ·split
   ·exact z71 key (z13 Q (hns P)) P
   ·exact HLe.trans (z71 key (z13 Q (hns P)) P) (z9n key Q f _ _)
theorem z89{key:Hash}{Q A:List Hdr}(hQ:HLe Q A):∀{f:Nat} {P:List Hdr} {n:Nat},HLe P A->HLe (z1f key f P Q n).2 A
 | 0,P,n,h=>h
 |f+1,P,n,h=>by
  have h2:HLe (z1b key P (z13 Q (hns P))) A:=zas h fun q hq=>hQ _ _ (z9k hq)
  unfold z1f
  split
  ·exact h
  ·split
   ·exact h2
   ·exact z89 hQ h2
theorem zet{key:Hash}{Q A:List Hdr}(hA:A.length<=16)(hQ:POk key Q)(hQA:HLe Q A):∀{f:Nat} {P:List Hdr} (n:Nat),POk key P->HLe P A->z2r P Q<f->HLe Q (z1f key f P Q n).2
 | 0,P,n,_,_,h=>by omega
 |f+1,P,n,hP,h,hf=>by
  have hXa:∀q ∈ z13 Q (hns P),z1j key q.n q.i q.r q.s q.p=0/\ z18 A q.n q.r:=fun q hq=>⟨hQ.chk q (z6m hq).1,hQA _ _ (z9k hq)⟩
  have hin:=zcz hA hP h hXa
  have h2:HLe (z1b key P (z13 Q (hns P))) A:=zas h fun q hq=>hQA _ _ (z9k hq)
  unfold z1f
  split
  ·rename_i h0
   exact zjy hQ (zka h0)
  ·rename_i h0
   split
   ·rename_i he
    exfalso
    obtain⟨q,hq⟩:=List.exists_mem_of_ne_nil _ h0
    have h3:z18 (z1b key P (z13 Q (hns P))) q.n q.r:=(hin _ _).2 (.inr ⟨q,hq,rfl,rfl⟩)
    have h4:¬z18 P q.n q.r:=fun hh=>(z6m hq).2.2 (mem_hns.2 hh)
    have:=HLe.lt hP.sort (z71 key (z13 Q (hns P)) P) h3 h4
    omega
   ·have h5:=zjx (P:=P) (Q:=Q) (z71 key (z13 Q (hns P)) P) fun n r hh=>(hin n r).2 (.inr hh)
    have h6:0<z2r P Q:=by
     have:=List.length_pos_iff.2 h0
     unfold z13 at this
     rw [List.length_take]at this
     unfold z2r;omega
    exact zet hA hQ hQA _ (z73 hP _) h2 (by omega)
theorem met_in{key:Hash}{PS:List (List Hdr)}{A:List Hdr}(hA:A.length<=16)(hok:POks key PS)(hle:∀j,j<PS.length->HLe (PS.getD j []) A){i k:Nat}(hi:i<PS.length)(hk:k<PS.length)(hik:i ≠ k):
  (∀n r,z18 ((metN key PS i k).2.getD i []) n r ↔ z18 (PS.getD i []) n r \/z18 (PS.getD k []) n r) ∧
  (∀n r,z18 ((metN key PS i k).2.getD k []) n r ↔ z18 (PS.getD i []) n r \/z18 (PS.getD k []) n r) ∧
  ∀j,j ≠ i->j ≠ k->(metN key PS i k).2.getD j []=PS.getD j []:=by
 have ha:=hok i hi
 have hb:=hok k hk
 have la:=hle i hi
 have lb:=hle k hk
 have hna:z2r (PS.getD i []) (PS.getD k [])<17:=by have:=ze6 (PS.getD i []) (PS.getD k []);have:=hb.len;omega
 have p1:=z9n key (PS.getD k []) 17 (PS.getD i []) 1
 have p2:=zet hA hb lb 1 ha la hna
 have ok1:=z7k key (PS.getD k []) 17 1 ha
 have le1:HLe (z1f key 17 (PS.getD i []) (PS.getD k []) 1).2 A:=z89 lb la
 have f1:∀B,HLe (PS.getD i []) B->HLe (PS.getD k []) B->HLe (z1f key 17 (PS.getD i []) (PS.getD k []) 1).2 B:=fun B h1 h2=>z89 h2 h1
 have e2:(metN key PS i k).2=(PS.set i (z1f key 17 (PS.getD i []) (PS.getD k []) 1).2).set k (z1f key 17 (PS.getD k []) (z1f key 17 (PS.getD i []) (PS.getD k []) 1).2 1).2:=rfl
 rw [e2]
 generalize (z1f key 17 (PS.getD i []) (PS.getD k []) 1).2=R at*
 have hnb:z2r (PS.getD k []) R<17:=by have:=ze6 (PS.getD k []) R;have:=ok1.len;omega
 have q1:=z9n key R 17 (PS.getD k []) 1
 have q2:=zet hA ok1 le1 1 hb lb hnb
 have f2:∀B,HLe (PS.getD k []) B->HLe R B->HLe (z1f key 17 (PS.getD k []) R 1).2 B:=fun B h1 h2=>z89 h2 h1
 generalize (z1f key 17 (PS.getD k []) R 1).2=S at*
 have hU:∀n r,z18 R n r ↔ z18 (PS.getD i []) n r \/z18 (PS.getD k []) n r:=by
  intro n r
  constructor
  ·intro h
   have hle2:=f1 (PS.getD i []++PS.getD k []) (fun n r ⟨w,hw,h⟩=>⟨w,by simp only [List.mem_append];exact .inl hw,h⟩) (fun n r ⟨w,hw,h⟩=>⟨w,by simp only [List.mem_append];exact .inr hw,h⟩)
   obtain⟨w,hw,h3⟩:=hle2 n r h
   rcases List.mem_append.1 hw with h4|h4
   ·exact .inl ⟨w,h4,h3⟩
   ·exact .inr ⟨w,h4,h3⟩
  ·rintro(h|h)
   ·exact p1 n r h
   ·exact p2 n r h
 refine⟨fun n r=> ?_,fun n r=> ?_,fun j h1 h2=> ?_⟩
 ·rw [show ((PS.set i R).set k S).getD i []=R by rw [List.getD_eq_getElem?_getD,List.getElem?_set_ne (fun e=>hik e.symm)];simp [hi]]
  exact hU n r
 ·rw [show ((PS.set i R).set k S).getD k []=S by simp [List.getD,hk]]
  constructor
  ·intro h
   exact(hU n r).1 (f2 R (fun n r h=>(hU n r).2 (.inr h)) (HLe.refl R) n r h)
  ·intro h
   exact q2 n r ((hU n r).2 h)
 ·rw [List.getD_eq_getElem?_getD,List.getD_eq_getElem?_getD,List.getElem?_set_ne (fun e=>h2 e.symm),List.getElem?_set_ne (fun e=>h1 e.symm)]
end
end Am
end Go.Proofs.YtcdcmgjnbjoajaaGreatDoor
