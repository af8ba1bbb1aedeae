import Derived.Test.YtfldkpghggbdkaaGreatDoorK3f5e37c96
import Derived.Test.YtfldkpghggbdkaaGreatDoorK298eb74a9
set_option linter.unusedSimpArgs false
set_option linter.unusedVariables false
open Nat (reduceEqDiff reduceAdd reduceMul reduceSub reduceLeDiff)
open Int (reduceToNat reducePow)
open Nat renaming reduceEqDiff -> nQ1, reduceBEq -> nQ2, reduceAdd -> nQ3, reduceMul -> nQ4, reduceSub -> nQ5, reduceLeDiff -> nQ6
open Int renaming reduceToNat -> nQ7, reducePow -> nQ8
open List renaming length_reverse -> lQr, length_map -> lQm, length_take -> lQt, length_drop -> lQd, length_set -> lQs
set_option maxHeartbeats 16000000
attribute [local go_sem_proc] Nat.reduceEqDiff Nat.reduceBEq Nat.reduceAdd Nat.reduceMul Nat.reduceSub Nat.reduceLeDiff Int.reduceToNat Int.reducePow
namespace Go.Proofs.YtfldkpghggbdkaaGreatDoor
namespace Am
section
theorem ACallsP.toDown{C:Ctx}{f:FuncId}{args:List AV}{J J2:Store}{v2:AV}{P:AV->Store->Prop}(h:ACallsP C f args J P)
  (hd:Wf J.length J->∀v J',P v J'->DownV J.length v J' v2 J2):ACallsTo C f args J v2 J2:=by
 intro γ w cargs hR ha
 rcases h γ w cargs hR ha with⟨h1,h2⟩| ⟨cv,v,γ',J',w',h1,hp,h2,h3,h4⟩
 ·refine .inl ⟨h1,h2.mono ?_⟩
  rintro e w' ⟨cv,v,γ',J',rfl,hp,k1,k2,k3⟩
  obtain⟨γ2,q1,q2,q3⟩:=(hd hR.wf v J' hp).sound k2 k3 k1 hR.gl (by rw [hR.len];exact Nat.le_refl _)
  exact⟨cv,γ2,rfl,q1,q2,q3⟩
 ·obtain⟨γ2,q1,q2,q3⟩:=(hd hR.wf v J' hp).sound h3 h4 h2 hR.gl (by rw [hR.len];exact Nat.le_refl _)
  exact .inr ⟨cv,γ2,w',h1,q1,q2,q3⟩
theorem slen{J:Store}{r:Nat}{x:Option AObj}(h:J[r]? =some x):r<J.length:=(List.getElem?_eq_some_iff.1 h).1
def FrzD(τ news:Store):DC:=z2j τ news [] id (fun _=>true)
theorem DownV.all{τ news:Store}{v v2:AV}(hw:Wf τ.length τ)(h:DR (FrzD τ news) v2 v):DownV τ.length v (τ++news) v2 τ:=
 ⟨FrzD τ news,rfl,by show DownS τ.length (z2j τ news [] id (fun _=>true)) τ;simpa using zaq (kept:=[]) (idx:=id) (fzl:=fun _=>true) (news:=news) hw (by simp) (by simp) (by simp) (by simp),h⟩
theorem FrzD.same{τ news:Store}{v:AV}(h:RL τ.length v):DR (FrzD τ news) v v:=DR.refl (z6c _ _ _) v h
theorem FrzD.sl{τ news:Store}{r off:Nat}{lim:Option Nat}{esz:Nat}{o es:AObj}(hk:τ.length<=r)(ho:(τ++news)[r]? =some (some o))(hl:off+es.length<=o.length)(he:(o.drop off).take es.length=es)(hr:RLss τ.length es):
  DR (FrzD τ news) (.vsl esz es false) (.sl r off es.length lim esz):=by
 simp only [DR,FrzD,z2j]
 right
 left
 exact⟨r,off,lim,o,rfl,by simpa using hk,ho,hl,by simp,by rw [he];exact DRss.refl (z6c [] id (fun _=>true)) _ hr⟩
theorem drA{D:DC}{a b:List AV}(h:DRs D a b):DR D (.agg a) (.agg b):=by simp only [DR];exact⟨b,rfl,h⟩
theorem drT{D:DC}{a b:List AV}(h:DRs D a b):DR D (.tup a) (.tup b):=by simp only [DR];exact⟨b,rfl,h⟩
theorem OwnN.frz{sz:Nat}{τ news:Store}{v:AV}{es:List (List AV)}(h:OwnN sz τ (τ++news) v es)(hr:RLss τ.length es):DR (FrzD τ news) (z15 sz es) v:=by
 by_cases h0:es=[]
 ·obtain⟨n2,_,⟨rfl,rfl⟩| ⟨j,h1,_⟩⟩:=h
  ·simp [z15,DR]
  ·exact absurd h0 h1
 ·obtain⟨r,rfl,hg,hk⟩:=h.sl h0
  unfold z15
  rw [if_neg h0]
  exact FrzD.sl hk hg (by omega) (by simp) hr
def lkp:List (Nat × AV)->Env
 | [],_=> .any
 |(a,v)::l,t=>bif t==a then v else lkp l t
@[go_sem] theorem lkp_cons {a t:Nat} {v:AV} {l:List (Nat × AV)}:lkp ((a,v)::l) t=bif t==a then v else lkp l t:=rfl
def OwnE(sz:Nat)(τ J':Store)(v:AV)(es:List (List AV)):Prop:=OwnN sz τ J' v es \/(es=[]/\ v= .vsl sz [] true/\ ∃news,J'=τ++news)
theorem OwnE.ext{sz:Nat}{τ J':Store}{v:AV}{es:List (List AV)}(h:OwnE sz τ J' v es):∃news,J'=τ++news:=by
 rcases h with h| ⟨_,_,h⟩
 ·exact h.ext
 ·exact h
theorem OwnE.rd{sz:Nat}{τ J':Store}{v:AV}{es:List (List AV)}(h:OwnE sz τ J' v es):RdSl J' sz es v:=by
 rcases h with h| ⟨rfl,rfl,_⟩
 ·exact h.rd
 ·exact .inl (.inr ⟨true,rfl⟩)
theorem OwnE.len{sz:Nat}{τ J':Store}{v:AV}{es:List (List AV)}(h:OwnE sz τ J' v es):z1h v=some (.int .i64 es.length):=h.rd.len
theorem OwnE.app{sz:Nat}{τ J':Store}{v:AV}{es ys:List (List AV)}(h:OwnE sz τ J' v es)(h0:ys.length ≠ 0)(hl:es.length+ys.length<=1073741824):
  ∃v' J'',aApp J' sz v ys=some (v',J'')/\ OwnN sz τ J'' v' (es++ys):=by
 rcases h with h| ⟨rfl,rfl,news,rfl⟩
 ·exact h.app h0 hl
 ·refine⟨.sl (τ++news).length 0 ys.length none sz,(τ++news)++ [some ys],by rw [z8e,if_neg h0,if_pos ⟨rfl,rfl,hl⟩];simp,news++ [some ys],by rw [List.append_assoc],.inr ⟨news.length,?_,by simp,by rw [List.getElem?_append_right (Nat.le_refl _)];simp⟩⟩
  intro e;exact h0 (by rw [(List.append_eq_nil_iff.1 e).2];rfl)
theorem RdSl.elems{J:Store}{sz:Nat}{es:List (List AV)}{x:AV}(h:RdSl J sz es x):z2h J x=some es:=by
 rcases h with(⟨rfl,rfl⟩| ⟨ex,rfl⟩)| ⟨r,off,lim,o,rfl,hg,h1,h2⟩
 ·rfl
 ·rfl
 ·rw [zec,hg];simp only;rw [if_pos h1,h2]
theorem zk0(J:Store)(l:List Hash)(x:AV)(hx:RdSl J 32 (hr l) x)(hl:l.length<1000000):
  ACallsP TC 93 [x] J (fun v J'=>OwnE 32 J J' v (hr l)/\ (x= .nilsl ↔ v= .nilsl)):=by
 rcases hx with(⟨rfl,hnil⟩| ⟨ex,rfl⟩)| ⟨r,off,lim,o,rfl,hg,h1,h2⟩
 ·refine ACallsTo.toP (v:= .nilsl) (J':=J) ?_ ⟨.inl ⟨[],by simp,.inl ⟨hnil,rfl⟩⟩,Iff.rfl⟩
  refine ACallsTo.of_body qwok (by simp) fun hw _=> ?_
  repeat' (first|apply zs_|apply zb_|apply zc_|apply zt_ rfl|apply zf_ rfl|(refine zd_ rfl ?_ ?_<;>intro ht<;>try omega)|((first|apply zr_|apply zk_|apply ze_|apply zq_|(apply zG<;>intro ht));all_goals try simp (disch:=first|omega|(simp only [lens];first|done|omega)) only [go_sem]))
  exact DownV.same hw (zz _ rfl)
 ·by_cases h0:l=[]
  ·subst h0
   refine ACallsTo.toP (v:= .vsl 32 [] true) (J':=J) ?_ ⟨.inr ⟨rfl,rfl,[],by simp⟩,by simp⟩
   refine ACallsTo.of_body qwok (by simp) fun hw _=> ?_
   rw [zh8]
   repeat' (first|apply zs_|apply zb_|apply zc_|apply zt_ rfl|apply zf_ rfl|(refine zd_ rfl ?_ ?_<;>intro ht<;>try omega)|((first|apply zr_|apply zk_|apply ze_|apply zq_|(apply zG<;>intro ht));all_goals try simp (disch:=first|omega|(simp only [lens];first|done|omega)) only [go_sem]))
   exact DownV.same hw (zz _ rfl)
  ·have hne:¬l.length=0:=fun e=>h0 (List.eq_nil_of_length_eq_zero e)
   refine ACallsP.of_keep qwok (by simp) ?_
   repeat' (first|apply zs_|apply zb_|apply zc_|apply zt_ rfl|apply zf_ rfl|(refine zd_ rfl ?_ ?_<;>intro ht<;>try omega)|((first|apply zr_|apply zk_|apply ze_|apply zq_|(apply zG<;>intro ht));all_goals try simp (disch:=first|omega|(simp only [lens];first|done|omega)) only [go_sem,hne,z8e]))
   refine .inl ⟨[some (hr l)],by simp,.inr ⟨0,by rw [Ne,hr_nil_iff];exact h0,?_,by simp⟩⟩
   simp [z7]
 ·have hrl:=z7 l
  by_cases h0:l=[]
  ·subst h0
   refine ACallsTo.toP (v:= .vsl 32 [] true) (J':=J) ?_ ⟨.inr ⟨rfl,rfl,[],by simp⟩,by simp⟩
   refine ACallsTo.of_body qwok (by simp) fun hw _=> ?_
   rw [zh8]at*
   repeat' (first|apply zs_|apply zb_|apply zc_|apply zt_ rfl|apply zf_ rfl|(refine zd_ rfl ?_ ?_<;>intro ht<;>try omega)|((first|apply zr_|apply zk_|apply ze_|apply zq_|(apply zG<;>intro ht));all_goals try simp (disch:=first|omega|(simp only [lens];first|done|omega)) only [go_sem,hg,zec,h1,h2]))
   exact DownV.same hw (zz _ rfl)
  ·have hne:¬l.length=0:=fun e=>h0 (List.eq_nil_of_length_eq_zero e)
   rw [hrl]at h1 h2
   refine ACallsP.of_keep qwok (by simp) ?_
   repeat' (first|apply zs_|apply zb_|apply zc_|apply zt_ rfl|apply zf_ rfl|(refine zd_ rfl ?_ ?_<;>intro ht<;>try omega)|((first|apply zr_|apply zk_|apply ze_|apply zq_|(apply zG<;>intro ht));all_goals try simp (disch:=first|omega|(simp only [lens];first|done|omega)) only [go_sem,hg,hne,z8e,zec,h1,h2]))
   refine .inl ⟨[some (hr l)],by simp,.inr ⟨0,by rw [Ne,hr_nil_iff];exact h0,?_,by simp⟩⟩
   simp [z7]
end
section
theorem z7b{l:List Hash}{i:Nat}(h:i<l.length):l.take (i+1)=l.take i++ [hd l i]:=by
 rw [z90 h];exact(List.take_append_getElem h).symm
end
section
def Ext(J J':Store):Prop:=∃news,J'=J++news
theorem Ext.refl(J:Store):Ext J J:=⟨[],by simp⟩
theorem Ext.app{J J' y:Store}(h:Ext J J'):Ext J (J'++y):=by
 obtain⟨n,rfl⟩:=h
 exact⟨n++y,by rw [List.append_assoc]⟩
theorem Ext.set{J J':Store}{r:Nat}{x:Option AObj}(h:Ext J J')(hr:J.length<=r):Ext J (J'.set r x):=by
 obtain⟨n,rfl⟩:=h
 exact⟨n.set (r-J.length) x,List.set_append_right _ _ hr⟩
theorem Ext.trans{J J' J'':Store}(h:Ext J J')(h':Ext J' J''):Ext J J'':=by
 obtain⟨n,rfl⟩:=h
 obtain⟨m,rfl⟩:=h'
 exact⟨n++m,by rw [List.append_assoc]⟩
theorem Ext.le{J J':Store}(h:Ext J J'):J.length<=J'.length:=by
 obtain⟨n,rfl⟩:=h;simp
theorem zW.once{C:Ctx}{n k:Nat}{Q:AExit->Env->Store->Prop}{ρ:Env}{J:Store}{x:ACode}(h:zW C n k x (z2r (fun _ _=>False) Q) ρ J):zW C n k (.loop x) Q ρ J:=
 zW.loop (fun _ ρ' J'=>ρ'=ρ/\ J'=J) 0 ⟨rfl,rfl⟩ (by
  rintro m _ _ ⟨rfl,rfl⟩
  refine h.mono fun e ρ J h=> ?_
  cases e
  ·exact h.elim
  ·exact h
  ·exact h)
end
section
def knil(es:List (List AV)):AV->AV
 | .nilsl=> .nilsl
 | _=> .vsl 32 es false
theorem zhg{es:List (List AV)}{x:AV}(h:x ≠ .nilsl):knil es x= .vsl 32 es false:=by
 cases x<;>first|rfl|exact absurd rfl h
theorem zk1(J:Store)(l:List Hash)(x:AV)(hx:RdSl J 32 (hr l) x)(hl:l.length<1000000):
  ACallsTo TC 93 [x] J (knil (hr l) x) J:=by
 refine ACallsP.toDown (zk0 J l x hx hl) fun hw v J' h=> ?_
 obtain⟨h,hn⟩:=h
 obtain⟨y,rfl⟩:=h.ext
 refine DownV.all hw ?_
 by_cases h0:x= .nilsl
 ·rw [hn.1 h0,h0];simp [knil,DR]
 ·have hv:v ≠ .nilsl:=fun e=>h0 (hn.2 e)
  rw [zhg h0]
  rcases h with h| ⟨h1,rfl,_⟩
  ·have h2:=h.frz (z1w l)
   unfold z15 at h2
   split at h2
   ·simp only [DR]at h2;exact absurd h2 hv
   ·exact h2
  ·rw [h1]
   simp only [DR]
   exact .inl ⟨_,_,rfl,by simp,by simp [DRss]⟩
theorem Ext.pure{J J':Store}{v:AV}(hw:Wf J.length J)(h:Ext J J')(hv:RL J.length v):DownV J.length v J' v J:=by
 obtain⟨n,rfl⟩:=h
 exact DownV.pure hw hv
def zv(x:AV)(first:Bool)(l:List Hash):AV:=if first then knil (hr l) x else .vsl 32 (hr l) false
def rg(n:Int)(z:AV)(e:Int):AV:= .tup [.agg [.int .i64 n,z],.int .i64 e]
attribute [local irreducible] ACallsTo ACallsP
end
section
def zd3:Nat->List AV:=fun n=>[.int .i64 n]
def nums(l:List (Nat)):List (List AV):=l.map zd3
@[go_sem] theorem nums_len (l:List (Nat)):(nums l).length=l.length:=by simp [nums]
@[go_sem] theorem nums_take (l:List (Nat)) (n:Nat):(nums l).take n=nums (l.take n):=by simp [nums,List.map_take]
@[go_sem] theorem nums_drop (l:List (Nat)) (n:Nat):(nums l).drop n=nums (l.drop n):=by simp [nums,List.map_drop]
@[go_sem] theorem nums_set (l:List (Nat)) (i:Nat) (x:Nat):(nums l).set i (zd3 x)=nums (l.set i x):=by simp [nums,List.map_set]
def numsD(l:List (Nat))(i:Nat):Nat:=l.getD i 0
@[go_sem] theorem nums_get {l:List (Nat)} {i:Nat} (h:i<l.length):(nums l)[i]? =some (zd3 (numsD l i)):=by
 simp [nums,numsD,List.getElem?_map,List.getElem?_eq_getElem h]
def trsR:Nat × Hash->List AV:=fun t=> .int .i64 t.1::hc t.2
def trs(l:List (Nat × Hash)):List (List AV):=l.map trsR
@[go_sem] theorem trs_len (l:List (Nat × Hash)):(trs l).length=l.length:=by simp [trs]
@[go_sem] theorem trs_take (l:List (Nat × Hash)) (n:Nat):(trs l).take n=trs (l.take n):=by simp [trs,List.map_take]
@[go_sem] theorem trs_drop (l:List (Nat × Hash)) (n:Nat):(trs l).drop n=trs (l.drop n):=by simp [trs,List.map_drop]
@[go_sem] theorem trs_set (l:List (Nat × Hash)) (i:Nat) (x:Nat × Hash):(trs l).set i (trsR x)=trs (l.set i x):=by simp [trs,List.map_set]
def trsD(l:List (Nat × Hash))(i:Nat):Nat × Hash:=l.getD i (0,zeroH)
@[go_sem] theorem trs_get {l:List (Nat × Hash)} {i:Nat} (h:i<l.length):(trs l)[i]? =some (trsR (trsD l i)):=by
 simp [trs,trsD,List.getElem?_map,List.getElem?_eq_getElem h]
theorem RdSl.frz{sz:Nat}{τ news:Store}{v:AV}{es:List (List AV)}(h:RdSl (τ++news) sz es v)(hn:∀r off len lim e,v= .sl r off len lim e->τ.length<=r)(hr:RLss τ.length es):∃v2,SlV sz es v2/\ DR (FrzD τ news) v2 v:=by
 rcases h with(⟨rfl,rfl⟩| ⟨ex,rfl⟩)| ⟨r,off,lim,o,rfl,hg,h1,h2⟩
 ·exact⟨.nilsl,.inl ⟨rfl,rfl⟩,by simp [DR]⟩
 ·exact⟨.vsl sz es ex,.inr ⟨ex,rfl⟩,FrzD.same (by simpa only [RL]using hr)⟩
 ·exact⟨.vsl sz es false,.inr ⟨false,rfl⟩,FrzD.sl (hn _ _ _ _ _ rfl) hg h1 h2 hr⟩
theorem Ext.all{J J':Store}{v v2:AV}(hw:Wf J.length J)(he:Ext J J')(h:∀news,J'=J++news->DR (FrzD J news) v2 v):DownV J.length v J' v2 J:=by
 obtain⟨news,rfl⟩:=he
 exact DownV.all hw (h news rfl)
def OwnR(sz k:Nat)(J':Store)(v:AV)(es:List (List AV)):Prop:=(es=[]/\ v= .nilsl) \/ ∃r,k<=r/\ es ≠ []/\ v= .sl r 0 es.length none sz/\ J'[r]? =some (some es)
theorem OwnR.nil{sz k:Nat}{J':Store}:OwnR sz k J' .nilsl []:= .inl ⟨rfl,rfl⟩
theorem OwnR.cells{sz k:Nat}{J':Store}{v:AV}{es:List (List AV)}(h:OwnR sz k J' v es):cellsOf v=some [v]:=by
 rcases h with⟨_,rfl⟩| ⟨r,_,_,rfl,_⟩<;>rfl
theorem OwnR.rd{sz k:Nat}{J':Store}{v:AV}{es:List (List AV)}(h:OwnR sz k J' v es):RdSl J' sz es v:=by
 rcases h with⟨h,rfl⟩| ⟨r,_,_,rfl,hg⟩
 ·exact .inl (.inl ⟨rfl,h⟩)
 ·exact .inr ⟨r,0,none,es,rfl,hg,by omega,by simp⟩
theorem OwnR.len{sz k:Nat}{J':Store}{v:AV}{es:List (List AV)}(h:OwnR sz k J' v es):z1h v=some (.int .i64 es.length):=h.rd.len
theorem OwnR.set{sz k q:Nat}{J':Store}{v:AV}{es:List (List AV)}{x:Option AObj}(h:OwnR sz k J' v es)(hq:q<k):OwnR sz k (J'.set q x) v es:=by
 rcases h with h| ⟨r,h1,h2,h3,h4⟩
 ·exact .inl h
 ·exact .inr ⟨r,h1,h2,h3,by rw [z1c (by omega)];exact h4⟩
theorem OwnR.more{sz k:Nat}{J' y:Store}{v:AV}{es:List (List AV)}(h:OwnR sz k J' v es):OwnR sz k (J'++y) v es:=by
 rcases h with h| ⟨r,h1,h2,h3,h4⟩
 ·exact .inl h
 ·exact .inr ⟨r,h1,h2,h3,by rw [gapp (slen h4)];exact h4⟩
theorem OwnR.app{sz k:Nat}{J':Store}{v:AV}{es ys:List (List AV)}(h:OwnR sz k J' v es)(hk:k<=J'.length)(h0:ys.length ≠ 0)(hl:es.length+ys.length<=1073741824):
  ∃v' J2,aApp J' sz v ys=some (v',J2)/\ OwnR sz k J2 v' (es++ys)/\ (∀q,q<k->J2[q]? =J'[q]?)/\ (∀J:Store,J.length<=k->Ext J J'->Ext J J2)/\ k<=J2.length:=by
 have hne:es++ys ≠ []:=fun e=>h0 (by rw [(List.append_eq_nil_iff.1 e).2];rfl)
 rcases h with⟨rfl,rfl⟩| ⟨r,h1,h2,rfl,hg⟩
 ·refine⟨.sl J'.length 0 ys.length none sz,J'++ [some ys],by rw [zc2,if_neg h0,if_pos (by simpa using hl)],.inr ⟨J'.length,hk,hne,by simp,by simp⟩,fun q hq=>gapp (by omega),fun J _ he=>he.app,by simp;omega⟩
 ·have hr:=slen hg
  refine⟨.sl J'.length 0 (es.length+ys.length) none sz,J'.set r none++ [some (es++ys)],?_,.inr ⟨J'.length,hk,hne,by simp,by rw [z1j (by simp)];simp⟩,fun q hq=>by rw [gapp (by simp;omega),z1c (by omega)],fun J hs he=>(he.set (by omega)).app,by simp;omega⟩
  rw [zab,if_neg h0,hg]
  simp only
  rw [if_pos ⟨trivial,by omega,by omega⟩,if_neg (by omega),List.drop_zero,List.take_of_length_le (Nat.le_refl _)]
theorem OwnR.frz{sz k:Nat}{τ news:Store}{v:AV}{es:List (List AV)}(h:OwnR sz k (τ++news) v es)(hk:τ.length<=k)(hr:RLss τ.length es):DR (FrzD τ news) (z15 sz es) v:=by
 unfold z15
 rcases h with⟨rfl,rfl⟩| ⟨r,h1,h2,rfl,hg⟩
 ·simp [DR]
 ·rw [if_neg h2]
  exact FrzD.sl (by omega) hg (by omega) (by simp) hr
theorem OwnR.fr{sz k:Nat}{τ J' news:Store}{v:AV}{es:List (List AV)}(h:OwnR sz k J' v es)(e:J'=τ++news)(hk:τ.length<=k)(hr:RLss τ.length es):DR (FrzD τ news) (z15 sz es) v:=by
 subst e;exact h.frz hk hr
end
section
attribute [local irreducible] ACallsTo ACallsP
theorem OwnN.base{sz:Nat}{τ y J':Store}{v:AV}{es:List (List AV)}(h:OwnN sz (τ++y) J' v es):OwnN sz τ J' v es:=by
 obtain⟨news,rfl,h⟩:=h
 refine⟨y++news,by rw [List.append_assoc],?_⟩
 rcases h with h| ⟨j,h0,rfl,hj⟩
 ·exact .inl h
 ·exact .inr ⟨y.length+j,h0,by rw [List.length_append];congr 1;omega,by rw [List.getElem?_append_right (by omega),Nat.add_sub_cancel_left];exact hj⟩
end
section
attribute [local irreducible] ACallsTo ACallsP
theorem z5u{k sz:Nat}{es:List (List AV)}(h:RLss k es):RL k (z15 sz es):=by
 unfold z15
 split
 ·simp [RL]
 ·simpa only [RL]using h
end
section
attribute [local irreducible] ACallsTo ACallsP
end
section
attribute [local irreducible] ACallsTo ACallsP
end
section
attribute [local irreducible] ACallsTo ACallsP
theorem rl_z{k:Nat}{l:List Hash}{z:AV}(h:SlV 32 (hr l) z):RL k z:=by
 rcases h with⟨rfl,_⟩| ⟨ex,rfl⟩
 ·simp [RL]
 ·simp only [RL];exact z1w _
theorem zrw{sz:Nat}{es:List (List AV)}{z:AV}(h:SlV sz es z):cellsOf z=some [z]:=by
 rcases h with⟨rfl,_⟩| ⟨ex,rfl⟩<;>rfl
end
section
theorem zdx(a b:Hash):z1b [a,b]=z11 a b:=by
 rw [zdw (by simp)];simp [split2,zdv]
theorem zil(a b c d:Hash):z1b [a,b,c,d]=z11 (z11 a b) (z11 c d):=by
 rw [zdw (by simp)];simp [split4,zdx]
attribute [local irreducible] ACallsTo ACallsP
end
section
attribute [local irreducible] ACallsTo ACallsP
theorem hslC_h{cs:List AV}(h:ShC (.sl 32 z8w) cs):∃(l:List Hash) (a:AV),cs=[a]/\ SlV 32 (hr l) a/\ l.length<=maxLen:=by
 simp only [ShC]at h
 rcases h with rfl| ⟨es,rfl,hl,_,h2⟩
 ·exact⟨[],.nilsl,rfl,.inl ⟨rfl,rfl⟩,Nat.zero_le _⟩
 ·obtain⟨hs,rfl,hH⟩:=zh2 es h2
  obtain⟨m,rfl⟩:=hb_of hH
  rw [z4u]at*
  exact⟨m,_,rfl,.inr ⟨false,rfl⟩,by rwa [z7]at hl⟩
end
section
attribute [local irreducible] ACallsTo ACallsP
end
section
attribute [local irreducible] ACallsTo ACallsP
end
section
theorem slv_rl{l:List Hash}{x:AV}{k:Nat}(h:SlV 32 (hr l) x):RL k x:=rl_z h
attribute [local irreducible] ACallsTo ACallsP
end
section
attribute [local irreducible] ACallsTo ACallsP
end
section
attribute [local irreducible] ACallsTo ACallsP
end
section
attribute [local irreducible] ACallsTo ACallsP
end
section
theorem zdc(j:Nat):(2^(j+1)-1)/2=2^j-1/\ (2^(j+1)-1)%2=1:=by
 have:=Nat.pow_succ (n:=2) (m:=j)
 have h2:0<2^j:=Nat.pow_pos (by decide)
 omega
theorem zcx:∀(j i last:Nat),i<2^j->2^j<=last->last<2^(j+1)->lp i last=lp i (2^j-1)++ [false]
 | 0,i,last,h1,h2,h3=>by
  simp at h1 h2 h3
  obtain rfl:i=0:=by omega
  obtain rfl:last=1:=by omega
  rw [z6z (by decide) (by decide) (by decide),show (1:Nat)/2=0 from rfl,show 2^0-1=0 from rfl,z6d]
  rfl
 |j+1,i,last,h1,h2,h3=>by
  have e1:=Nat.pow_succ (n:=2) (m:=j)
  have e2:=Nat.pow_succ (n:=2) (m:=j+1)
  have hp:0<2^j:=Nat.pow_pos (by decide)
  obtain⟨o1,o2⟩:=zdc j
  have ih:=zcx j (i/2) (last/2) (by omega) (by omega) (by omega)
  by_cases h:i%2=1
  ·rw [z3v h (by omega),z3v h (by omega),o1,ih];rfl
  ·rw [z6z h (by omega) (by omega),z6z h (by omega) (by omega),o1,ih];rfl
theorem zhj:∀(j i last:Nat),i<=last->last<2^j->lp (2^j+i) (2^j+last)=lp i last++ [true]
 | 0,i,last,h1,h2=>by
  simp at h2
  subst h2
  obtain rfl:i=0:=by omega
  rw [show 2^0+0=1 from rfl,z3v (by decide) (by decide),show (1:Nat)/2=0 from rfl,z6d]
  rfl
 |j+1,i,last,h1,h2=>by
  have e1:=Nat.pow_succ (n:=2) (m:=j)
  have hp:0<2^j:=Nat.pow_pos (by decide)
  have ih:=zhj j (i/2) (last/2) (by omega) (by omega)
  have d1:(2^(j+1)+i)/2=2^j+i/2:=by omega
  have d2:(2^(j+1)+last)/2=2^j+last/2:=by omega
  by_cases h:i%2=1
  ·rw [z3v (i:=2^(j+1)+i) (by omega) (by omega),z3v h (by omega),d1,d2,ih];rfl
  ·by_cases he:i=last
   ·subst he
    rw [z7r (i:=2^(j+1)+i) (by omega),z7r h,d1,ih]
   ·rw [z6z (i:=2^(j+1)+i) (by omega) (by omega) (by omega),z6z h (by omega) he,d1,d2,ih];rfl
def z3d(i last:Nat):List Bool:=lp (st i last).1 (st i last).2
theorem zei:∀(f i last last':Nat),i<f->(st i last).1=(st i last').1
 | 0,_,_,_,h=>by omega
 |f+1,i,last,last',h=>by
  by_cases h1:i%2=1
  ·rw [z6m h1,z6m h1];exact zei f (i/2) _ _ (by omega)
  ·rw [z4j h1,z4j h1]
theorem zau:∀(j i last:Nat),i<2^j->2^j<=last->last<2^(j+1)->z3d i last=z3d i (2^j-1)++ [false]
 | 0,i,last,h1,h2,h3=>by
  have h1':=h1
  simp at h1
  unfold z3d
  rw [z4j (by omega),z4j (by omega)]
  exact zcx 0 i last h1' h2 h3
 |j+1,i,last,h1,h2,h3=>by
  have e1:=Nat.pow_succ (n:=2) (m:=j)
  have e2:=Nat.pow_succ (n:=2) (m:=j+1)
  have hp:0<2^j:=Nat.pow_pos (by decide)
  obtain⟨o1,o2⟩:=zdc j
  by_cases h:i%2=1
  ·have ih:=zau j (i/2) (last/2) (by omega) (by omega) (by omega)
   unfold z3d at ih ⊢
   rw [z6m h,z6m h,o1];exact ih
  ·unfold z3d
   rw [z4j h,z4j h]
   exact zcx (j+1) i last h1 h2 h3
theorem zj5:∀(j i last:Nat),i<last->last<2^j->∃k,st (2^j+i) (2^j+last)=(2^k+(st i last).1,2^k+(st i last).2)/\ (st i last).1<=(st i last).2/\ (st i last).2<2^k
 | 0,i,last,h1,h2=>by simp at h2;omega
 |j+1,i,last,h1,h2=>by
  have e1:=Nat.pow_succ (n:=2) (m:=j)
  have hp:0<2^j:=Nat.pow_pos (by decide)
  by_cases h:i%2=1
  ·have ih:=zj5 j (i/2) (last/2) (by omega) (by omega)
   rw [z6m h,z6m (i:=2^(j+1)+i) (by omega),show (2^(j+1)+i)/2=2^j+i/2 by omega,show (2^(j+1)+last)/2=2^j+last/2 by omega]
   exact ih
  ·rw [z4j h,z4j (i:=2^(j+1)+i) (by omega)]
   exact⟨j+1,rfl,by omega,h2⟩
theorem zda{j i last:Nat}(h1:i<last)(h2:last<2^j):z3d (2^j+i) (2^j+last)=z3d i last++ [true]/\ 0<(st (2^j+i) (2^j+last)).1:=by
 obtain⟨k,e,h3,h4⟩:=zj5 j i last h1 h2
 unfold z3d
 rw [e]
 have hp:0<2^k:=Nat.pow_pos (by decide)
 exact⟨zhj k _ _ h3 h4,by omega⟩
theorem zej:∀(j:Nat),st (2^j-1) (2^j-1)=(0,0)
 | 0=>by rw [z4j (by decide)]
 |j+1=>by
  obtain⟨o1,o2⟩:=zdc j
  rw [z6m o2,o1];exact zej j
theorem ze3(t:Bool)(h:List UInt8):∀(p:List Bool) (ps:List (List UInt8)) (a b:List UInt8),run (p++ [t]) (ps++ [h]) a b=(run p ps a b).map fun x=>if t then(z1l h x.1,z1l h x.2)else(x.1,z1l x.2 h)
 | [],[],a,b=>by cases t<;>rfl
 | [],y::ps,a,b=>by
  have:∀a b,run [] (ps++ [h]) a b=none:=fun a b=>by cases ps<;>rfl
  cases t<;>simp [run,this]
 |x::p,[],a,b=>by
  have:∀a b,run (p++ [t]) [] a b=none:=fun a b=>by cases p<;>cases t<;>simp [run]
  cases x<;>simp [run,this]
 |x::p,y::ps,a,b=>by
  have ih:=ze3 t h p ps
  cases x<;>simp [run,ih]
def runB(u:Bool)(p:List Bool)(ps:List (List UInt8))(o:List UInt8):Option (List UInt8 × List UInt8):=
 if u then match ps with
  | []=>none
  |h::ps=>run p ps h h
 else run p ps o o
theorem zlv(i last:Nat)(o:List UInt8)(ps:List (List UInt8)):chkG i last o ps=runB (decide (0<i)) (lp i last) ps o:=by
 unfold chkG runB
 by_cases h:0<i<;>simp [h]<;>cases ps<;>rfl
theorem zbb(u t:Bool)(h:List UInt8)(p:List Bool)(ps:List (List UInt8))(o:List UInt8):
  runB u (p++ [t]) (ps++ [h]) o=(runB u p ps o).map fun x=>if t then(z1l h x.1,z1l h x.2)else(x.1,z1l x.2 h):=by
 unfold runB
 cases u with
 |false=>exact ze3 t h p ps o o
 |true=>
  cases ps with
  |nil=>
   have:run (p++ [t]) [] h h=none:=by cases p<;>cases t<;>simp [run]
   simp [this]
  |cons y ps=>exact ze3 t h p ps y y
theorem zed{n:Nat}(h:2<=n):∃j,zu n=2^j/\ 2^j<n/\ n<=2^(j+1):=by
 obtain⟨s1,s2,s3⟩:=z3a h
 refine⟨Nat.log2 (n-1),?_,?_,?_⟩
 ·unfold zu;rw [if_neg (by omega)]
 ·have:zu n=2^Nat.log2 (n-1):=by unfold zu;rw [if_neg (by omega)]
  omega
 ·have:zu n=2^Nat.log2 (n-1):=by unfold zu;rw [if_neg (by omega)]
  have e:=Nat.pow_succ (n:=2) (m:=Nat.log2 (n-1))
  omega
theorem zcr:∀(f:Nat) (l:List (List UInt8)) (m:Nat) (kn:Bool) (o:List UInt8),l.length<f->0<m->m<=l.length->(m<l.length \/ ∃j,l.length=2^j)->(kn=true->o=z13 (l.take m))->
  runB (!kn ||decide (0<(st (m-1) (l.length-1)).1)) (z3d (m-1) (l.length-1)) (subS l m kn) o=some (z13 (l.take m),z13 l)
 | 0,_,_,_,_,h,_,_,_,_=>by omega
 |f+1,l,m,kn,o,hf,h0,hm,hc,ho=>by
  by_cases h1:m=l.length
  ·obtain⟨j,hj⟩:=hc.resolve_left (by omega)
   subst h1
   have e:st (l.length-1) (l.length-1)=(0,0):=by rw [hj];exact zej j
   unfold z3d
   rw [e,zbk,List.take_of_length_le (Nat.le_refl _)]
   simp only [z6d]
   rw [List.take_of_length_le (Nat.le_refl _)]at ho
   cases kn with
   |true=>rw [ho rfl];rfl
   |false=>rfl
  ·obtain⟨j,hk,k1,k2⟩:=zed (n:=l.length) (by omega)
   have e2:=Nat.pow_succ (n:=2) (m:=j)
   have hp:0<2^j:=Nat.pow_pos (by decide)
   have hR:z13 l=z1l (z13 (l.take (2^j))) (z13 (l.drop (2^j))):=by rw [z7w (by omega),hk]
   by_cases h2:m<=2^j
   ·have hs:=zen (l:=l) (m:=m) (kn:=kn) h0 (by omega) (by rw [hk];exact h2)
    rw [hk]at hs
    have hl:(l.take (2^j)).length=2^j:=by rw [List.length_take];omega
    have et:(l.take (2^j)).take m=l.take m:=by rw [List.take_take,Nat.min_eq_left h2]
    have ih:=zcr f (l.take (2^j)) m kn o (by omega) h0 (by omega) (.inr ⟨j,hl⟩) (by rw [et];exact ho)
    rw [hl,et]at ih
    rw [hs,zau j (m-1) (l.length-1) (by omega) (by omega) (by omega),zbb,zei m (m-1) (l.length-1) (2^j-1) (by omega),ih,hR]
    rfl
   ·have hs:=zeo (l:=l) (m:=m) (kn:=kn) (by omega) (by rw [hk];exact h2)
    rw [hk]at hs
    have hl:(l.drop (2^j)).length=l.length-2^j:=by rw [List.length_drop]
    have ih:=zcr f (l.drop (2^j)) (m-2^j) false o (by omega) (by omega) (by omega) (.inl (by omega)) (by intro h;cases h)
    rw [hl]at ih
    obtain⟨p1,p2⟩:=zda (j:=j) (i:=m-2^j-1) (last:=l.length-2^j-1) (by omega) (by omega)
    rw [show 2^j+(m-2^j-1)=m-1 by omega,show 2^j+(l.length-2^j-1)=l.length-1 by omega]at p1 p2
    have hRm:z13 (l.take m)=z1l (z13 (l.take (2^j))) (z13 ((l.drop (2^j)).take (m-2^j))):=by
     have hlm:(l.take m).length=m:=by rw [List.length_take];omega
     rw [z7w (by omega),hlm,zbh (n:=m) (j:=j) (by omega) (by omega),List.take_take,Nat.min_eq_left (by omega),List.drop_take]
    rw [hs,p1,zbb,decide_eq_true p2,Bool.or_true]
    simp only [Bool.not_false,Bool.true_or]at ih
    rw [ih,hR,hRm]
    rfl
theorem zgi(i last:Nat)(o:List UInt8)(ps:List (List UInt8)):chkS i last o ps=runB (decide (0<(st i last).1)) (z3d i last) ps o:=zlv _ _ _ _
theorem znn{l:List (List UInt8)}{m:Nat}(hm:m<=l.length)(hl:l.length<=4096):chkI m l.length (z13 (l.take m)) (z13 l) (z1s l m)=0:=by
 unfold chkI
 rw [if_neg (by omega)]
 by_cases h0:m=0
 ·subst h0
  rw [if_pos (show ((0:Nat):Int)=0 from rfl),if_pos]
  refine⟨by unfold z1s;rw [if_neg (by simp)],by simp,?_⟩
  cases l with
  |nil=>exact .inr rfl
  |cons a l=>exact .inl (by simp only [List.length_cons];omega)
 ·rw [if_neg (by omega)]
  by_cases h1:m=l.length
  ·subst h1
   rw [if_pos rfl,if_pos]
   exact⟨by unfold z1s;rw [if_neg (by omega)],by rw [List.take_of_length_le (Nat.le_refl _)]⟩
  ·rw [if_neg (by omega)]
   have e:z1s l m=subS l m true:=by unfold z1s;rw [if_pos (by omega)];rfl
   have:=zcr (l.length+1) l m true (z13 (l.take m)) (by omega) (by omega) hm (.inl (by omega)) (fun _=>rfl)
   simp only [Bool.not_true,Bool.false_or]at this
   rw [e,Int.toNat_natCast,Int.toNat_natCast,zgi,this]
   simp [fitI]
end
section

end
section
def z5v:Nat->Nat->Nat->Bool->List UInt8->List (List UInt8)->List UInt8 × List UInt8 × Bool
 | 0,_,_,_,o,_=>(o,o,false)
 |f+1,m,n,kn,o,ps=>
  if m=n then(if kn then(o,o,ps.isEmpty)else match ps with
   | [x]=>(x,x,true)
   | _=>(o,o,false))
  else match ps.getLast? with
   |none=>(o,o,false)
   |some last=>
    if m<=zu n then(let r:=z5v f m (zu n) kn o ps.dropLast;(r.1,z1l r.2.1 last,r.2.2))
    else(let r:=z5v f (m-zu n) (n-zu n) false o ps.dropLast;(z1l last r.1,z1l last r.2.1,r.2.2))
def okO(r:List UInt8 × List UInt8 × Bool):Option (List UInt8 × List UInt8):=if r.2.2 then some (r.1,r.2.1)else none
theorem zin{u:Bool}{p:List Bool}{t:Bool}{o:List UInt8}:runB u (p++ [t]) [] o=none:=by
 cases u with
 |true=>rfl
 |false=>
  show run (p++ [t]) [] o o=none
  cases p<;>cases t<;>simp [run]
theorem ze5:∀(f m n:Nat) (kn:Bool) (o:List UInt8) (ps:List (List UInt8)),n<f->0<m->m<=n->(m<n \/ ∃j,n=2^j)->
  okO (z5v f m n kn o ps)=runB (!kn ||decide (0<(st (m-1) (n-1)).1)) (z3d (m-1) (n-1)) ps o
 | 0,_,_,_,_,_,h,_,_,_=>by omega
 |f+1,m,n,kn,o,ps,hf,h0,hm,hc=>by
  by_cases h1:m=n
  ·obtain⟨j,hj⟩:=hc.resolve_left (by omega)
   subst h1
   have e:st (m-1) (m-1)=(0,0):=by rw [hj];exact zej j
   unfold z3d
   simp only [z5v,if_true,e,z6d]
   cases kn with
   |true=>cases ps<;>rfl
   |false=>
    match ps with
    | []=>rfl
    | [x]=>rfl
    |x::y::l=>rfl
  ·obtain⟨j,hk,k1,k2⟩:=zed (n:=n) (by omega)
   have e2:=Nat.pow_succ (n:=2) (m:=j)
   have hp:0<2^j:=Nat.pow_pos (by decide)
   simp only [z5v,if_neg h1,hk]
   rcases List.eq_nil_or_concat ps with rfl| ⟨rest,last,rfl⟩
   ·by_cases h2:m<=2^j
    ·rw [zau j (m-1) (n-1) (by omega) (by omega) (by omega),zin];rfl
    ·obtain⟨p1,p2⟩:=zda (j:=j) (i:=m-2^j-1) (last:=n-2^j-1) (by omega) (by omega)
     rw [show 2^j+(m-2^j-1)=m-1 by omega,show 2^j+(n-2^j-1)=n-1 by omega]at p1 p2
     rw [p1,zin];rfl
   ·rw [List.concat_eq_append,List.getLast?_concat,List.dropLast_concat]
    simp only []
    by_cases h2:m<=2^j
    ·have ih:=ze5 f m (2^j) kn o rest (by omega) h0 h2 (.inr ⟨j,rfl⟩)
     simp only [if_pos h2]
     rw [zau j (m-1) (n-1) (by omega) (by omega) (by omega),zbb,zei m (m-1) (n-1) (2^j-1) (by omega),<-ih]
     unfold okO
     cases (z5v f m (2^j) kn o rest).2.2<;>rfl
    ·have ih:=ze5 f (m-2^j) (n-2^j) false o rest (by omega) (by omega) (by omega) (.inl (by omega))
     obtain⟨p1,p2⟩:=zda (j:=j) (i:=m-2^j-1) (last:=n-2^j-1) (by omega) (by omega)
     rw [show 2^j+(m-2^j-1)=m-1 by omega,show 2^j+(n-2^j-1)=n-1 by omega]at p1 p2
     simp only [if_neg h2]
     simp only [Bool.not_false,Bool.true_or]at ih
     rw [p1,zbb,decide_eq_true p2,Bool.or_true,<-ih]
     unfold okO
     cases (z5v f (m-2^j) (n-2^j) false o rest).2.2<;>rfl
end
section
def z1x:Nat->Nat->Nat->Bool->Hash->List Hash->Hash × Hash × Bool
 | 0,_,_,_,o,_=>(o,o,false)
 |f+1,m,n,kn,o,ps=>
  if m=n then(if kn then(o,o,ps.isEmpty)else match ps with
   | [x]=>(x,x,true)
   | _=>(o,o,false))
  else match ps.getLast? with
   |none=>(o,o,false)
   |some last=>
    if m<=zu n then(let r:=z1x f m (zu n) kn o ps.dropLast;(r.1,z11 r.2.1 last,r.2.2))
    else(let r:=z1x f (m-zu n) (n-zu n) false o ps.dropLast;(z11 last r.1,z11 last r.2.1,r.2.2))
theorem znb(l:List Hash):(hb l).getLast? =l.getLast?.map (·.1):=List.getLast?_map ..
theorem zna(l:List Hash):(hb l).dropLast=hb l.dropLast:=by simp [hb]
theorem ze4:∀(f m n:Nat) (kn:Bool) (o:Hash) (ps:List Hash),z5v f m n kn o.1 (hb ps)=((z1x f m n kn o ps).1.1,(z1x f m n kn o ps).2.1.1,(z1x f m n kn o ps).2.2)
 | 0,_,_,_,_,_=>rfl
 |f+1,m,n,kn,o,ps=>by
  simp only [z5v,z1x]
  by_cases h1:m=n
  ·simp only [if_pos h1]
   cases kn with
   |true=>cases ps<;>rfl
   |false=>
    match ps with
    | []=>rfl
    | [x]=>rfl
    |x::y::l=>rfl
  ·simp only [if_neg h1]
   rw [znb,zna]
   cases hl:ps.getLast? with
   |none=>rfl
   |some last=>
    simp only [Option.map_some]
    by_cases h2:m<=zu n
    ·simp only [if_pos h2]
     rw [ze4 f];rfl
    ·simp only [if_neg h2]
     rw [ze4 f];rfl
def sayV(r:Hash × Hash × Bool):AV:= .tup [.agg (hc r.1),.agg (hc r.2.1),.bool r.2.2]
theorem z31{τ news:Store}(hw:Wf τ.length τ)(a b:Hash)(t:Bool):DownV τ.length (.tup [.agg (hc a),.agg (hc b),.bool t]) (τ++news) (.tup [.agg (hc a),.agg (hc b),.bool t]) τ:=
 DownV.pure hw (by simp only [RL,RLs];exact⟨z2k (z6h _),z2k (z6h _),trivial,trivial⟩)
theorem zrc:∀(f:Nat) (J:Store) (m n:Nat) (kn:Bool) (o:Hash) (x:AV) (ps:List Hash),n<f->0<m->m<=n->n<=4096->SlV 32 (hr ps) x->ps.length<1000000->
  ACallsTo TC 98 [.int .i64 m,.int .i64 n,.bool kn,.agg (hc o),x] J (sayV (z1x f m n kn o ps)) J:=by
 intro f
 induction f with
 |zero=>intro J m n kn o x ps h;omega
 |succ f ih=>
  intro J m n kn o x ps hf h0 hm hn hx hl
  have r1:=hx.len
  rw [z7]at r1
  unfold z1h at r1
  unfold sayV
  by_cases h1:m=n
  ·subst h1
   cases kn with
   |true=>
    have e:z1x (f+1) m m true o ps=(o,o,ps.isEmpty):=by simp [z1x]
    rw [e]
    refine ACallsTo.of_body qvok (by simp) fun hw _=> ?_
    cases ps with
    |nil=>
     repeat' (first|apply zs_|apply zb_|apply zc_|apply zt_ rfl|apply zf_ rfl|(refine zd_ rfl ?_ ?_<;>intro ht<;>try omega)|((first|apply zr_|apply zk_|apply ze_|apply zq_|(apply zG<;>intro ht));all_goals try simp (disch:=first|omega|(simp only [lens];first|done|omega)) only [go_sem,r1]))
     exact z31 hw _ _ _
    |cons y l=>
     have hne:¬((l.length:Int)+1)=0:=by omega
     repeat' (first|apply zs_|apply zb_|apply zc_|apply zt_ rfl|apply zf_ rfl|(refine zd_ rfl ?_ ?_<;>intro ht<;>try omega)|((first|apply zr_|apply zk_|apply ze_|apply zq_|(apply zG<;>intro ht));all_goals try simp (disch:=first|omega|(simp only [lens];first|done|omega)) only [go_sem,r1,hne,List.length_cons]))
     exact z31 hw _ _ _
   |false=>
    match ps,hx,hl,r1 with
    | [y],hx,hl,r1=>
     obtain⟨ex,rfl⟩:=hx.vsl (by rw [z7];simp)
     have er:hr [y]=[hc y]:=rfl
     rw [er]
     have e:z1x (f+1) m m false o [y]=(y,y,true):=by simp [z1x]
     rw [e]
     refine ACallsTo.of_body qvok (by simp) fun hw _=> ?_
     repeat' (first|apply zs_|apply zb_|apply zc_|apply zt_ rfl|apply zf_ rfl|(refine zd_ rfl ?_ ?_<;>intro ht<;>try omega)|((first|apply zr_|apply zk_|apply ze_|apply zq_|(apply zG<;>intro ht));all_goals try simp (disch:=first|omega|(simp only [lens];first|done|omega)) only [go_sem]))
     exact z31 hw _ _ _
    | [],hx,hl,r1=>
     have e:z1x (f+1) m m false o []=(o,o,false):=by simp [z1x]
     rw [e]
     refine ACallsTo.of_body qvok (by simp) fun hw _=> ?_
     repeat' (first|apply zs_|apply zb_|apply zc_|apply zt_ rfl|apply zf_ rfl|(refine zd_ rfl ?_ ?_<;>intro ht<;>try omega)|((first|apply zr_|apply zk_|apply ze_|apply zq_|(apply zG<;>intro ht));all_goals try simp (disch:=first|omega|(simp only [lens];first|done|omega)) only [go_sem,r1]))
     exact z31 hw _ _ _
    |y::z::l,hx,hl,r1=>
     have e:z1x (f+1) m m false o (y::z::l)=(o,o,false):=by simp [z1x]
     rw [e]
     have hne:¬((l.length:Int)+1+1)=1:=by omega
     refine ACallsTo.of_body qvok (by simp) fun hw _=> ?_
     repeat' (first|apply zs_|apply zb_|apply zc_|apply zt_ rfl|apply zf_ rfl|(refine zd_ rfl ?_ ?_<;>intro ht<;>try omega)|((first|apply zr_|apply zk_|apply ze_|apply zq_|(apply zG<;>intro ht));all_goals try simp (disch:=first|omega|(simp only [lens];first|done|omega)) only [go_sem,r1,hne,List.length_cons]))
     exact z31 hw _ _ _
  ·have h1':¬(m:Int)=n:=by omega
   rcases List.eq_nil_or_concat ps with rfl| ⟨rest,last,e⟩
   ·have e:z1x (f+1) m n kn o []=(o,o,false):=by simp [z1x,h1]
    rw [e]
    refine ACallsTo.of_body qvok (by simp) fun hw _=> ?_
    cases kn with
    |true=>
     repeat' (first|apply zs_|apply zb_|apply zc_|apply zt_ rfl|apply zf_ rfl|(refine zd_ rfl ?_ ?_<;>intro ht<;>try omega)|((first|apply zr_|apply zk_|apply ze_|apply zq_|(apply zG<;>intro ht));all_goals try simp (disch:=first|omega|(simp only [lens];first|done|omega)) only [go_sem,r1,h1']))
     exact z31 hw _ _ _
    |false=>
     repeat' (first|apply zs_|apply zb_|apply zc_|apply zt_ rfl|apply zf_ rfl|(refine zd_ rfl ?_ ?_<;>intro ht<;>try omega)|((first|apply zr_|apply zk_|apply ze_|apply zq_|(apply zG<;>intro ht));all_goals try simp (disch:=first|omega|(simp only [lens];first|done|omega)) only [go_sem,r1,h1']))
     exact z31 hw _ _ _
   ·rw [List.concat_eq_append]at e
    subst e
    obtain⟨s1,s2,s3⟩:=z3a (n:=n) (by omega)
    have hsp:=fun J=>z9a J n (by omega)
    obtain⟨k,hkd⟩:∃k,zu n=k:=⟨_,rfl⟩
    rw [hkd]at s1 s2 s3 hsp
    obtain⟨ex,rfl⟩:=hx.vsl (by rw [z7];simp)
    have e2:z1x (f+1) m n kn o (rest++ [last])=if m<=k then(let r:=z1x f m k kn o rest;(r.1,z11 r.2.1 last,r.2.2))else(let r:=z1x f (m-k) (n-k) false o rest;(z11 last r.1,z11 last r.2.1,r.2.2)):=by
     simp [z1x,h1,hkd]
    rw [e2]
    obtain⟨l,hll⟩:∃l,rest++ [last]=l:=⟨_,rfl⟩
    have hL:l.length=rest.length+1:=by rw [<-hll];simp
    have hg:hd l rest.length=last:=by rw [<-hll];simp [hd]
    have tk:l.take rest.length=rest:=by rw [<-hll];simp
    rw [hll]at hl ⊢
    have hidx:((rest.length+1:Nat):Int)-1=rest.length:=by omega
    by_cases hle':m<=k
    ·have hle:(m:Int)<=k:=by omega
     rw [if_pos hle']
     have i1:=fun J b=>ih J m k kn o (.vsl 32 (hr rest) b) rest (by omega) h0 hle' (by omega) (.inr ⟨b,rfl⟩) (by omega)
     generalize z1x f m k kn o rest=r at*
     obtain⟨ra,rb,rok⟩:=r
     simp only [sayV]at i1 ⊢
     have hN:=fun J=>z99 J rb last
     refine ACallsTo.of_body qvok (by simp) fun hw _=> ?_
     cases kn with
     |true=>
      repeat' (first|apply zs_|apply zb_|apply zc_|apply zt_ rfl|apply zf_ rfl|(refine zd_ rfl ?_ ?_<;>intro ht<;>try omega)|((first|apply zr_|apply zk_|apply ze_|apply zq_|(apply zG<;>intro ht));all_goals try simp (disch:=first|omega|(simp only [lens];first|done|omega)) only [go_sem,hL,h1']))
      refine zW.reg2 ?_ ?_
      ·simp (disch:=first|omega|(simp only [lens];first|done|omega)) only [go_sem,hL,hidx,hg,tk]
       repeat' (first|apply zs_|apply zb_|apply zc_|apply zt_ rfl|apply zf_ rfl|(refine zd_ rfl ?_ ?_<;>intro ht<;>try omega)|((first|apply zr_|apply zk_|apply ze_|apply zq_|(apply callW.mk_pu;(first|exact(fun _=>hsp _)|exact(fun _=>i1 _ _)|exact(fun _=>hN _)))|(apply callW.za;(first|exact(hsp _)|exact(i1 _ _)|exact(hN _)))|(apply zG<;>intro ht));all_goals try simp (disch:=first|omega|(simp only [lens];first|done|omega)) only [go_sem,hL,hidx,hg,tk,hle]))
       exact z31 hw _ _ _
      ·simp (disch:=first|omega|(simp only [lens];first|done|omega)) only [go_sem,hL,hidx,hg,tk]
       repeat' (first|apply zs_|apply zb_|apply zc_|apply zt_ rfl|apply zf_ rfl|(refine zd_ rfl ?_ ?_<;>intro ht<;>try omega)|((first|apply zr_|apply zk_|apply ze_|apply zq_|(apply callW.mk_pu;(first|exact(fun _=>hsp _)|exact(fun _=>i1 _ _)|exact(fun _=>hN _)))|(apply callW.za;(first|exact(hsp _)|exact(i1 _ _)|exact(hN _)))|(apply zG<;>intro ht));all_goals try simp (disch:=first|omega|(simp only [lens];first|done|omega)) only [go_sem,hL,hidx,hg,tk,hle]))
       exact z31 hw _ _ _
     |false=>
      repeat' (first|apply zs_|apply zb_|apply zc_|apply zt_ rfl|apply zf_ rfl|(refine zd_ rfl ?_ ?_<;>intro ht<;>try omega)|((first|apply zr_|apply zk_|apply ze_|apply zq_|(apply zG<;>intro ht));all_goals try simp (disch:=first|omega|(simp only [lens];first|done|omega)) only [go_sem,hL,h1']))
      refine zW.reg2 ?_ ?_
      ·simp (disch:=first|omega|(simp only [lens];first|done|omega)) only [go_sem,hL,hidx,hg,tk]
       repeat' (first|apply zs_|apply zb_|apply zc_|apply zt_ rfl|apply zf_ rfl|(refine zd_ rfl ?_ ?_<;>intro ht<;>try omega)|((first|apply zr_|apply zk_|apply ze_|apply zq_|(apply callW.mk_pu;(first|exact(fun _=>hsp _)|exact(fun _=>i1 _ _)|exact(fun _=>hN _)))|(apply callW.za;(first|exact(hsp _)|exact(i1 _ _)|exact(hN _)))|(apply zG<;>intro ht));all_goals try simp (disch:=first|omega|(simp only [lens];first|done|omega)) only [go_sem,hL,hidx,hg,tk,hle]))
       exact z31 hw _ _ _
      ·simp (disch:=first|omega|(simp only [lens];first|done|omega)) only [go_sem,hL,hidx,hg,tk]
       repeat' (first|apply zs_|apply zb_|apply zc_|apply zt_ rfl|apply zf_ rfl|(refine zd_ rfl ?_ ?_<;>intro ht<;>try omega)|((first|apply zr_|apply zk_|apply ze_|apply zq_|(apply callW.mk_pu;(first|exact(fun _=>hsp _)|exact(fun _=>i1 _ _)|exact(fun _=>hN _)))|(apply callW.za;(first|exact(hsp _)|exact(i1 _ _)|exact(hN _)))|(apply zG<;>intro ht));all_goals try simp (disch:=first|omega|(simp only [lens];first|done|omega)) only [go_sem,hL,hidx,hg,tk,hle]))
       exact z31 hw _ _ _
    ·have hle:¬(m:Int)<=k:=by omega
     rw [if_neg hle']
     have i1:=fun J b=>ih J (m-k) (n-k) false o (.vsl 32 (hr rest) b) rest (by omega) (by omega) (by omega) (by omega) (.inr ⟨b,rfl⟩) (by omega)
     have hmk:(m:Int)-k=((m-k:Nat):Int):=by omega
     have hnk:(n:Int)-k=((n-k:Nat):Int):=by omega
     generalize z1x f (m-k) (n-k) false o rest=r at*
     obtain⟨ra,rb,rok⟩:=r
     simp only [sayV]at i1 ⊢
     have hN:=fun J=>z99 J last ra
     have hN2:=fun J=>z99 J last rb
     refine ACallsTo.of_body qvok (by simp) fun hw _=> ?_
     cases kn with
     |true=>
      repeat' (first|apply zs_|apply zb_|apply zc_|apply zt_ rfl|apply zf_ rfl|(refine zd_ rfl ?_ ?_<;>intro ht<;>try omega)|((first|apply zr_|apply zk_|apply ze_|apply zq_|(apply zG<;>intro ht));all_goals try simp (disch:=first|omega|(simp only [lens];first|done|omega)) only [go_sem,hL,h1']))
      refine zW.reg2 ?_ ?_
      ·simp (disch:=first|omega|(simp only [lens];first|done|omega)) only [go_sem,hL,hidx,hg,tk]
       repeat' (first|apply zs_|apply zb_|apply zc_|apply zt_ rfl|apply zf_ rfl|(refine zd_ rfl ?_ ?_<;>intro ht<;>try omega)|((first|apply zr_|apply zk_|apply ze_|apply zq_|(apply callW.mk_pu;(first|exact(fun _=>hsp _)|exact(fun _=>i1 _ _)|exact(fun _=>hN _)|exact(fun _=>hN2 _)))|(apply callW.za;(first|exact(hsp _)|exact(i1 _ _)|exact(hN _)|exact(hN2 _)))|(apply zG<;>intro ht));all_goals try simp (disch:=first|omega|(simp only [lens];first|done|omega)) only [go_sem,hL,hidx,hg,tk,hle,hmk,hnk]))
       exact z31 hw _ _ _
      ·simp (disch:=first|omega|(simp only [lens];first|done|omega)) only [go_sem,hL,hidx,hg,tk]
       repeat' (first|apply zs_|apply zb_|apply zc_|apply zt_ rfl|apply zf_ rfl|(refine zd_ rfl ?_ ?_<;>intro ht<;>try omega)|((first|apply zr_|apply zk_|apply ze_|apply zq_|(apply callW.mk_pu;(first|exact(fun _=>hsp _)|exact(fun _=>i1 _ _)|exact(fun _=>hN _)|exact(fun _=>hN2 _)))|(apply callW.za;(first|exact(hsp _)|exact(i1 _ _)|exact(hN _)|exact(hN2 _)))|(apply zG<;>intro ht));all_goals try simp (disch:=first|omega|(simp only [lens];first|done|omega)) only [go_sem,hL,hidx,hg,tk,hle,hmk,hnk]))
       exact z31 hw _ _ _
     |false=>
      repeat' (first|apply zs_|apply zb_|apply zc_|apply zt_ rfl|apply zf_ rfl|(refine zd_ rfl ?_ ?_<;>intro ht<;>try omega)|((first|apply zr_|apply zk_|apply ze_|apply zq_|(apply zG<;>intro ht));all_goals try simp (disch:=first|omega|(simp only [lens];first|done|omega)) only [go_sem,hL,h1']))
      refine zW.reg2 ?_ ?_
      ·simp (disch:=first|omega|(simp only [lens];first|done|omega)) only [go_sem,hL,hidx,hg,tk]
       repeat' (first|apply zs_|apply zb_|apply zc_|apply zt_ rfl|apply zf_ rfl|(refine zd_ rfl ?_ ?_<;>intro ht<;>try omega)|((first|apply zr_|apply zk_|apply ze_|apply zq_|(apply callW.mk_pu;(first|exact(fun _=>hsp _)|exact(fun _=>i1 _ _)|exact(fun _=>hN _)|exact(fun _=>hN2 _)))|(apply callW.za;(first|exact(hsp _)|exact(i1 _ _)|exact(hN _)|exact(hN2 _)))|(apply zG<;>intro ht));all_goals try simp (disch:=first|omega|(simp only [lens];first|done|omega)) only [go_sem,hL,hidx,hg,tk,hle,hmk,hnk]))
       exact z31 hw _ _ _
      ·simp (disch:=first|omega|(simp only [lens];first|done|omega)) only [go_sem,hL,hidx,hg,tk]
       repeat' (first|apply zs_|apply zb_|apply zc_|apply zt_ rfl|apply zf_ rfl|(refine zd_ rfl ?_ ?_<;>intro ht<;>try omega)|((first|apply zr_|apply zk_|apply ze_|apply zq_|(apply callW.mk_pu;(first|exact(fun _=>hsp _)|exact(fun _=>i1 _ _)|exact(fun _=>hN _)|exact(fun _=>hN2 _)))|(apply callW.za;(first|exact(hsp _)|exact(i1 _ _)|exact(hN _)|exact(hN2 _)))|(apply zG<;>intro ht));all_goals try simp (disch:=first|omega|(simp only [lens];first|done|omega)) only [go_sem,hL,hidx,hg,tk,hle,hmk,hnk]))
       exact z31 hw _ _ _
end
section
def chkH(m n:Int)(o nw:Hash)(ps:List Hash):Int:=chkI m n o.1 nw.1 (hb ps)
theorem zgg{m n:Nat}{o nw:Hash}{ps:List Hash}(h0:0<m)(h1:m<n)(h2:n<=4096):
  chkH m n o nw ps=if (z1x (n+1) m n true o ps).2.2=true/\ (z1x (n+1) m n true o ps).1=o/\ (z1x (n+1) m n true o ps).2.1=nw then 0 else 80:=by
 have e:=ze5 (n+1) m n true o.1 (hb ps) (by omega) h0 (by omega) (.inl h1)
 rw [ze4,Bool.not_true,Bool.false_or,<-zgi]at e
 unfold chkH chkI
 rw [if_neg (by omega),if_neg (by omega),if_neg (by omega),Int.toNat_natCast,Int.toNat_natCast,<-e]
 generalize z1x (n+1) m n true o ps=r
 obtain⟨a,b,t⟩:=r
 cases t with
 |false=>simp [okO,fitI]
 |true=>simp [okO,fitI,Subtype.ext_iff]
theorem zqi(J:Store)(m n:Int)(o nw:Hash)(x:AV)(ps:List Hash)(hx:SlV 32 (hr ps) x)(hl:ps.length<1000000):
  ACallsTo TC 48 [.int .i64 m,.int .i64 n,.agg (hc o),.agg (hc nw),x] J (.int .i64 (chkH m n o nw ps)) J:=by
 have r1:=hx.len
 rw [z7]at r1
 unfold z1h at r1
 have hps:hb ps=[] ↔ ps.length=0:=by rw [<-List.length_eq_zero_iff,z35]
 by_cases hb1:n<0 \/4096<n \/m<0 \/n<m
 ·have e:chkH m n o nw ps=2:=by unfold chkH chkI;rw [if_pos hb1]
  rw [e]
  refine ACallsTo.of_body qqok (by simp) fun hw _=> ?_
  repeat' (first|apply zs_|apply zb_|apply zc_|apply zt_ rfl|apply zf_ rfl|(refine zd_ rfl ?_ ?_<;>intro ht<;>try omega)|((first|apply zr_|apply zk_|apply ze_|apply zq_|(apply zG<;>intro ht));all_goals try simp (disch:=first|omega|(simp only [lens];first|done|omega)) only [go_sem,r1]))
  all_goals exact DownV.pure hw (zz _ rfl)
 ·by_cases hm0:m=0
  ·subst hm0
   have hS:∀J,ACallsTo TC 86 [.str []] J (.agg (hc (shaH []))) J:=fun J=>z74 J [] (by simp)
   have e:chkH 0 n o nw ps=if ps.length=0/\ o=shaH []/\ (0<n \/o=nw)then 0 else 80:=by
    unfold chkH chkI
    rw [if_neg hb1,if_pos rfl,zba]
    have h1:(o.1=shaS []) ↔ (o=shaH []):=by rw [Subtype.ext_iff];rfl
    have h2:(nw.1=o.1) ↔ (o=nw):=by rw [<-Subtype.ext_iff];exact eq_comm
    simp only [hps,h1,h2]
   rw [e]
   refine ACallsTo.of_body qqok (by simp) fun hw _=> ?_
   by_cases c1:ps.length=0
   ·by_cases c2:o=shaH []
    ·have d2:=decide_eq_true c2
     by_cases c3:0<n
     ·rw [if_pos ⟨c1,c2,.inl c3⟩]
      repeat' (first|apply zs_|apply zb_|apply zc_|apply zt_ rfl|apply zf_ rfl|(refine zd_ rfl ?_ ?_<;>intro ht<;>try omega)|((first|apply zr_|apply zk_|apply ze_|apply zq_|(apply callW.mk_pu;(first|exact(fun _=>hS _)))|(apply callW.za;(first|exact(hS _)))|(apply zG<;>intro ht));all_goals try simp (disch:=first|omega|(simp only [lens];first|done|omega)) only [go_sem,r1,c1,d2]))
      exact DownV.pure hw (zz _ rfl)
     ·by_cases c4:o=nw
      ·have d4:=decide_eq_true c4
       rw [if_pos ⟨c1,c2,.inr c4⟩]
       repeat' (first|apply zs_|apply zb_|apply zc_|apply zt_ rfl|apply zf_ rfl|(refine zd_ rfl ?_ ?_<;>intro ht<;>try omega)|((first|apply zr_|apply zk_|apply ze_|apply zq_|(apply callW.mk_pu;(first|exact(fun _=>hS _)))|(apply callW.za;(first|exact(hS _)))|(apply zG<;>intro ht));all_goals try simp (disch:=first|omega|(simp only [lens];first|done|omega)) only [go_sem,r1,c1,d2,d4]))
       exact DownV.pure hw (zz _ rfl)
      ·have d4:=decide_eq_false c4
       rw [if_neg (fun h=>h.2.2.elim c3 c4)]
       repeat' (first|apply zs_|apply zb_|apply zc_|apply zt_ rfl|apply zf_ rfl|(refine zd_ rfl ?_ ?_<;>intro ht<;>try omega)|((first|apply zr_|apply zk_|apply ze_|apply zq_|(apply callW.mk_pu;(first|exact(fun _=>hS _)))|(apply callW.za;(first|exact(hS _)))|(apply zG<;>intro ht));all_goals try simp (disch:=first|omega|(simp only [lens];first|done|omega)) only [go_sem,r1,c1,d2,d4]))
       exact DownV.pure hw (zz _ rfl)
    ·have d2:=decide_eq_false c2
     rw [if_neg (fun h=>c2 h.2.1)]
     repeat' (first|apply zs_|apply zb_|apply zc_|apply zt_ rfl|apply zf_ rfl|(refine zd_ rfl ?_ ?_<;>intro ht<;>try omega)|((first|apply zr_|apply zk_|apply ze_|apply zq_|(apply callW.mk_pu;(first|exact(fun _=>hS _)))|(apply callW.za;(first|exact(hS _)))|(apply zG<;>intro ht));all_goals try simp (disch:=first|omega|(simp only [lens];first|done|omega)) only [go_sem,r1,c1,d2]))
     exact DownV.pure hw (zz _ rfl)
   ·have c1':¬(ps.length:Int)=0:=by omega
    rw [if_neg (fun h=>c1 h.1)]
    repeat' (first|apply zs_|apply zb_|apply zc_|apply zt_ rfl|apply zf_ rfl|(refine zd_ rfl ?_ ?_<;>intro ht<;>try omega)|((first|apply zr_|apply zk_|apply ze_|apply zq_|(apply callW.mk_pu;(first|exact(fun _=>hS _)))|(apply callW.za;(first|exact(hS _)))|(apply zG<;>intro ht));all_goals try simp (disch:=first|omega|(simp only [lens];first|done|omega)) only [go_sem,r1,c1']))
    exact DownV.pure hw (zz _ rfl)
  ·by_cases hmn:m=n
   ·subst hmn
    have e:chkH m m o nw ps=if ps.length=0/\ o=nw then 0 else 80:=by
     unfold chkH chkI
     rw [if_neg hb1,if_neg hm0,if_pos rfl]
     simp only [hps,<-Subtype.ext_iff]
    rw [e]
    refine ACallsTo.of_body qqok (by simp) fun hw _=> ?_
    by_cases c1:ps.length=0
    ·by_cases c2:o=nw
     ·have d2:=decide_eq_true c2
      rw [if_pos ⟨c1,c2⟩]
      repeat' (first|apply zs_|apply zb_|apply zc_|apply zt_ rfl|apply zf_ rfl|(refine zd_ rfl ?_ ?_<;>intro ht<;>try omega)|((first|apply zr_|apply zk_|apply ze_|apply zq_|(apply zG<;>intro ht));all_goals try simp (disch:=first|omega|(simp only [lens];first|done|omega)) only [go_sem,r1,c1,d2]))
      exact DownV.pure hw (zz _ rfl)
     ·have d2:=decide_eq_false c2
      rw [if_neg (fun h=>c2 h.2)]
      repeat' (first|apply zs_|apply zb_|apply zc_|apply zt_ rfl|apply zf_ rfl|(refine zd_ rfl ?_ ?_<;>intro ht<;>try omega)|((first|apply zr_|apply zk_|apply ze_|apply zq_|(apply zG<;>intro ht));all_goals try simp (disch:=first|omega|(simp only [lens];first|done|omega)) only [go_sem,r1,c1,d2]))
      exact DownV.pure hw (zz _ rfl)
    ·have c1':¬(ps.length:Int)=0:=by omega
     rw [if_neg (fun h=>c1 h.1)]
     repeat' (first|apply zs_|apply zb_|apply zc_|apply zt_ rfl|apply zf_ rfl|(refine zd_ rfl ?_ ?_<;>intro ht<;>try omega)|((first|apply zr_|apply zk_|apply ze_|apply zq_|(apply zG<;>intro ht));all_goals try simp (disch:=first|omega|(simp only [lens];first|done|omega)) only [go_sem,r1,c1']))
     exact DownV.pure hw (zz _ rfl)
   ·obtain⟨m,rfl⟩:∃k:Nat,m=k:=⟨m.toNat,by omega⟩
    obtain⟨n,rfl⟩:∃k:Nat,n=k:=⟨n.toNat,by omega⟩
    rw [zgg (by omega) (by omega) (by omega)]
    have i1:=fun J=>zrc (n+1) J m n true o x ps (by omega) (by omega) (by omega) (by omega) hx hl
    unfold sayV at i1
    generalize z1x (n+1) m n true o ps=r at*
    obtain⟨a,b,t⟩:=r
    simp only at i1 ⊢
    refine ACallsTo.of_body qqok (by simp) fun hw _=> ?_
    cases t with
    |false=>
     rw [if_neg (fun h=>by cases h.1)]
     repeat' (first|apply zs_|apply zb_|apply zc_|apply zt_ rfl|apply zf_ rfl|(refine zd_ rfl ?_ ?_<;>intro ht<;>try omega)|((first|apply zr_|apply zk_|apply ze_|apply zq_|(apply callW.mk_pu;(first|exact(fun _=>i1 _)))|(apply callW.za;(first|exact(i1 _)))|(apply zG<;>intro ht));all_goals try simp (disch:=first|omega|(simp only [lens];first|done|omega)) only [go_sem]))
     exact DownV.pure hw (zz _ rfl)
    |true=>
     by_cases c1:a=o
     ·have d1:=decide_eq_true c1
      by_cases c2:b=nw
      ·have d2:=decide_eq_true c2
       rw [if_pos ⟨rfl,c1,c2⟩]
       repeat' (first|apply zs_|apply zb_|apply zc_|apply zt_ rfl|apply zf_ rfl|(refine zd_ rfl ?_ ?_<;>intro ht<;>try omega)|((first|apply zr_|apply zk_|apply ze_|apply zq_|(apply callW.mk_pu;(first|exact(fun _=>i1 _)))|(apply callW.za;(first|exact(i1 _)))|(apply zG<;>intro ht));all_goals try simp (disch:=first|omega|(simp only [lens];first|done|omega)) only [go_sem,d1,d2]))
       exact DownV.pure hw (zz _ rfl)
      ·have d2:=decide_eq_false c2
       rw [if_neg (fun h=>c2 h.2.2)]
       repeat' (first|apply zs_|apply zb_|apply zc_|apply zt_ rfl|apply zf_ rfl|(refine zd_ rfl ?_ ?_<;>intro ht<;>try omega)|((first|apply zr_|apply zk_|apply ze_|apply zq_|(apply callW.mk_pu;(first|exact(fun _=>i1 _)))|(apply callW.za;(first|exact(i1 _)))|(apply zG<;>intro ht));all_goals try simp (disch:=first|omega|(simp only [lens];first|done|omega)) only [go_sem,d1,d2]))
       exact DownV.pure hw (zz _ rfl)
     ·have d1:=decide_eq_false c1
      rw [if_neg (fun h=>c1 h.2.1)]
      repeat' (first|apply zs_|apply zb_|apply zc_|apply zt_ rfl|apply zf_ rfl|(refine zd_ rfl ?_ ?_<;>intro ht<;>try omega)|((first|apply zr_|apply zk_|apply ze_|apply zq_|(apply callW.mk_pu;(first|exact(fun _=>i1 _)))|(apply callW.za;(first|exact(i1 _)))|(apply zG<;>intro ht));all_goals try simp (disch:=first|omega|(simp only [lens];first|done|omega)) only [go_sem,d1]))
      exact DownV.pure hw (zz _ rfl)
end
section
theorem rlH{k:Nat}(h:Hash):RL k (.agg (hc h)):=z2k (z6h h)
theorem zhw(J:Store)(m n:Int)(o nw:Hash)(x:AV)(ps:List Hash)(hx:RdSl J 32 (hr ps) x)(hl:ps.length<1000000):
  ACallsTo TC 46 [.int .i64 m,.int .i64 n,.agg (hc o),.agg (hc nw),x] J (.int .i64 (chkH m n o nw ps)) J:=
 zjv J m n o.1 nw.1 x (hb ps) (by rw [z4u];exact hx) (hb_H ps) o.2 nw.2 (by rw [z35];exact hl)
theorem zi8(J:Store)(m n:Int)(o nw:Hash)(x:AV)(ps:List Hash)(hx:RdSl J 32 (hr ps) x)(hl:ps.length<1000000):
  ACallsTo TC 48 [.int .i64 m,.int .i64 n,.agg (hc o),.agg (hc nw),x] J (.int .i64 (chkH m n o nw ps)) J:=by
 obtain⟨x0,h0,hd⟩:=hx.lend (z1w ps)
 have hi:∀i:Int,RL 0 (.int .i64 i):=fun i=>by simp [RL]
 have:=ACallsTo.lend glok (zqi [] m n o nw x0 ps h0 hl) (drsc (rl0 (hi m) J) (drsc (rl0 (hi n) J) (drsc (rl0 (rlH o) J) (drsc (rl0 (rlH nw) J) (drs1 hd)))))
 rwa [show sh J.length (.int .i64 (chkH m n o nw ps))= .int .i64 (chkH m n o nw ps)from rfl,z6k,List.append_nil]at this
def z2i(l:List Hash)(m:Int):List Hash:=unb (z1s (hb l) m)
theorem zaw(l:List Hash)(m:Int):hb (z2i l m)=z1s (hb l) m:=zjm (zq5 (hb_H l))
theorem zdd(l:List Hash)(m:Int):(z2i l m).length<=l.length+1:=by
 have:=zq6 (m:=m) (hb_H l)
 rwa [<-zaw,z35,z35]at this
theorem zqp(J:Store)(l:List Hash)(x:AV)(m:Int)(hx:SlV 32 (hr l) x)(hl:l.length<1000000):
  ACallsTo TC 89 [x,.int .i64 m] J (.tup [z15 32 (hr (z2i l m)),.int .i64 (z2w (hb l) m)]) J:=by
 refine ACallsP.toDown (zqo J (hb l) x m (by rw [z4u];exact hx) (hb_H l) (by rw [z35];exact hl)) fun hw v J' h=> ?_
 obtain⟨v2,rfl,h⟩:=h
 rw [<-zaw,z4u]at h
 obtain⟨y,rfl⟩:=h.ext
 refine DownV.all hw (drT (drsc ?_ (drs1 (FrzD.same (by simp [RL])))))
 rcases h with h| ⟨rfl,h0,_⟩
 ·exact h.frz (z1w _)
 ·unfold z15
  rw [if_neg h0]
  simp only [DR]
  exact .inl ⟨_,_,rfl,by simp,DRss.refl (z6c _ _ _) _ (z1w _)⟩
theorem zke(J:Store)(l:List Hash)(x:AV)(m:Int)(hx:SlV 32 (hr l) x)(hl:l.length<1000000):
  ACallsTo TC 35 [x,.int .i64 m] J (.tup [z15 32 (hr (z2i l m)),.int .i64 (z2w (hb l) m)]) J:=by
 refine ACallsP.toDown (zkd J (hb l) x m (by rw [z4u];exact hx) (hb_H l) (by rw [z35];exact hl)) fun hw v J' h=> ?_
 obtain⟨v2,rfl,h⟩:=h
 rw [<-zaw,z4u]at h
 obtain⟨y,rfl⟩:=h.ext
 exact DownV.all hw (drT (drsc (h.frz (z1w _)) (drs1 (FrzD.same (by simp [RL])))))
attribute [local irreducible] ACallsTo ACallsP
end
section
set_option maxRecDepth 10000
@[go_sem] def qxr0:List AIns:=[
 yI 2 (.alloc zZ0),
 yI 3 (.mv (.v (.str []))),
 yI 4 (.mv (.v (.bool false)))]
@[go_sem] def qxr1:List AIns:=[
 yM 7 0,
 yI 8 (.call (.v (.fn 109 [])) [(.t 7),(.v (.int .u64 32))]),
 yM 6 8,
 yI 9 (.ext 0 (.t 6)),
 yI 10 (.ext 1 (.t 6)),
 yI 11 (.ext 2 (.t 6)),
 yM 5 9,
 yM 3 10,
 yM 4 11]
@[go_sem] def qxr2:List AIns:=[
 yI 12 (.slice (.arr 32 1) (.t 2) none none none),
 yM 13 5,
 yI 14 (.copy 1 (.t 12) (.t 13))]
@[go_sem] def qxr3:List AIns:=[
 yI 15 (.load true 32 (.t 2)),
 yM 16 3,
 yM 17 4,
 ⟨none,none,.no,.store 32 (.t 2) (.t 15)⟩,
 yM 3 16,
 yM 4 17]
def qxc4:ACode:= .seq (.reg qxr3) .ret
def qxc5:ACode:= .seq (.reg qxr2) qxc4
def qxc6:ACode:= .seq (.reg qxr1) qxc5
def qxc7:ACode:= .seq (.reg qxr0) qxc6
theorem qxok:cFn TC 72=some (18,[.c 2 true 32,.t 3,.t 4],qxc7):=by kernel_rfl
@[go_sem] def qyr0:List AIns:=[
 yI 2 (.alloc zZ0),
 yI 3 (.mv (.v (.str []))),
 yI 4 (.mv (.v (.bool false)))]
@[go_sem] def qyr1:List AIns:=[
 yI 5 (.alloc zZ0)]
@[go_sem] def qyr2:List AIns:=[
 yM 7 0,
 yI 8 (.lenStr (.t 7)),
 yI 9 (.bin .lss .none (.t 8) (.v (.int .i64 32)))]
@[go_sem] def qyr3:List AIns:=[
 yI 10 (.load true 32 (.t 5)),
 ⟨none,none,.no,.store 32 (.t 2) (.t 10)⟩,
 yI 3 (.mv (.v (.str []))),
 yI 4 (.mv (.v (.bool false)))]
def qyc4:ACode:= .seq (.reg qyr3) .ret
def qyc5:ACode:= .cond (.t 9) qyc4 .skip
def qyc6:ACode:= .seq (.reg qyr2) qyc5
@[go_sem] def qyr7:List AIns:=[
 yI 6 (.mv (.v (.int .i64 0)))]
@[go_sem] def qyr8:List AIns:=[
 yM 11 6,
 yI 12 (.bin .lss .none (.t 11) (.v (.int .i64 32)))]
def qyc9:ACode:= .cond (.t 12) .skip (.exit 0)
def qyc10:ACode:= .seq (.reg qyr8) qyc9
@[go_sem] def qyr11:List AIns:=[
 yM 15 6,
 yM 16 0,
 yM 17 6,
 yI 18 (.ixStr (.t 16) (.t 17)),
 yI 19 (.iaArr 32 1 (.t 5) (.t 15)),
 ⟨none,none,.no,.store 1 (.t 19) (.t 18)⟩]
@[go_sem] def qyr12:List AIns:=[
 yM 13 6,
 yI 14 (.bin .add .none (.t 13) (.v (.int .i64 1))),
 yM 6 14]
def qyc13:ACode:= .seq (.block 1 (.reg qyr11)) (.reg qyr12)
def qyc14:ACode:= .seq qyc10 qyc13
def qyc15:ACode:= .loop qyc14
def qyc16:ACode:= .block 0 qyc15
def qyc17:ACode:= .seq (.reg qyr7) qyc16
@[go_sem] def qyr18:List AIns:=[
 yI 20 (.load true 32 (.t 5)),
 yM 21 0,
 yI 22 (.slice .str (.t 21) (some (.v (.int .i64 32))) none none),
 ⟨none,none,.no,.store 32 (.t 2) (.t 20)⟩,
 yM 3 22,
 yI 4 (.mv (.v (.bool true)))]
def qyc19:ACode:= .seq (.reg qyr18) .ret
def qyc20:ACode:= .seq qyc17 qyc19
def qyc21:ACode:= .seq qyc6 qyc20
def qyc22:ACode:= .seq (.reg qyr1) qyc21
def qyc23:ACode:= .seq (.reg qyr0) qyc22
theorem qyok:cFn TC 77=some (23,[.c 2 true 32,.t 3,.t 4],qyc23):=by kernel_rfl
@[go_sem] def qzr0:List AIns:=[
 yI 2 (.mv (.v (.str [])))]
@[go_sem] def qzr1:List AIns:=[
 yM 4 0,
 yI 5 (.bin .rem .none (.t 4) (.v (.int .u64 128))),
 yI 6 (.conv (.int .u8) (.t 5)),
 yI 7 (.lit 1 [(.t 6)]),
 yM 3 7]
@[go_sem] def qzr2:List AIns:=[
 yM 8 0,
 yI 9 (.bin .quo .none (.t 8) (.v (.int .u64 128))),
 yM 0 9]
@[go_sem] def qzr3:List AIns:=[
 yM 10 0,
 yI 11 (.bin .gtr .none (.t 10) (.v (.int .u64 0)))]
def qzc4:ACode:= .cond (.t 11) .skip (.exit 0)
def qzc5:ACode:= .seq (.reg qzr3) qzc4
@[go_sem] def qzr6:List AIns:=[
 yM 14 0,
 yI 15 (.bin .rem .none (.t 14) (.v (.int .u64 128))),
 yI 16 (.conv (.int .u8) (.t 15)),
 yI 17 (.bin .or .none (.t 16) (.v (.int .u8 128))),
 yI 18 (.lit 1 [(.t 17)]),
 yM 19 3,
 yI 20 (.appB (.t 18) (.t 19)),
 yM 3 20]
@[go_sem] def qzr7:List AIns:=[
 yM 12 0,
 yI 13 (.bin .quo .none (.t 12) (.v (.int .u64 128))),
 yM 0 13]
def qzc8:ACode:= .seq (.block 1 (.reg qzr6)) (.reg qzr7)
def qzc9:ACode:= .seq qzc5 qzc8
def qzc10:ACode:= .loop qzc9
def qzc11:ACode:= .block 0 qzc10
def qzc12:ACode:= .seq (.reg qzr2) qzc11
@[go_sem] def qzr13:List AIns:=[
 yM 21 3,
 yI 22 (.conv .str (.t 21)),
 yM 2 22]
def qzc14:ACode:= .seq (.reg qzr13) .ret
def qzc15:ACode:= .seq qzc12 qzc14
def qzc16:ACode:= .seq (.reg qzr1) qzc15
def qzc17:ACode:= .seq (.reg qzr0) qzc16
theorem qzok:cFn TC 58=some (23,[.t 2],qzc17):=by kernel_rfl
@[go_sem] def q10r0:List AIns:=[
 yI 2 (.mv (.v (.str [])))]
@[go_sem] def q10r1:List AIns:=[
 yM 3 0,
 yI 4 (.lenStr (.t 3)),
 yI 5 (.conv (.int .u64) (.t 4)),
 yI 6 (.call (.v (.fn 58 [])) [(.t 5)]),
 yM 7 0,
 yI 8 (.bin .add .none (.t 6) (.t 7)),
 yM 2 8]
def q10c2:ACode:= .seq (.reg q10r1) .ret
def q10c3:ACode:= .seq (.reg q10r0) q10c2
theorem q10ok:cFn TC 59=some (9,[.t 2],q10c3):=by kernel_rfl
@[go_sem] def q11r0:List AIns:=[
 yI 4 (.mv (.v (.str []))),
 yI 5 (.mv (.v (.str []))),
 yI 6 (.mv (.v (.bool false)))]
@[go_sem] def q11r1:List AIns:=[
 yM 7 1,
 yM 8 0,
 yI 9 (.lenStr (.t 8)),
 yI 10 (.conv (.int .u64) (.t 9)),
 yI 11 (.bin .gtr .none (.t 7) (.t 10))]
@[go_sem] def q11r2:List AIns:=[
 yI 4 (.mv (.v (.str []))),
 yI 5 (.mv (.v (.str []))),
 yI 6 (.mv (.v (.bool false)))]
def q11c3:ACode:= .seq (.reg q11r2) .ret
def q11c4:ACode:= .cond (.t 11) q11c3 .skip
def q11c5:ACode:= .seq (.reg q11r1) q11c4
@[go_sem] def q11r6:List AIns:=[
 yM 12 0,
 yM 13 1,
 yI 14 (.slice .str (.t 12) none (some (.t 13)) none),
 yM 15 0,
 yM 16 1,
 yI 17 (.slice .str (.t 15) (some (.t 16)) none none),
 yM 4 14,
 yM 5 17,
 yI 6 (.mv (.v (.bool true)))]
def q11c7:ACode:= .seq (.reg q11r6) .ret
def q11c8:ACode:= .seq q11c5 q11c7
def q11c9:ACode:= .seq (.reg q11r0) q11c8
theorem q11ok:cFn TC 109=some (18,[.t 4,.t 5,.t 6],q11c9):=by kernel_rfl
end
section
def u8(n:Nat):UInt8:=UInt8.ofNat n
theorem zjj{n:Nat}(h:n<256):(u8 n).toNat=n:=by unfold u8;rw [UInt8.toNat_ofNat'];omega
def z47:Nat->Nat->List UInt8
 | 0,_=>[]
 |f+1,n=>if n<128 then [u8 (n+128)]else z47 f (n/128)++ [u8 (n%128+128)]
theorem zfj(f n:Nat):z47 (f+1) n=if n<128 then [u8 (n+128)]else z47 f (n/128)++ [u8 (n%128+128)]:=rfl
theorem zfi:∀(f g n:Nat),n<128^f->n<128^g->0<f->0<g->z47 f n=z47 g n
 | 0,_,_,_,_,h,_=>by omega
 | _+1,0,_,_,_,_,h=>by omega
 |f+1,g+1,n,h,h',_,_=>by
  simp only [z47]
  by_cases h1:n<128
  ·rw [if_pos h1,if_pos h1]
  ·rw [if_neg h1,if_neg h1]
   rw [Nat.pow_succ]at h h'
   have hf:0<f:=by
    rcases Nat.eq_zero_or_pos f with h0|h0
    ·subst h0;simp at h;omega
    ·exact h0
   have hg:0<g:=by
    rcases Nat.eq_zero_or_pos g with h0|h0
    ·subst h0;simp at h';omega
    ·exact h0
   rw [zfi f g (n/128) (by omega) (by omega) hf hg]
def numS(n:Nat):List UInt8:=if n<128 then [u8 n]else z47 10 (n/128)++ [u8 (n%128)]
end
section
attribute [local irreducible] ACallsTo ACallsP
theorem or128{n:Nat}(h:n<128):n ||| 128=n+128:=by
 have:=Nat.two_pow_add_eq_or_of_lt (i:=7) (b:=n) h 1
 simp at this
 rw [Nat.or_comm,<-this,Nat.add_comm]
theorem zlc(b:UInt8)(s:List UInt8):zn (b::s)=[.int .u8 b.toNat]::zn s:=by simp [zn,B8]
def preF(m:Nat):List UInt8:=if m=0 then []else z47 10 m
theorem zq4{m:Nat}(h:0<m)(h2:m<18446744073709551616):preF m=preF (m/128)++ [u8 (m%128+128)]:=by
 unfold preF
 rw [if_neg (by omega),show (10:Nat)=9+1 from rfl,zfj]
 by_cases h1:m<128
 ·rw [if_pos h1,if_pos (by omega),show m%128+128=m+128 by omega];rfl
 ·rw [if_neg h1,if_neg (by omega),zfi 9 10 (m/128) (by omega) (by omega) (by decide) (by decide)]
theorem zoy(n:Nat):numS n=preF (n/128)++ [u8 (n%128)]:=by
 unfold numS preF
 by_cases h1:n<128
 ·rw [if_pos h1,if_pos (by omega),show n%128=n by omega];rfl
 ·rw [if_neg h1,if_neg (by omega)]
theorem zm3(J:Store)(n:Nat)(h:n<18446744073709551616):ACallsTo TC 58 [.int .u64 n] J (.str (numS n)) J:=by
 refine ACallsTo.of_body qzok (by simp) fun hw _=> ?_
 have hb:[[AV.int .u8 ((n:Int)%128)]]=zn [u8 (n%128)]:=by
  have:=zjj (n:=n%128) (by omega)
  simp [zn,B8,this]
 have hd:(n:Int)/128=((n/128:Nat):Int):=by simp
 have hn:=zoy n
 generalize u8 (n%128)=c0 at*
 repeat' (first|apply zs_|apply zb_|apply zc_|apply zt_ rfl|apply zf_ rfl|(refine zd_ rfl ?_ ?_<;>intro ht<;>try omega)|((first|apply zr_|apply zk_|apply ze_|apply zq_|(apply zG<;>intro ht));all_goals try simp (disch:=first|omega|(simp only [lens,z6,z7,lQr,zx];first|done|omega)) only [go_sem,hb,hd]))
 refine zW.loop (fun k ρ J'=>∃(m:Nat) (b:List UInt8) (v:AV),m<128^k/\ m<18446744073709551616/\ preF m++b=numS n/\ 0<b.length/\ b.length+k<=12/\ Ext J J'/\ (v= .vsl 1 (zn b) true \/ ∃r,J.length<=r/\ v= .sl r 0 b.length none 1/\ J'[r]? =some (some (zn b)))/\ ρ 0= .int .u64 m/\ ρ 3=v) 10 ?_ ?_
 ·exact⟨n/128,[c0],_,by omega,by omega,hn.symm,by simp,by simp,Ext.refl _,.inl rfl,by simp (disch:=first|omega|(simp only [lens,z6,z7,lQr,zx];first|done|omega)) only [go_sem],by simp (disch:=first|omega|(simp only [lens,z6,z7,lQr,zx];first|done|omega)) only [go_sem,hb]⟩
 ·rintro k ρ J' ⟨m,b,v,hmk,hm,hmb,hb0,hbk,he,hv,q0,q3⟩
  by_cases h0:m=0
  ·subst h0
   rw [<-hmb]
   have e0:preF 0++b=b:=rfl
   rw [e0]
   rcases hv with rfl| ⟨r,hr,rfl,hg⟩
   ·repeat' (first|apply zs_|apply zb_|apply zc_|apply zt_ rfl|apply zf_ rfl|(refine zd_ rfl ?_ ?_<;>intro ht<;>try omega)|((first|apply zr_|apply zk_|apply ze_|apply zq_|(apply zG<;>intro ht));all_goals try simp (disch:=first|omega|(simp only [lens,z6,z7,lQr,zx];first|done|omega)) only [go_sem,q0,q3]))
    exact Ext.pure hw he (zz _ rfl)
   ·repeat' (first|apply zs_|apply zb_|apply zc_|apply zt_ rfl|apply zf_ rfl|(refine zd_ rfl ?_ ?_<;>intro ht<;>try omega)|((first|apply zr_|apply zk_|apply ze_|apply zq_|(apply zG<;>intro ht));all_goals try simp (disch:=first|omega|(simp only [lens,z6,z7,lQr,zx];first|done|omega)) only [go_sem,q0,q3,hg]))
    exact Ext.pure hw he (zz _ rfl)
  ·have hst:=zq4 (m:=m) (by omega) hm
   have hc8:=zjj (n:=m%128+128) (by omega)
   have hor:((((m:Int)%128).toNat ||| 128:Nat):Int)=(((u8 (m%128+128)).toNat:Nat):Int):=by
    have:((m:Int)%128).toNat=m%128:=by omega
    rw [this,or128 (by omega),hc8]
   have hd2:(m:Int)/128=((m/128:Nat):Int):=by simp
   rw [hst,List.append_assoc]at hmb
   have hkk:∃k',k=k'+1:=by
    cases k with
    |zero=>simp at hmk;omega
    |succ k=>exact⟨k,rfl⟩
   obtain⟨k,rfl⟩:=hkk
   rw [Nat.pow_succ]at hmk
   generalize u8 (m%128+128)=c at*
   have hcat:[AV.int .u8 (c.toNat:Int)]::zn b=zn (c::b):=(zlc c b).symm
   have hlen:(zn b).length=b.length:=zx b
   rcases hv with rfl| ⟨r,hr,rfl,hg⟩
   ·repeat' (first|apply zs_|apply zb_|apply zc_|apply zt_ rfl|apply zf_ rfl|(refine zd_ rfl ?_ ?_<;>intro ht<;>try omega)|((first|apply zr_|apply zk_|apply ze_|apply zq_|(apply zG<;>intro ht));all_goals try simp (disch:=first|omega|(simp only [lens,z6,z7,lQr,zx];first|done|omega)) only [go_sem,q0,q3,hor,hd2,hcat]))
    exact⟨k,by omega,m/128,c::b,_,by omega,by omega,hmb,by simp,by simp;omega,he.app,.inr ⟨J'.length,he.le,by simp [Nat.add_comm],by simp⟩,rfl,rfl⟩
   ·repeat' (first|apply zs_|apply zb_|apply zc_|apply zt_ rfl|apply zf_ rfl|(refine zd_ rfl ?_ ?_<;>intro ht<;>try omega)|((first|apply zr_|apply zk_|apply ze_|apply zq_|(apply zG<;>intro ht));all_goals try simp (disch:=first|omega|(simp only [lens,z6,z7,lQr,zx];first|done|omega)) only [go_sem,q0,q3,hor,hd2,hcat,hg]))
    exact⟨k,by omega,m/128,c::b,_,by omega,by omega,hmb,by simp,by simp;omega,he.app,.inr ⟨J'.length,he.le,by simp [Nat.add_comm],by simp⟩,rfl,rfl⟩
end
section
attribute [local irreducible] ACallsTo ACallsP
end
section
attribute [local irreducible] ACallsTo ACallsP
def z4k(s:List UInt8)(n:Nat):Option (List UInt8 × List UInt8):=if n<=s.length then some (s.take n,s.drop n)else none
def stV:Option (List UInt8 × List UInt8)->AV
 |none=> .tup [.str [],.str [],.bool false]
 |some (a,r)=> .tup [.str a,.str r,.bool true]
def z81(s:List UInt8):List UInt8:=numS s.length++s
theorem zhp(n:Nat):(numS n).length<=11:=by
 unfold numS
 split
 ·simp
 ·have:∀f m,(z47 f m).length<=f:=by
   intro f
   induction f with
   |zero=>intro m;simp [z47]
   |succ f ih=>
    intro m
    rw [zfj]
    split
    ·simp
    ·have:=ih (m/128);simp;omega
  have:=this 10 (n/128)
  simp;omega
theorem zm4(J:Store)(s:List UInt8)(hs:s.length<1000000000):ACallsTo TC 59 [.str s] J (.str (z81 s)) J:=by
 refine ACallsTo.of_body q10ok (by simp) fun hw _=> ?_
 have hN:=fun J=>zm3 J s.length (by omega)
 have h1:=zhp s.length
 unfold z81
 generalize numS s.length=N at*
 repeat' (first|apply zs_|apply zb_|apply zc_|apply zt_ rfl|apply zf_ rfl|(refine zd_ rfl ?_ ?_<;>intro ht<;>try omega)|((first|apply zr_|apply zk_|apply ze_|apply zq_|(apply callW.mk_pu;(first|exact(fun _=>hN _)))|(apply callW.za;(first|exact(hN _)))|(apply zG<;>intro ht));all_goals try simp (disch:=first|omega|(simp only [lens,z6,z7,lQr,zx,zm];first|done|omega)) only [go_sem]))
 exact DownV.same hw (zz _ rfl)
theorem zsh(J:Store)(s:List UInt8)(n:Nat)(hs:s.length<1000000000)(hn:n<18446744073709551616):ACallsTo TC 109 [.str s,.int .u64 n] J (stV (z4k s n)) J:=by
 refine ACallsTo.of_body q11ok (by simp) fun hw _=> ?_
 by_cases h:n<=s.length
 ·unfold z4k
  rw [if_pos h]
  unfold stV
  repeat' (first|apply zs_|apply zb_|apply zc_|apply zt_ rfl|apply zf_ rfl|(refine zd_ rfl ?_ ?_<;>intro ht<;>try omega)|((first|apply zr_|apply zk_|apply ze_|apply zq_|(apply zG<;>intro ht));all_goals try simp (disch:=first|omega|(simp only [lens,z6,z7,lQr,zx,zm];first|done|omega)) only [go_sem]))
  exact DownV.same hw (zz _ rfl)
 ·unfold z4k
  rw [if_neg h]
  unfold stV
  repeat' (first|apply zs_|apply zb_|apply zc_|apply zt_ rfl|apply zf_ rfl|(refine zd_ rfl ?_ ?_<;>intro ht<;>try omega)|((first|apply zr_|apply zk_|apply ze_|apply zq_|(apply zG<;>intro ht));all_goals try simp (disch:=first|omega|(simp only [lens,z6,z7,lQr,zx,zm];first|done|omega)) only [go_sem]))
  exact DownV.same hw (zz _ rfl)
end
section
attribute [local irreducible] ACallsTo ACallsP
def toH(l:List UInt8):Hash:=if h:l.length=32 then⟨l,h⟩else zeroH
theorem zh5{l:List UInt8}(h:l.length=32):hc (toH l)=zj l:=by simp [toH,h,hc]
theorem zsl(h:Hash):toH h.1=h:=by simp [toH,h.2]
def unS(s:List UInt8):Option (Hash × List UInt8):=(z4k s 32).map fun x=>(toH x.1,x.2)
def unV:Option (Hash × List UInt8)->AV
 |none=> .tup [.agg (hc zeroH),.str [],.bool false]
 |some (h,r)=> .tup [.agg (hc h),.str r,.bool true]
theorem zjk{s:List UInt8}(h:¬32<=s.length):unS s=none:=by simp [unS,z4k,h]
theorem zbp{s:List UInt8}(h:32<=s.length):unS s=some (toH (s.take 32),s.drop 32):=by simp [unS,z4k,h]
theorem zbq(h:Hash)(r:List UInt8):unV (some (h,r))= .tup [.agg (hc h),.str r,.bool true]:=rfl
theorem zjl:unV none= .tup [.agg z32,.str [],.bool false]:=rfl
theorem zb7{k:Nat}{cs:List AV}{r:List UInt8}{b:Bool}(h:RLs k cs):RL k (.tup [.agg cs,.str r,.bool b]):=by
 simp only [RL,RLs];exact⟨h,trivial,trivial,trivial⟩
theorem z85:z32.length=32:=rfl
theorem zm5(J:Store)(s:List UInt8)(hs:s.length<1000000000):ACallsTo TC 72 [.str s] J (unV (unS s)) J:=by
 refine ACallsTo.of_body qxok (by simp) fun hw _=> ?_
 have hT:=fun J=>zsh J s 32 hs (by omega)
 by_cases h:32<=s.length
 ·rw [zbp h]
  rw [zbq,zh5 (by simp;omega)]
  have ht:z4k s 32=some (s.take 32,s.drop 32):=by simp [z4k,h]
  rw [ht]at hT
  unfold stV at hT
  have hl:(s.take 32).length=32:=by simp;omega
  generalize s.take 32=a at*
  have hf:=zfr a
  have hft:(zn a).take 32=zn a:=List.take_of_length_le (by rw [zx];omega)
  have hfc:(zj a).length=32:=by rw [zm];exact hl
  have hfd:(zj a).drop 32=[]:=List.drop_of_length_le (by omega)
  have hfk:(zj a).take 32=zj a:=List.take_of_length_le (by omega)
  repeat' (first|apply zs_|apply zb_|apply zc_|apply zt_ rfl|apply zf_ rfl|(refine zd_ rfl ?_ ?_<;>intro ht<;>try omega)|((first|apply zr_|apply zk_|apply ze_|apply zq_|(apply callW.mk_pu;(first|exact(fun _=>hT _)))|(apply callW.za;(first|exact(hT _)))|(apply zG<;>intro ht));all_goals try simp (disch:=first|omega|(simp only [lens,z6,z7,lQr,zx,zm];first|done|omega)) only [go_sem,hf,hft,hl,hfc,hfd,hfk,List.append_nil,z85]))
  exact DownV.pure hw (zb7 (z2b _))
 ·rw [zjk h,zjl]
  have ht:z4k s 32=none:=by simp [z4k,h]
  rw [ht]at hT
  unfold stV at hT
  have hbe:(zn []).flatten=([]:List AV):=rfl
  repeat' (first|apply zs_|apply zb_|apply zc_|apply zt_ rfl|apply zf_ rfl|(refine zd_ rfl ?_ ?_<;>intro ht<;>try omega)|((first|apply zr_|apply zk_|apply ze_|apply zq_|(apply callW.mk_pu;(first|exact(fun _=>hT _)))|(apply callW.za;(first|exact(hT _)))|(apply zG<;>intro ht));all_goals try simp (disch:=first|omega|(simp only [lens,z6,z7,lQr,zx,zm];first|done|omega)) only [go_sem,z85,hbe,List.nil_append,List.drop_zero]))
  exact DownV.pure hw (zb7 (cs:=z32) (z2b (List.replicate 32 0)))
def z4l(s:List UInt8)(i:Nat):List AV:=zj (s.take i)++List.replicate (32-i) (.int .u8 0)
theorem zss{s:List UInt8}{i:Nat}(h:i<=32)(hs:32<=s.length):(z4l s i).length=32:=by simp [z4l,zm];omega
theorem zst{s:List UInt8}{i:Nat}(h:i<32)(hs:32<=s.length):
  (z4l s i).take i++AV.int .u8 (s.getD i 0).toNat::(z4l s i).drop (i+1)=z4l s (i+1):=by
 have h1:(zj (s.take i)).length=i:=by rw [zm,List.length_take];omega
 have hs2:s.take (i+1)=s.take i++ [s.getD i 0]:=by
  rw [<-List.take_append_getElem (by omega:i<s.length)];simp [show i<s.length by omega]
 unfold z4l
 rw [List.take_append_of_le_length (by omega),List.take_of_length_le (by omega),List.drop_append,List.drop_of_length_le (by omega),h1,show i+1-i=1 by omega,List.nil_append,hs2]
 rw [List.drop_replicate,show 32-i-1=32-(i+1)by omega]
 simp [zj]
theorem zsr{s:List UInt8}:z4l s 32=zj (s.take 32):=by simp [z4l]
theorem zqw(J:Store)(s:List UInt8)(hs:s.length<1000000000):ACallsTo TC 77 [.str s] J (unV (unS s)) J:=by
 refine ACallsTo.of_body qyok (by simp) fun hw _=> ?_
 by_cases h:32<=s.length
 ·rw [zbp h]
  rw [zbq,zh5 (by simp;omega)]
  repeat' (first|apply zs_|apply zb_|apply zc_|apply zt_ rfl|apply zf_ rfl|(refine zd_ rfl ?_ ?_<;>intro ht<;>try omega)|((first|apply zr_|apply zk_|apply ze_|apply zq_|(apply zG<;>intro ht));all_goals try simp (disch:=first|omega|(simp only [lens,z6,z7,lQr,zx,zm];first|done|omega)) only [go_sem,z85]))
  refine zW.loop (fun m ρ J'=>∃i:Nat,m+i=32/\ ρ 0= .str s/\ ρ 2= .ptr J.length 0 0/\ ρ 5= .ptr (J.length+1) 0 0/\ ρ 6= .int .i64 i/\ J'=J++ [some [z32],some [z4l s i]]) 32 ?_ ?_
  ·exact⟨0,by omega,by simp (disch:=first|omega|(simp only [lens,z6,z7,lQr,zx,zm];first|done|omega)) only [go_sem],by simp (disch:=first|omega|(simp only [lens,z6,z7,lQr,zx,zm];first|done|omega)) only [go_sem],by simp (disch:=first|omega|(simp only [lens,z6,z7,lQr,zx,zm];first|done|omega)) only [go_sem],by simp (disch:=first|omega|(simp only [lens,z6,z7,lQr,zx,zm];first|done|omega)) only [go_sem];rfl,rfl⟩
  ·rintro m ρ J' ⟨i,hm,q0,q2,q5,q6,rfl⟩
   have hlen:=zss (s:=s) (i:=i) (by omega) h
   by_cases hi:i<32
   ·have hst:=zst hi h
    generalize z4l s i=cc at*
    repeat' (first|apply zs_|apply zb_|apply zc_|apply zt_ rfl|apply zf_ rfl|(refine zd_ rfl ?_ ?_<;>intro ht<;>try omega)|((first|apply zr_|apply zk_|apply ze_|apply zq_|(apply zG<;>intro ht));all_goals try simp (disch:=first|omega|(simp only [lens,z6,z7,lQr,zx,zm];first|done|omega)) only [go_sem,q0,q2,q5,q6,hlen,hst,z85]))
    exact⟨31-i,by omega,i+1,by omega,by simp,rfl⟩
   ·obtain rfl:i=32:=by omega
    rw [zsr]at*
    have hd:List.drop 32 z32=[]:=rfl
    repeat' (first|apply zs_|apply zb_|apply zc_|apply zt_ rfl|apply zf_ rfl|(refine zd_ rfl ?_ ?_<;>intro ht<;>try omega)|((first|apply zr_|apply zk_|apply ze_|apply zq_|(apply zG<;>intro ht));all_goals try simp (disch:=first|omega|(simp only [lens,z6,z7,lQr,zx,zm];first|done|omega)) only [go_sem,q0,q2,q5,q6,hlen,hd,z85]))
    exact DownV.pure hw (zb7 (z2b _))
 ·rw [zjk h,zjl]
  have hd:List.drop 32 z32=[]:=rfl
  repeat' (first|apply zs_|apply zb_|apply zc_|apply zt_ rfl|apply zf_ rfl|(refine zd_ rfl ?_ ?_<;>intro ht<;>try omega)|((first|apply zr_|apply zk_|apply ze_|apply zq_|(apply zG<;>intro ht));all_goals try simp (disch:=first|omega|(simp only [lens,z6,z7,lQr,zx,zm];first|done|omega)) only [go_sem,z85,hd]))
  exact DownV.pure hw (zb7 (cs:=z32) (z2b (List.replicate 32 0)))
end
section
attribute [local irreducible] ACallsTo ACallsP
end
section
attribute [local irreducible] ACallsTo ACallsP
def catS(l:List Hash):List UInt8:=(l.map (·.1)).flatten
theorem z7o:∀(l:List Hash),(catS l).length=32*l.length
 | []=>rfl
 |h::l=>by
  have:=z7o l
  simp only [catS,List.map_cons,List.flatten_cons,List.length_append,List.length_cons,h.2]at this ⊢
  omega
theorem zgd{l:List Hash}{i:Nat}(h:i<l.length):catS (l.take (i+1))=catS (l.take i)++(hd l i).1:=by
 rw [z7b h];simp [catS]
end
section
set_option maxRecDepth 10000
@[go_sem] def q12r0:List AIns:=[
 yI 4 (.mv (.v .nilsl)),
 yI 5 (.mv (.v (.int .i64 0)))]
@[go_sem] def q12r1:List AIns:=[
 yM 8 1,
 yI 9 (.bin .lss .none (.t 8) (.v (.int .i64 0))),
 yM 10 9,
 yG 11 10 false (.mv (.t 1)),
 yG 12 10 false (.mv (.t 0)),
 yG 13 10 false (.lenSl (.t 12)),
 yG 14 10 false (.bin .geq .none (.t 11) (.t 13)),
 yI 15 (.pick (.t 10) (.v (.bool true)) (.t 14))]
@[go_sem] def q12r2:List AIns:=[
 yI 4 (.mv (.v .nilsl)),
 yI 5 (.mv (.v (.int .i64 2)))]
def q12c3:ACode:= .seq (.reg q12r2) .ret
def q12c4:ACode:= .cond (.t 15) q12c3 .skip
def q12c5:ACode:= .seq (.reg q12r1) q12c4
@[go_sem] def q12r6:List AIns:=[
 yI 6 (.mv (.v .nilsl))]
@[go_sem] def q12r7:List AIns:=[
 yM 16 0,
 yI 17 (.lenSl (.t 16)),
 yI 18 (.bin .gtr .none (.t 17) (.v (.int .i64 1)))]
def q12c8:ACode:= .cond (.t 18) .skip (.exit 0)
def q12c9:ACode:= .seq (.reg q12r7) q12c8
@[go_sem] def q12r10:List AIns:=[
 yM 19 0,
 yI 20 (.lenSl (.t 19)),
 yI 21 (.call (.v (.fn 82 [])) [(.t 20)]),
 yM 7 21]
@[go_sem] def q12r11:List AIns:=[
 yM 22 1,
 yM 23 7,
 yI 24 (.bin .lss .none (.t 22) (.t 23))]
@[go_sem] def q12r12:List AIns:=[
 yM 25 6,
 yM 26 0,
 yM 27 7,
 yI 28 (.slice (.sl 32) (.t 26) (some (.t 27)) none none),
 yI 29 (.call (.v (.fn 39 [])) [(.t 28)]),
 yI 30 (.lit 32 [(.t 29)]),
 yI 31 (.app 32 (.t 25) (.t 30)),
 yM 6 31]
@[go_sem] def q12r13:List AIns:=[
 yM 32 0,
 yM 33 7,
 yI 34 (.slice (.sl 32) (.t 32) none (some (.t 33)) none),
 yM 0 34]
def q12c14:ACode:= .seq (.reg q12r12) (.reg q12r13)
@[go_sem] def q12r15:List AIns:=[
 yM 35 6,
 yM 36 0,
 yM 37 7,
 yI 38 (.slice (.sl 32) (.t 36) none (some (.t 37)) none),
 yI 39 (.call (.v (.fn 39 [])) [(.t 38)]),
 yI 40 (.lit 32 [(.t 39)]),
 yI 41 (.app 32 (.t 35) (.t 40)),
 yM 6 41]
@[go_sem] def q12r16:List AIns:=[
 yM 42 0,
 yM 43 7,
 yI 44 (.slice (.sl 32) (.t 42) (some (.t 43)) none none),
 yM 45 1,
 yM 46 7,
 yI 47 (.bin .sub .none (.t 45) (.t 46)),
 yM 0 44,
 yM 1 47]
def q12c17:ACode:= .seq (.reg q12r15) (.reg q12r16)
def q12c18:ACode:= .cond (.t 24) q12c14 q12c17
def q12c19:ACode:= .seq (.reg q12r11) q12c18
def q12c20:ACode:= .seq (.reg q12r10) q12c19
def q12c21:ACode:= .block 1 q12c20
def q12c22:ACode:= .seq q12c9 q12c21
def q12c23:ACode:= .loop q12c22
@[go_sem] def q12r24:List AIns:=[
 yM 48 6,
 yI 49 (.call (.v (.fn 85 [])) [(.t 48)])]
@[go_sem] def q12r25:List AIns:=[
 yM 50 6,
 yM 4 50,
 yI 5 (.mv (.v (.int .i64 0)))]
def q12c26:ACode:= .seq (.reg q12r25) .ret
def q12c27:ACode:= .seq (.reg q12r24) q12c26
def q12c28:ACode:= .seq (.block 0 q12c23) q12c27
def q12c29:ACode:= .seq (.reg q12r6) q12c28
def q12c30:ACode:= .seq q12c5 q12c29
def q12c31:ACode:= .seq (.reg q12r0) q12c30
theorem q12ok:cFn TC 37=some (51,[.t 4,.t 5],q12c31):=by kernel_rfl
@[go_sem] def q13r0:List AIns:=[
 yI 4 (.mv (.v .nilsl)),
 yI 5 (.mv (.v (.int .i64 0)))]
@[go_sem] def q13r1:List AIns:=[
 yM 11 1,
 yI 12 (.bin .lss .none (.t 11) (.v (.int .i64 0))),
 yM 13 12,
 yG 14 13 false (.mv (.t 1)),
 yG 15 13 false (.mv (.t 0)),
 yG 16 13 false (.lenSl (.t 15)),
 yG 17 13 false (.bin .geq .none (.t 14) (.t 16)),
 yI 18 (.pick (.t 13) (.v (.bool true)) (.t 17))]
@[go_sem] def q13r2:List AIns:=[
 yI 4 (.mv (.v .nilsl)),
 yI 5 (.mv (.v (.int .i64 2)))]
def q13c3:ACode:= .seq (.reg q13r2) .ret
def q13c4:ACode:= .cond (.t 18) q13c3 .skip
def q13c5:ACode:= .seq (.reg q13r1) q13c4
@[go_sem] def q13r6:List AIns:=[
 yM 19 0,
 yI 20 (.lenSl (.t 19)),
 yI 21 (.bin .eql .none (.t 20) (.v (.int .i64 1)))]
@[go_sem] def q13r7:List AIns:=[
 yI 4 (.mv (.v .nilsl)),
 yI 5 (.mv (.v (.int .i64 0)))]
def q13c8:ACode:= .seq (.reg q13r7) .ret
def q13c9:ACode:= .cond (.t 21) q13c8 .skip
def q13c10:ACode:= .seq (.reg q13r6) q13c9
@[go_sem] def q13r11:List AIns:=[
 yM 22 0,
 yI 23 (.lenSl (.t 22)),
 yI 24 (.call (.v (.fn 49 [])) [(.t 23)]),
 yM 6 24]
@[go_sem] def q13r12:List AIns:=[
 yM 25 1,
 yM 26 6,
 yI 27 (.bin .lss .none (.t 25) (.t 26))]
@[go_sem] def q13r13:List AIns:=[
 yM 29 0,
 yM 30 6,
 yI 31 (.slice (.sl 32) (.t 29) none (some (.t 30)) none),
 yM 32 1,
 yI 33 (.call (.v (.fn 15 [])) [(.t 31),(.t 32)]),
 yM 28 33,
 yI 34 (.ext 0 (.t 28)),
 yI 35 (.ext 1 (.t 28)),
 yM 7 34,
 yM 8 35]
@[go_sem] def q13r14:List AIns:=[
 yM 36 7,
 yM 37 0,
 yM 38 6,
 yI 39 (.slice (.sl 32) (.t 37) (some (.t 38)) none none),
 yI 40 (.call (.v (.fn 50 [])) [(.t 39)]),
 yI 41 (.lit 32 [(.t 40)]),
 yI 42 (.app 32 (.t 36) (.t 41)),
 yM 4 42,
 yI 5 (.mv (.v (.int .i64 0)))]
def q13c15:ACode:= .seq (.reg q13r14) .ret
def q13c16:ACode:= .seq (.reg q13r13) q13c15
def q13c17:ACode:= .cond (.t 27) q13c16 .skip
def q13c18:ACode:= .seq (.reg q13r12) q13c17
@[go_sem] def q13r19:List AIns:=[
 yM 44 0,
 yM 45 6,
 yI 46 (.slice (.sl 32) (.t 44) (some (.t 45)) none none),
 yM 47 1,
 yM 48 6,
 yI 49 (.bin .sub .none (.t 47) (.t 48)),
 yI 50 (.call (.v (.fn 15 [])) [(.t 46),(.t 49)]),
 yM 43 50,
 yI 51 (.ext 0 (.t 43)),
 yI 52 (.ext 1 (.t 43)),
 yM 9 51,
 yM 10 52]
@[go_sem] def q13r20:List AIns:=[
 yM 53 9,
 yM 54 0,
 yM 55 6,
 yI 56 (.slice (.sl 32) (.t 54) none (some (.t 55)) none),
 yI 57 (.call (.v (.fn 50 [])) [(.t 56)]),
 yI 58 (.lit 32 [(.t 57)]),
 yI 59 (.app 32 (.t 53) (.t 58)),
 yM 4 59,
 yI 5 (.mv (.v (.int .i64 0)))]
def q13c21:ACode:= .seq (.reg q13r20) .ret
def q13c22:ACode:= .seq (.reg q13r19) q13c21
def q13c23:ACode:= .seq q13c18 q13c22
def q13c24:ACode:= .seq (.reg q13r11) q13c23
def q13c25:ACode:= .seq q13c10 q13c24
def q13c26:ACode:= .seq q13c5 q13c25
def q13c27:ACode:= .seq (.reg q13r0) q13c26
theorem zay:cFn TC 15=some (60,[.t 4,.t 5],q13c27):=by kernel_rfl
@[go_sem] def q14r0:List AIns:=[
 yI 5 (.box (.t 0)),
 yI 9 (.box (.t 4)),
 yI 10 (.mv (.v (.int .i64 0)))]
@[go_sem] def q14r1:List AIns:=[
 yM 15 2,
 yI 16 (.bin .lss .none (.t 15) (.v (.int .i64 1))),
 yM 17 16,
 yG 18 17 false (.mv (.t 2)),
 yG 19 17 false (.bin .gtr .none (.t 18) (.v (.int .i64 4096))),
 yI 20 (.pick (.t 17) (.v (.bool true)) (.t 19)),
 yM 21 20,
 yG 22 21 false (.mv (.t 1)),
 yG 23 21 false (.bin .lss .none (.t 22) (.v (.int .i64 0))),
 yI 24 (.pick (.t 21) (.v (.bool true)) (.t 23)),
 yM 25 24,
 yG 26 25 false (.mv (.t 1)),
 yG 27 25 false (.mv (.t 2)),
 yG 28 25 false (.bin .geq .none (.t 26) (.t 27)),
 yI 29 (.pick (.t 25) (.v (.bool true)) (.t 28))]
@[go_sem] def q14r2:List AIns:=[
 yI 10 (.mv (.v (.int .i64 2)))]
def q14c3:ACode:= .seq (.reg q14r2) .ret
def q14c4:ACode:= .cond (.t 29) q14c3 .skip
def q14c5:ACode:= .seq (.reg q14r1) q14c4
@[go_sem] def q14r6:List AIns:=[
 yM 30 2,
 yI 31 (.bin .sub .none (.t 30) (.v (.int .i64 1))),
 yM 11 31]
@[go_sem] def q14r7:List AIns:=[
 yI 12 (.mv (.v (.int .i64 0)))]
@[go_sem] def q14r8:List AIns:=[
 yM 32 3,
 yI 33 (.lenSl (.t 32)),
 yI 34 (.mv (.v (.int .i64 0)))]
@[go_sem] def q14r9:List AIns:=[
 yI 35 (.bin .lss .none (.t 34) (.t 33))]
@[go_sem] def q14r10:List AIns:=[
 yI 36 (.iaSl 32 (.t 32) (.t 34)),
 yI 37 (.load true 32 (.t 36)),
 yI 14 (.alloc zZ0),
 ⟨none,none,.no,.store 32 (.t 14) (.t 37)⟩]
@[go_sem] def q14r11:List AIns:=[
 yM 38 11,
 yI 39 (.bin .eql .none (.t 38) (.v (.int .i64 0)))]
def q14c12:ACode:= .cond (.t 39) (.exit 0) .skip
def q14c13:ACode:= .seq (.reg q14r11) q14c12
@[go_sem] def q14r14:List AIns:=[
 yM 40 1,
 yI 41 (.bin .rem .none (.t 40) (.v (.int .i64 2))),
 yI 42 (.bin .eql .none (.t 41) (.v (.int .i64 1))),
 yM 43 42,
 yG 44 43 false (.mv (.t 1)),
 yG 45 43 false (.mv (.t 11)),
 yG 46 43 false (.bin .eql .none (.t 44) (.t 45)),
 yI 47 (.pick (.t 43) (.v (.bool true)) (.t 46))]
@[go_sem] def q14r15:List AIns:=[
 yI 48 (.load true 32 (.t 14)),
 yI 49 (.load true 32 (.t 5)),
 yI 50 (.call (.v (.fn 88 [])) [(.t 48),(.t 49)]),
 ⟨none,none,.no,.store 32 (.t 5) (.t 50)⟩]
@[go_sem] def q14r16:List AIns:=[
 yM 51 1,
 yI 52 (.bin .rem .none (.t 51) (.v (.int .i64 2))),
 yI 53 (.bin .eql .none (.t 52) (.v (.int .i64 0))),
 yM 54 53,
 yG 55 54 true (.mv (.t 1)),
 yG 56 54 true (.bin .gtr .none (.t 55) (.v (.int .i64 0))),
 yI 57 (.pick (.t 54) (.t 56) (.v (.bool false)))]
def q14c17:ACode:= .cond (.t 57) .skip (.exit 2)
def q14c18:ACode:= .seq (.reg q14r16) q14c17
@[go_sem] def q14r19:List AIns:=[
 yM 58 1,
 yI 59 (.bin .quo .none (.t 58) (.v (.int .i64 2))),
 yM 60 11,
 yI 61 (.bin .quo .none (.t 60) (.v (.int .i64 2))),
 yM 1 59,
 yM 11 61]
def q14c20:ACode:= .block 3 (.reg q14r19)
def q14c21:ACode:= .seq q14c18 q14c20
def q14c22:ACode:= .loop q14c21
def q14c23:ACode:= .block 2 q14c22
def q14c24:ACode:= .seq (.reg q14r15) q14c23
@[go_sem] def q14r25:List AIns:=[
 yI 62 (.load true 32 (.t 5)),
 yI 63 (.load true 32 (.t 14)),
 yI 64 (.call (.v (.fn 88 [])) [(.t 62),(.t 63)]),
 ⟨none,none,.no,.store 32 (.t 5) (.t 64)⟩]
def q14c26:ACode:= .cond (.t 47) q14c24 (.reg q14r25)
def q14c27:ACode:= .seq (.reg q14r14) q14c26
@[go_sem] def q14r28:List AIns:=[
 yM 65 1,
 yI 66 (.bin .quo .none (.t 65) (.v (.int .i64 2))),
 yM 67 11,
 yI 68 (.bin .quo .none (.t 67) (.v (.int .i64 2))),
 yM 1 66,
 yM 11 68]
@[go_sem] def q14r29:List AIns:=[
 yM 69 12,
 yI 70 (.bin .add .none (.t 69) (.v (.int .i64 1))),
 yM 12 70]
def q14c30:ACode:= .seq (.reg q14r28) (.reg q14r29)
def q14c31:ACode:= .seq q14c27 q14c30
def q14c32:ACode:= .seq q14c13 q14c31
def q14c33:ACode:= .seq (.reg q14r10) q14c32
@[go_sem] def q14r34:List AIns:=[
 yI 71 (.bin .add .none (.t 34) (.v (.int .i64 1))),
 yM 34 71]
def q14c35:ACode:= .seq (.block 1 q14c33) (.reg q14r34)
def q14c36:ACode:= .seq (.cond (.t 35) .skip (.exit 0)) q14c35
def q14c37:ACode:= .seq (.reg q14r9) q14c36
def q14c38:ACode:= .loop q14c37
def q14c39:ACode:= .block 0 q14c38
def q14c40:ACode:= .seq (.reg q14r8) q14c39
@[go_sem] def q14r41:List AIns:=[
 yM 72 11,
 yI 73 (.bin .neq .none (.t 72) (.v (.int .i64 0))),
 yM 74 73,
 yG 75 74 false (.mv (.t 12)),
 yG 76 74 false (.mv (.t 3)),
 yG 77 74 false (.lenSl (.t 76)),
 yG 78 74 false (.bin .neq .none (.t 75) (.t 77)),
 yI 79 (.pick (.t 74) (.v (.bool true)) (.t 78)),
 yM 80 79,
 yG 81 80 false (.load true 32 (.t 5)),
 yG 82 80 false (.load true 32 (.t 9)),
 yG 83 80 false (.bin .neq (.agg (List.replicate 32 (.i .u8)++ [])) (.t 81) (.t 82)),
 yI 84 (.pick (.t 80) (.v (.bool true)) (.t 83))]
@[go_sem] def q14r42:List AIns:=[
 yI 10 (.mv (.v (.int .i64 80)))]
def q14c43:ACode:= .seq (.reg q14r42) .ret
def q14c44:ACode:= .cond (.t 84) q14c43 .skip
def q14c45:ACode:= .seq (.reg q14r41) q14c44
@[go_sem] def q14r46:List AIns:=[
 yI 10 (.mv (.v (.int .i64 0)))]
def q14c47:ACode:= .seq (.reg q14r46) .ret
def q14c48:ACode:= .seq q14c45 q14c47
def q14c49:ACode:= .seq q14c40 q14c48
def q14c50:ACode:= .seq .skip q14c49
def q14c51:ACode:= .seq (.reg q14r7) q14c50
def q14c52:ACode:= .seq (.reg q14r6) q14c51
def q14c53:ACode:= .seq q14c5 q14c52
def q14c54:ACode:= .scope q14c53
def q14c55:ACode:= .seq (.reg q14r0) q14c54
theorem q14ok:cFn TC 51=some (85,[.t 10],q14c55):=by kernel_rfl
@[go_sem] def q15r0:List AIns:=[
 yI 5 (.box (.t 0)),
 yI 9 (.box (.t 4)),
 yI 10 (.mv (.v (.int .i64 0)))]
@[go_sem] def q15r1:List AIns:=[
 yM 13 2,
 yI 14 (.bin .lss .none (.t 13) (.v (.int .i64 1))),
 yM 15 14,
 yG 16 15 false (.mv (.t 2)),
 yG 17 15 false (.bin .gtr .none (.t 16) (.v (.int .i64 4096))),
 yI 18 (.pick (.t 15) (.v (.bool true)) (.t 17)),
 yM 19 18,
 yG 20 19 false (.mv (.t 1)),
 yG 21 19 false (.bin .lss .none (.t 20) (.v (.int .i64 0))),
 yI 22 (.pick (.t 19) (.v (.bool true)) (.t 21)),
 yM 23 22,
 yG 24 23 false (.mv (.t 1)),
 yG 25 23 false (.mv (.t 2)),
 yG 26 23 false (.bin .geq .none (.t 24) (.t 25)),
 yI 27 (.pick (.t 23) (.v (.bool true)) (.t 26))]
@[go_sem] def q15r2:List AIns:=[
 yI 10 (.mv (.v (.int .i64 2)))]
def q15c3:ACode:= .seq (.reg q15r2) .ret
def q15c4:ACode:= .cond (.t 27) q15c3 .skip
def q15c5:ACode:= .seq (.reg q15r1) q15c4
@[go_sem] def q15r6:List AIns:=[
 yI 29 (.load true 32 (.t 5)),
 yM 30 1,
 yM 31 2,
 yM 32 3,
 yI 33 (.call (.v (.fn 100 [])) [(.t 29),(.t 30),(.t 31),(.t 32)]),
 yM 28 33,
 yI 34 (.ext 0 (.t 28)),
 yI 35 (.ext 1 (.t 28)),
 yI 11 (.alloc zZ0),
 ⟨none,none,.no,.store 32 (.t 11) (.t 34)⟩,
 yM 12 35]
@[go_sem] def q15r7:List AIns:=[
 yM 36 12,
 yI 37 (.un .not (.t 36)),
 yM 38 37,
 yG 39 38 false (.load true 32 (.t 11)),
 yG 40 38 false (.load true 32 (.t 9)),
 yG 41 38 false (.bin .neq (.agg (List.replicate 32 (.i .u8)++ [])) (.t 39) (.t 40)),
 yI 42 (.pick (.t 38) (.v (.bool true)) (.t 41))]
@[go_sem] def q15r8:List AIns:=[
 yI 10 (.mv (.v (.int .i64 80)))]
def q15c9:ACode:= .seq (.reg q15r8) .ret
def q15c10:ACode:= .cond (.t 42) q15c9 .skip
def q15c11:ACode:= .seq (.reg q15r7) q15c10
@[go_sem] def q15r12:List AIns:=[
 yI 10 (.mv (.v (.int .i64 0)))]
def q15c13:ACode:= .seq (.reg q15r12) .ret
def q15c14:ACode:= .seq q15c11 q15c13
def q15c15:ACode:= .seq (.reg q15r6) q15c14
def q15c16:ACode:= .seq q15c5 q15c15
def q15c17:ACode:= .seq (.reg q15r0) q15c16
theorem q15ok:cFn TC 52=some (43,[.t 10],q15c17):=by kernel_rfl
@[go_sem] def q16r0:List AIns:=[
 yM 4 0,
 yI 5 (.lenSl (.t 4)),
 yI 6 (.bin .sub .none (.t 5) (.v (.int .i64 1))),
 yI 2 (.mv (.v (.int .i64 0))),
 yM 3 6]
@[go_sem] def q16r1:List AIns:=[
 yM 7 2,
 yM 8 3,
 yI 9 (.bin .lss .none (.t 7) (.t 8))]
def q16c2:ACode:= .cond (.t 9) .skip (.exit 0)
def q16c3:ACode:= .seq (.reg q16r1) q16c2
@[go_sem] def q16r4:List AIns:=[
 yM 14 0,
 yM 15 2,
 yM 16 0,
 yM 17 3,
 yM 18 0,
 yM 19 3,
 yI 20 (.iaSl 32 (.t 18) (.t 19)),
 ⟨some 21,none,.rd,.load true 32 (.t 20)⟩,
 yM 22 0,
 yM 23 2,
 yI 24 (.iaSl 32 (.t 22) (.t 23)),
 ⟨some 25,none,.rd,.load true 32 (.t 24)⟩,
 yI 26 (.iaSl 32 (.t 14) (.t 15)),
 ⟨none,none,.no,.store 32 (.t 26) (.t 21)⟩,
 yI 27 (.iaSl 32 (.t 16) (.t 17)),
 ⟨none,none,.no,.store 32 (.t 27) (.t 25)⟩]
@[go_sem] def q16r5:List AIns:=[
 yM 10 2,
 yI 11 (.bin .add .none (.t 10) (.v (.int .i64 1))),
 yM 12 3,
 yI 13 (.bin .sub .none (.t 12) (.v (.int .i64 1))),
 yM 2 11,
 yM 3 13]
def q16c6:ACode:= .seq (.block 1 (.reg q16r4)) (.reg q16r5)
def q16c7:ACode:= .seq q16c3 q16c6
def q16c8:ACode:= .loop q16c7
def q16c9:ACode:= .block 0 q16c8
def q16c10:ACode:= .seq (.reg q16r0) q16c9
theorem q16ok:cFn TC 85=some (28,[],q16c10):=by kernel_rfl
@[go_sem] def q17r0:List AIns:=[
 yI 4 (.box (.t 0)),
 yI 8 (.alloc zZ0),
 yI 9 (.mv (.v (.bool false)))]
@[go_sem] def q17r1:List AIns:=[
 yM 17 2,
 yI 18 (.bin .eql .none (.t 17) (.v (.int .i64 1)))]
@[go_sem] def q17r2:List AIns:=[
 yI 19 (.load true 32 (.t 4)),
 yM 20 3,
 yI 21 (.lenSl (.t 20)),
 yI 22 (.bin .eql .none (.t 21) (.v (.int .i64 0))),
 ⟨none,none,.no,.store 32 (.t 8) (.t 19)⟩,
 yM 9 22]
def q17c3:ACode:= .seq (.reg q17r2) .ret
def q17c4:ACode:= .cond (.t 18) q17c3 .skip
def q17c5:ACode:= .seq (.reg q17r1) q17c4
@[go_sem] def q17r6:List AIns:=[
 yM 23 3,
 yI 24 (.lenSl (.t 23)),
 yI 25 (.bin .eql .none (.t 24) (.v (.int .i64 0)))]
@[go_sem] def q17r7:List AIns:=[
 yI 26 (.load true 32 (.t 4)),
 ⟨none,none,.no,.store 32 (.t 8) (.t 26)⟩,
 yI 9 (.mv (.v (.bool false)))]
def q17c8:ACode:= .seq (.reg q17r7) .ret
def q17c9:ACode:= .cond (.t 25) q17c8 .skip
def q17c10:ACode:= .seq (.reg q17r6) q17c9
@[go_sem] def q17r11:List AIns:=[
 yM 27 2,
 ⟨some 28,none,.ef,.call (.v (.fn 49 [])) [(.t 27)]⟩,
 yM 29 3,
 yM 30 3,
 yI 31 (.lenSl (.t 30)),
 yI 32 (.bin .sub .none (.t 31) (.v (.int .i64 1))),
 yI 33 (.iaSl 32 (.t 29) (.t 32)),
 ⟨some 34,none,.rd,.load true 32 (.t 33)⟩,
 ⟨some 11,none,.ef,.alloc zZ0⟩,
 yM 10 28,
 ⟨none,none,.no,.store 32 (.t 11) (.t 34)⟩]
@[go_sem] def q17r12:List AIns:=[
 yM 27 2,
 ⟨some 11,none,.ef,.alloc zZ0⟩,
 ⟨some 28,none,.ef,.call (.v (.fn 49 [])) [(.t 27)]⟩,
 yM 29 3,
 yM 30 3,
 yI 31 (.lenSl (.t 30)),
 yI 32 (.bin .sub .none (.t 31) (.v (.int .i64 1))),
 yI 33 (.iaSl 32 (.t 29) (.t 32)),
 ⟨some 34,none,.rd,.load true 32 (.t 33)⟩,
 yM 10 28,
 ⟨none,none,.no,.store 32 (.t 11) (.t 34)⟩]
@[go_sem] def q17r13:List AIns:=[
 yM 35 3,
 yM 36 3,
 yI 37 (.lenSl (.t 36)),
 yI 38 (.bin .sub .none (.t 37) (.v (.int .i64 1))),
 yI 39 (.slice (.sl 32) (.t 35) none (some (.t 38)) none),
 yM 12 39]
@[go_sem] def q17r14:List AIns:=[
 yM 40 1,
 yM 41 10,
 yI 42 (.bin .lss .none (.t 40) (.t 41))]
@[go_sem] def q17r15:List AIns:=[
 yI 44 (.load true 32 (.t 4)),
 yM 45 1,
 yM 46 10,
 yM 47 12,
 yI 48 (.call (.v (.fn 100 [])) [(.t 44),(.t 45),(.t 46),(.t 47)]),
 yM 43 48,
 yI 49 (.ext 0 (.t 43)),
 yI 50 (.ext 1 (.t 43)),
 yI 13 (.alloc zZ0),
 ⟨none,none,.no,.store 32 (.t 13) (.t 49)⟩,
 yM 14 50]
@[go_sem] def q17r16:List AIns:=[
 yI 51 (.load true 32 (.t 13)),
 yI 52 (.load true 32 (.t 11)),
 yI 53 (.call (.v (.fn 99 [])) [(.t 51),(.t 52)]),
 yM 54 14,
 ⟨none,none,.no,.store 32 (.t 8) (.t 53)⟩,
 yM 9 54]
def q17c17:ACode:= .seq (.reg q17r16) .ret
def q17c18:ACode:= .seq (.reg q17r15) q17c17
def q17c19:ACode:= .cond (.t 42) q17c18 .skip
def q17c20:ACode:= .seq (.reg q17r14) q17c19
@[go_sem] def q17r21:List AIns:=[
 yI 56 (.load true 32 (.t 4)),
 yM 57 1,
 yM 58 10,
 yI 59 (.bin .sub .none (.t 57) (.t 58)),
 yM 60 2,
 yM 61 10,
 yI 62 (.bin .sub .none (.t 60) (.t 61)),
 yM 63 12,
 yI 64 (.call (.v (.fn 100 [])) [(.t 56),(.t 59),(.t 62),(.t 63)]),
 yM 55 64,
 yI 65 (.ext 0 (.t 55)),
 yI 66 (.ext 1 (.t 55)),
 yI 15 (.alloc zZ0),
 ⟨none,none,.no,.store 32 (.t 15) (.t 65)⟩,
 yM 16 66]
@[go_sem] def q17r22:List AIns:=[
 yI 67 (.load true 32 (.t 11)),
 yI 68 (.load true 32 (.t 15)),
 yI 69 (.call (.v (.fn 99 [])) [(.t 67),(.t 68)]),
 yM 70 16,
 ⟨none,none,.no,.store 32 (.t 8) (.t 69)⟩,
 yM 9 70]
def q17c23:ACode:= .seq (.reg q17r22) .ret
def q17c24:ACode:= .seq (.reg q17r21) q17c23
def q17c25:ACode:= .seq q17c20 q17c24
def q17c26:ACode:= .seq (.reg q17r13) q17c25
def q17c27:ACode:= .seq (.reg2 q17r11 q17r12) q17c26
def q17c28:ACode:= .seq q17c10 q17c27
def q17c29:ACode:= .seq q17c5 q17c28
def q17c30:ACode:= .seq (.reg q17r0) q17c29
theorem q17ok:cFn TC 100=some (71,[.c 8 true 32,.t 9],q17c30):=by kernel_rfl
end
section
set_option maxRecDepth 10000
@[go_sem] def q18r0:List AIns:=[
 yI 2 (.alloc zZ0)]
@[go_sem] def q18r1:List AIns:=[
 yM 6 0,
 yI 7 (.lenSl (.t 6)),
 yI 8 (.bin .neq .none (.t 7) (.v (.int .i64 512)))]
@[go_sem] def q18r2:List AIns:=[
 yI 9 (.build zZ0 []),
 ⟨none,none,.no,.store 32 (.t 2) (.t 9)⟩]
def q18c3:ACode:= .seq (.reg q18r2) .ret
def q18c4:ACode:= .cond (.t 8) q18c3 .skip
def q18c5:ACode:= .seq (.reg q18r1) q18c4
@[go_sem] def q18r6:List AIns:=[
 yI 3 (.allB)]
@[go_sem] def q18r7:List AIns:=[
 yI 10 (.call (.v (.fn 124 [])) [(.t 3),(.v (.int .u8 4))])]
@[go_sem] def q18r8:List AIns:=[
 yM 11 0,
 yI 12 (.lenSl (.t 11)),
 yI 13 (.mv (.v (.int .i64 0)))]
@[go_sem] def q18r9:List AIns:=[
 yI 14 (.bin .lss .none (.t 13) (.t 12))]
@[go_sem] def q18r10:List AIns:=[
 yI 15 (.iaSl 32 (.t 11) (.t 13)),
 yI 16 (.load true 32 (.t 15)),
 yI 5 (.alloc zZ0),
 ⟨none,none,.no,.store 32 (.t 5) (.t 16)⟩]
@[go_sem] def q18r11:List AIns:=[
 yI 17 (.load true 32 (.t 5)),
 yI 18 (.call (.v (.fn 60 [])) [(.t 17)]),
 yI 19 (.call (.v (.fn 104 [])) [(.t 3),(.t 18)])]
def q18c12:ACode:= .seq (.reg q18r10) (.reg q18r11)
@[go_sem] def q18r13:List AIns:=[
 yI 20 (.bin .add .none (.t 13) (.v (.int .i64 1))),
 yM 13 20]
def q18c14:ACode:= .seq (.block 1 q18c12) (.reg q18r13)
def q18c15:ACode:= .seq (.cond (.t 14) .skip (.exit 0)) q18c14
def q18c16:ACode:= .seq (.reg q18r9) q18c15
def q18c17:ACode:= .loop q18c16
def q18c18:ACode:= .block 0 q18c17
def q18c19:ACode:= .seq (.reg q18r8) q18c18
@[go_sem] def q18r20:List AIns:=[
 yI 21 (.call (.v (.fn 105 [])) [(.t 3)]),
 yI 22 (.call (.v (.fn 80 [])) [(.t 21)]),
 ⟨none,none,.no,.store 32 (.t 2) (.t 22)⟩]
def q18c21:ACode:= .seq (.reg q18r20) .ret
def q18c22:ACode:= .seq q18c19 q18c21
def q18c23:ACode:= .seq (.reg q18r7) q18c22
def q18c24:ACode:= .seq (.reg q18r6) q18c23
def q18c25:ACode:= .seq q18c5 q18c24
def q18c26:ACode:= .seq (.reg q18r0) q18c25
theorem q18ok:cFn TC 110=some (23,[.c 2 true 32],q18c26):=by kernel_rfl
@[go_sem] def q19r0:List AIns:=[
 yI 4 (.mv (.v .nilsl))]
@[go_sem] def q19r1:List AIns:=[
 yM 7 1,
 yI 8 (.bin .lss .none (.t 7) (.v (.int .i64 0))),
 yM 9 8,
 yG 10 9 false (.mv (.t 1)),
 yG 11 9 false (.bin .geq .none (.t 10) (.v (.int .i64 2147483648))),
 yI 12 (.pick (.t 9) (.v (.bool true)) (.t 11))]
@[go_sem] def q19r2:List AIns:=[
 yI 4 (.mv (.v .nilsl))]
def q19c3:ACode:= .seq (.reg q19r2) .ret
def q19c4:ACode:= .cond (.t 12) q19c3 .skip
def q19c5:ACode:= .seq (.reg q19r1) q19c4
@[go_sem] def q19r6:List AIns:=[
 yI 13 (.make 32 zZ0 (.v (.int .i64 512)) (.v (.int .i64 512))),
 yM 5 13]
@[go_sem] def q19r7:List AIns:=[
 yM 14 5,
 yI 15 (.lenSl (.t 14)),
 yI 16 (.mv (.v (.int .i64 0)))]
@[go_sem] def q19r8:List AIns:=[
 yI 17 (.bin .lss .none (.t 16) (.t 15))]
@[go_sem] def q19r9:List AIns:=[
 yM 18 16,
 yM 6 18]
@[go_sem] def q19r10:List AIns:=[
 yM 19 5,
 yM 20 6,
 yM 21 0,
 yM 22 1,
 yM 23 6,
 yI 24 (.bin .quo .none (.t 23) (.v (.int .i64 2))),
 yM 25 6,
 yI 26 (.bin .rem .none (.t 25) (.v (.int .i64 2))),
 yI 27 (.call (.v (.fn 126 [])) [(.t 21),(.t 22),(.t 24),(.t 26)]),
 yI 28 (.call (.v (.fn 60 [])) [(.t 27)]),
 yI 29 (.call (.v (.fn 125 [])) [(.t 28)]),
 yI 30 (.iaSl 32 (.t 19) (.t 20)),
 ⟨none,none,.no,.store 32 (.t 30) (.t 29)⟩]
def q19c11:ACode:= .seq (.reg q19r9) (.reg q19r10)
@[go_sem] def q19r12:List AIns:=[
 yI 31 (.bin .add .none (.t 16) (.v (.int .i64 1))),
 yM 16 31]
def q19c13:ACode:= .seq (.block 1 q19c11) (.reg q19r12)
def q19c14:ACode:= .seq (.cond (.t 17) .skip (.exit 0)) q19c13
def q19c15:ACode:= .seq (.reg q19r8) q19c14
def q19c16:ACode:= .loop q19c15
def q19c17:ACode:= .block 0 q19c16
def q19c18:ACode:= .seq (.reg q19r7) q19c17
@[go_sem] def q19r19:List AIns:=[
 yM 32 5,
 yM 4 32]
def q19c20:ACode:= .seq (.reg q19r19) .ret
def q19c21:ACode:= .seq q19c18 q19c20
def q19c22:ACode:= .seq (.reg q19r6) q19c21
def q19c23:ACode:= .seq q19c5 q19c22
def q19c24:ACode:= .seq (.reg q19r0) q19c23
theorem q19ok:cFn TC 111=some (33,[.t 4],q19c24):=by kernel_rfl
@[go_sem] def q1ar0:List AIns:=[
 yI 2 (.alloc zZ0)]
@[go_sem] def q1ar1:List AIns:=[
 yM 5 0,
 yI 6 (.lenSl (.t 5)),
 yI 7 (.bin .neq .none (.t 6) (.v (.int .i64 512)))]
@[go_sem] def q1ar2:List AIns:=[
 yI 8 (.build zZ0 []),
 ⟨none,none,.no,.store 32 (.t 2) (.t 8)⟩]
def q1ac3:ACode:= .seq (.reg q1ar2) .ret
def q1ac4:ACode:= .cond (.t 7) q1ac3 .skip
def q1ac5:ACode:= .seq (.reg q1ar1) q1ac4
@[go_sem] def q1ar6:List AIns:=[
 yI 9 (.lit 1 [(.v (.int .u8 4))]),
 yM 3 9]
@[go_sem] def q1ar7:List AIns:=[
 yI 4 (.mv (.v (.int .i64 0)))]
@[go_sem] def q1ar8:List AIns:=[
 yM 10 4,
 yI 11 (.bin .lss .none (.t 10) (.v (.int .i64 512)))]
def q1ac9:ACode:= .cond (.t 11) .skip (.exit 0)
def q1ac10:ACode:= .seq (.reg q1ar8) q1ac9
@[go_sem] def q1ar11:List AIns:=[
 yM 14 3,
 yM 15 0,
 yM 16 4,
 yI 17 (.iaSl 32 (.t 15) (.t 16)),
 yI 18 (.slice (.arr 32 1) (.t 17) none none none),
 yI 19 (.appB (.t 14) (.t 18)),
 yM 3 19]
@[go_sem] def q1ar12:List AIns:=[
 yM 12 4,
 yI 13 (.bin .add .none (.t 12) (.v (.int .i64 1))),
 yM 4 13]
def q1ac13:ACode:= .seq (.block 1 (.reg q1ar11)) (.reg q1ar12)
def q1ac14:ACode:= .seq q1ac10 q1ac13
def q1ac15:ACode:= .loop q1ac14
def q1ac16:ACode:= .block 0 q1ac15
def q1ac17:ACode:= .seq (.reg q1ar7) q1ac16
@[go_sem] def q1ar18:List AIns:=[
 yM 20 3,
 yI 21 (.conv .str (.t 20)),
 yI 22 (.call (.v (.fn 86 [])) [(.t 21)]),
 ⟨none,none,.no,.store 32 (.t 2) (.t 22)⟩]
def q1ac19:ACode:= .seq (.reg q1ar18) .ret
def q1ac20:ACode:= .seq q1ac17 q1ac19
def q1ac21:ACode:= .seq (.reg q1ar6) q1ac20
def q1ac22:ACode:= .seq q1ac5 q1ac21
def q1ac23:ACode:= .seq (.reg q1ar0) q1ac22
theorem q1aok:cFn TC 132=some (23,[.c 2 true 32],q1ac23):=by kernel_rfl
@[go_sem] def q1br0:List AIns:=[
 yI 5 (.box (.t 2)),
 yI 6 (.mv (.v (.str [])))]
@[go_sem] def q1br1:List AIns:=[
 yM 13 0,
 yM 14 1,
 yI 15 (.call (.v (.fn 111 [])) [(.t 13),(.t 14)]),
 yM 7 15]
@[go_sem] def q1br2:List AIns:=[
 yM 16 7,
 yI 17 (.bin .eql .slc (.t 16) (.v .nilsl))]
@[go_sem] def q1br3:List AIns:=[
 yI 6 (.mv (.v (.str [])))]
def q1bc4:ACode:= .seq (.reg q1br3) .ret
def q1bc5:ACode:= .cond (.t 17) q1bc4 .skip
def q1bc6:ACode:= .seq (.reg q1br2) q1bc5
@[go_sem] def q1br7:List AIns:=[
 yI 18 (.load true 32 (.t 5)),
 yI 19 (.call (.v (.fn 60 [])) [(.t 18)]),
 yM 8 19]
@[go_sem] def q1br8:List AIns:=[
 yI 9 (.allB),
 yI 10 (.allB)]
@[go_sem] def q1br9:List AIns:=[
 yI 20 (.mv (.v (.int .i64 0)))]
@[go_sem] def q1br10:List AIns:=[
 yI 21 (.bin .lss .none (.t 20) (.v (.int .i64 256)))]
@[go_sem] def q1br11:List AIns:=[
 yM 22 20,
 yM 11 22]
@[go_sem] def q1br12:List AIns:=[
 yM 23 8,
 yM 24 11,
 yI 25 (.call (.v (.fn 130 [])) [(.t 23),(.t 24)]),
 yM 12 25]
@[go_sem] def q1br13:List AIns:=[
 yM 26 0,
 yM 27 1,
 yM 28 11,
 yM 29 12,
 yI 30 (.call (.v (.fn 126 [])) [(.t 26),(.t 27),(.t 28),(.t 29)]),
 yI 31 (.call (.v (.fn 60 [])) [(.t 30)]),
 yI 32 (.call (.v (.fn 104 [])) [(.t 9),(.t 31)])]
@[go_sem] def q1br14:List AIns:=[
 yM 33 7,
 yM 34 11,
 yI 35 (.bin .mul .none (.v (.int .i64 2)) (.t 34)),
 yI 36 (.bin .add .none (.t 35) (.v (.int .i64 1))),
 yM 37 12,
 yI 38 (.bin .sub .none (.t 36) (.t 37)),
 yI 39 (.iaSl 32 (.t 33) (.t 38)),
 yI 40 (.load true 32 (.t 39)),
 yI 41 (.call (.v (.fn 60 [])) [(.t 40)]),
 yI 42 (.call (.v (.fn 104 [])) [(.t 10),(.t 41)])]
def q1bc15:ACode:= .seq (.reg q1br13) (.reg q1br14)
def q1bc16:ACode:= .seq (.reg q1br12) q1bc15
def q1bc17:ACode:= .seq (.reg q1br11) q1bc16
@[go_sem] def q1br18:List AIns:=[
 yI 43 (.bin .add .none (.t 20) (.v (.int .i64 1))),
 yM 20 43]
def q1bc19:ACode:= .seq (.block 1 q1bc17) (.reg q1br18)
def q1bc20:ACode:= .seq (.cond (.t 21) .skip (.exit 0)) q1bc19
def q1bc21:ACode:= .seq (.reg q1br10) q1bc20
def q1bc22:ACode:= .loop q1bc21
def q1bc23:ACode:= .block 0 q1bc22
def q1bc24:ACode:= .seq (.reg q1br9) q1bc23
@[go_sem] def q1br25:List AIns:=[
 yI 44 (.call (.v (.fn 105 [])) [(.t 9)]),
 yI 45 (.call (.v (.fn 105 [])) [(.t 10)]),
 yI 46 (.bin .add .none (.t 44) (.t 45)),
 yM 6 46]
def q1bc26:ACode:= .seq (.reg q1br25) .ret
def q1bc27:ACode:= .seq q1bc24 q1bc26
def q1bc28:ACode:= .seq (.reg q1br8) q1bc27
def q1bc29:ACode:= .seq (.reg q1br7) q1bc28
def q1bc30:ACode:= .seq q1bc6 q1bc29
def q1bc31:ACode:= .seq (.reg q1br1) q1bc30
def q1bc32:ACode:= .seq (.reg q1br0) q1bc31
theorem q1bok:cFn TC 115=some (47,[.t 6],q1bc32):=by kernel_rfl
@[go_sem] def q1cr0:List AIns:=[
 yI 3 (.box (.t 1)),
 yI 4 (.alloc zZ0),
 yI 5 (.mv (.v (.int .i64 0)))]
@[go_sem] def q1cr1:List AIns:=[
 yM 12 0,
 yI 13 (.lenStr (.t 12)),
 yI 14 (.bin .neq .none (.t 13) (.v (.int .i64 16384)))]
@[go_sem] def q1cr2:List AIns:=[
 yI 15 (.build zZ0 []),
 ⟨none,none,.no,.store 32 (.t 4) (.t 15)⟩,
 yI 5 (.mv (.v (.int .i64 10)))]
def q1cc3:ACode:= .seq (.reg q1cr2) .ret
def q1cc4:ACode:= .cond (.t 14) q1cc3 .skip
def q1cc5:ACode:= .seq (.reg q1cr1) q1cc4
@[go_sem] def q1cr6:List AIns:=[
 yI 16 (.load true 32 (.t 3)),
 yI 17 (.call (.v (.fn 60 [])) [(.t 16)]),
 yM 6 17]
@[go_sem] def q1cr7:List AIns:=[
 yI 18 (.make 32 zZ0 (.v (.int .i64 512)) (.v (.int .i64 512))),
 yM 7 18]
@[go_sem] def q1cr8:List AIns:=[
 yI 19 (.mv (.v (.int .i64 0)))]
@[go_sem] def q1cr9:List AIns:=[
 yI 20 (.bin .lss .none (.t 19) (.v (.int .i64 256)))]
@[go_sem] def q1cr10:List AIns:=[
 yM 21 19,
 yM 8 21]
@[go_sem] def q1cr11:List AIns:=[
 yM 22 6,
 yM 23 8,
 yI 24 (.call (.v (.fn 130 [])) [(.t 22),(.t 23)]),
 yM 9 24]
@[go_sem] def q1cr12:List AIns:=[
 yM 25 0,
 yM 26 8,
 yI 27 (.bin .mul .none (.t 26) (.v (.int .i64 32))),
 yM 28 8,
 yI 29 (.bin .add .none (.t 28) (.v (.int .i64 1))),
 yI 30 (.bin .mul .none (.t 29) (.v (.int .i64 32))),
 yI 31 (.slice .str (.t 25) (some (.t 27)) (some (.t 30)) none),
 yM 32 0,
 yM 33 8,
 yI 34 (.bin .add .none (.v (.int .i64 256)) (.t 33)),
 yI 35 (.bin .mul .none (.t 34) (.v (.int .i64 32))),
 yI 36 (.slice .str (.t 32) (some (.t 35)) none none),
 yM 10 31,
 yM 11 36]
@[go_sem] def q1cr13:List AIns:=[
 yM 37 7,
 yM 38 8,
 yI 39 (.bin .mul .none (.v (.int .i64 2)) (.t 38)),
 yM 40 9,
 yI 41 (.bin .add .none (.t 39) (.t 40)),
 yM 42 10,
 yI 43 (.call (.v (.fn 125 [])) [(.t 42)]),
 yI 44 (.iaSl 32 (.t 37) (.t 41)),
 ⟨none,none,.no,.store 32 (.t 44) (.t 43)⟩]
@[go_sem] def q1cr14:List AIns:=[
 yM 46 7,
 yM 47 8,
 yI 48 (.bin .mul .none (.v (.int .i64 2)) (.t 47)),
 yI 49 (.bin .add .none (.t 48) (.v (.int .i64 1))),
 yM 50 9,
 yI 51 (.bin .sub .none (.t 49) (.t 50)),
 yM 52 11,
 yI 53 (.call (.v (.fn 72 [])) [(.t 52)]),
 yM 45 53,
 yI 54 (.ext 0 (.t 45)),
 yI 55 (.ext 1 (.t 45)),
 yI 56 (.ext 2 (.t 45)),
 yI 57 (.iaSl 32 (.t 46) (.t 51)),
 ⟨none,none,.no,.store 32 (.t 57) (.t 54)⟩]
def q1cc15:ACode:= .seq (.reg q1cr13) (.reg q1cr14)
def q1cc16:ACode:= .seq (.reg q1cr12) q1cc15
def q1cc17:ACode:= .seq (.reg q1cr11) q1cc16
def q1cc18:ACode:= .seq (.reg q1cr10) q1cc17
@[go_sem] def q1cr19:List AIns:=[
 yI 58 (.bin .add .none (.t 19) (.v (.int .i64 1))),
 yM 19 58]
def q1cc20:ACode:= .seq (.block 1 q1cc18) (.reg q1cr19)
def q1cc21:ACode:= .seq (.cond (.t 20) .skip (.exit 0)) q1cc20
def q1cc22:ACode:= .seq (.reg q1cr9) q1cc21
def q1cc23:ACode:= .loop q1cc22
def q1cc24:ACode:= .block 0 q1cc23
def q1cc25:ACode:= .seq (.reg q1cr8) q1cc24
@[go_sem] def q1cr26:List AIns:=[
 yM 59 7,
 yI 60 (.call (.v (.fn 110 [])) [(.t 59)]),
 ⟨none,none,.no,.store 32 (.t 4) (.t 60)⟩,
 yI 5 (.mv (.v (.int .i64 0)))]
def q1cc27:ACode:= .seq (.reg q1cr26) .ret
def q1cc28:ACode:= .seq q1cc25 q1cc27
def q1cc29:ACode:= .seq (.reg q1cr7) q1cc28
def q1cc30:ACode:= .seq (.reg q1cr6) q1cc29
def q1cc31:ACode:= .seq q1cc5 q1cc30
def q1cc32:ACode:= .seq (.reg q1cr0) q1cc31
theorem q1cok:cFn TC 120=some (61,[.c 4 true 32,.t 5],q1cc32):=by kernel_rfl
@[go_sem] def q1dr0:List AIns:=[
 yI 3 (.box (.t 1)),
 yI 4 (.alloc zZ0),
 yI 5 (.mv (.v (.int .i64 0)))]
@[go_sem] def q1dr1:List AIns:=[
 yM 12 0,
 yI 13 (.lenStr (.t 12)),
 yI 14 (.bin .neq .none (.t 13) (.v (.int .i64 16384)))]
@[go_sem] def q1dr2:List AIns:=[
 yI 15 (.build zZ0 []),
 ⟨none,none,.no,.store 32 (.t 4) (.t 15)⟩,
 yI 5 (.mv (.v (.int .i64 10)))]
def q1dc3:ACode:= .seq (.reg q1dr2) .ret
def q1dc4:ACode:= .cond (.t 14) q1dc3 .skip
def q1dc5:ACode:= .seq (.reg q1dr1) q1dc4
@[go_sem] def q1dr6:List AIns:=[
 yI 16 (.make 32 zZ0 (.v (.int .i64 512)) (.v (.int .i64 512))),
 yM 6 16]
@[go_sem] def q1dr7:List AIns:=[
 yI 7 (.mv (.v (.int .i64 0)))]
@[go_sem] def q1dr8:List AIns:=[
 yM 17 7,
 yI 18 (.bin .lss .none (.t 17) (.v (.int .i64 256)))]
def q1dc9:ACode:= .cond (.t 18) .skip (.exit 0)
def q1dc10:ACode:= .seq (.reg q1dr8) q1dc9
@[go_sem] def q1dr11:List AIns:=[
 yI 21 (.slice (.arr 32 1) (.t 3) none none none),
 yI 22 (.conv .str (.t 21)),
 yM 23 7,
 yI 24 (.call (.v (.fn 131 [])) [(.t 22),(.t 23)]),
 yM 8 24]
@[go_sem] def q1dr12:List AIns:=[
 yM 25 6,
 yM 26 7,
 yI 27 (.bin .mul .none (.v (.int .i64 2)) (.t 26)),
 yM 28 8,
 yI 29 (.bin .add .none (.t 27) (.t 28)),
 yM 30 0,
 yM 31 7,
 yI 32 (.bin .mul .none (.v (.int .i64 32)) (.t 31)),
 yM 33 7,
 yI 34 (.bin .mul .none (.v (.int .i64 32)) (.t 33)),
 yI 35 (.bin .add .none (.t 34) (.v (.int .i64 32))),
 yI 36 (.slice .str (.t 30) (some (.t 32)) (some (.t 35)) none),
 yI 37 (.bin .add .none (.v (.str [3])) (.t 36)),
 yI 38 (.call (.v (.fn 86 [])) [(.t 37)]),
 yI 39 (.iaSl 32 (.t 25) (.t 29)),
 ⟨none,none,.no,.store 32 (.t 39) (.t 38)⟩]
@[go_sem] def q1dr13:List AIns:=[
 yM 41 0,
 yM 42 7,
 yI 43 (.bin .mul .none (.v (.int .i64 32)) (.t 42)),
 yI 44 (.bin .add .none (.v (.int .i64 8192)) (.t 43)),
 yI 45 (.slice .str (.t 41) (some (.t 44)) none none),
 yI 46 (.call (.v (.fn 77 [])) [(.t 45)]),
 yM 40 46,
 yI 47 (.ext 0 (.t 40)),
 yI 48 (.ext 1 (.t 40)),
 yI 49 (.ext 2 (.t 40)),
 yI 9 (.alloc zZ0),
 ⟨none,none,.no,.store 32 (.t 9) (.t 47)⟩,
 yM 10 48,
 yM 11 49]
@[go_sem] def q1dr14:List AIns:=[
 yM 50 6,
 yM 51 7,
 yI 52 (.bin .mul .none (.v (.int .i64 2)) (.t 51)),
 yI 53 (.bin .add .none (.t 52) (.v (.int .i64 1))),
 yM 54 8,
 yI 55 (.bin .sub .none (.t 53) (.t 54)),
 yI 56 (.load true 32 (.t 9)),
 yI 57 (.iaSl 32 (.t 50) (.t 55)),
 ⟨none,none,.no,.store 32 (.t 57) (.t 56)⟩]
def q1dc15:ACode:= .seq (.reg q1dr13) (.reg q1dr14)
def q1dc16:ACode:= .seq (.reg q1dr12) q1dc15
def q1dc17:ACode:= .seq (.reg q1dr11) q1dc16
@[go_sem] def q1dr18:List AIns:=[
 yM 19 7,
 yI 20 (.bin .add .none (.t 19) (.v (.int .i64 1))),
 yM 7 20]
def q1dc19:ACode:= .seq (.block 1 q1dc17) (.reg q1dr18)
def q1dc20:ACode:= .seq q1dc10 q1dc19
def q1dc21:ACode:= .loop q1dc20
def q1dc22:ACode:= .block 0 q1dc21
def q1dc23:ACode:= .seq (.reg q1dr7) q1dc22
@[go_sem] def q1dr24:List AIns:=[
 yM 58 6,
 yI 59 (.call (.v (.fn 132 [])) [(.t 58)]),
 ⟨none,none,.no,.store 32 (.t 4) (.t 59)⟩,
 yI 5 (.mv (.v (.int .i64 0)))]
def q1dc25:ACode:= .seq (.reg q1dr24) .ret
def q1dc26:ACode:= .seq q1dc23 q1dc25
def q1dc27:ACode:= .seq (.reg q1dr6) q1dc26
def q1dc28:ACode:= .seq q1dc5 q1dc27
def q1dc29:ACode:= .seq (.reg q1dr0) q1dc28
theorem q1dok:cFn TC 121=some (60,[.c 4 true 32,.t 5],q1dc29):=by kernel_rfl
@[go_sem] def q1er0:List AIns:=[
 yI 4 (.mv (.v (.int .i64 0))),
 yI 5 (.mv (.v .any))]
@[go_sem] def q1er1:List AIns:=[
 yM 6 0,
 yI 7 (.call (.v (.fn 122 [])) [(.t 6)])]
@[go_sem] def q1er2:List AIns:=[
 yM 8 0,
 yM 9 0,
 yI 10 (.nilc (.t 9)),
 yI 11 (.fa 1 (.t 10)),
 yI 12 (.load false 1 (.t 11)),
 yM 13 1,
 yI 14 (.appB (.t 12) (.t 13)),
 yI 15 (.nilc (.t 8)),
 yI 16 (.fa 1 (.t 15)),
 ⟨none,none,.no,.store 1 (.t 16) (.t 14)⟩]
@[go_sem] def q1er3:List AIns:=[
 yM 17 1,
 yI 18 (.lenStr (.t 17)),
 yM 4 18,
 yI 5 (.mv (.v .any))]
def q1ec4:ACode:= .seq (.reg q1er3) .ret
def q1ec5:ACode:= .seq (.reg q1er2) q1ec4
def q1ec6:ACode:= .seq (.reg q1er1) q1ec5
def q1ec7:ACode:= .seq (.reg q1er0) q1ec6
theorem q1eok:cFn TC 104=some (19,[.t 4,.t 5],q1ec7):=by kernel_rfl
@[go_sem] def q1fr0:List AIns:=[
 yI 4 (.mv (.v .any))]
@[go_sem] def q1fr1:List AIns:=[
 yM 5 0,
 yI 6 (.call (.v (.fn 122 [])) [(.t 5)])]
@[go_sem] def q1fr2:List AIns:=[
 yM 7 0,
 yM 8 0,
 yI 9 (.nilc (.t 8)),
 yI 10 (.fa 1 (.t 9)),
 yI 11 (.load false 1 (.t 10)),
 yM 12 1,
 yI 13 (.lit 1 [(.t 12)]),
 yI 14 (.appB (.t 11) (.t 13)),
 yI 15 (.nilc (.t 7)),
 yI 16 (.fa 1 (.t 15)),
 ⟨none,none,.no,.store 1 (.t 16) (.t 14)⟩]
@[go_sem] def q1fr3:List AIns:=[
 yI 4 (.mv (.v .any))]
def q1fc4:ACode:= .seq (.reg q1fr3) .ret
def q1fc5:ACode:= .seq (.reg q1fr2) q1fc4
def q1fc6:ACode:= .seq (.reg q1fr1) q1fc5
def q1fc7:ACode:= .seq (.reg q1fr0) q1fc6
theorem q1fok:cFn TC 124=some (17,[.t 4],q1fc7):=by kernel_rfl
@[go_sem] def q1gr0:List AIns:=[
 yI 2 (.alloc zZ0)]
@[go_sem] def q1gr1:List AIns:=[
 yM 3 0,
 yI 4 (.bin .add .none (.v (.str [3])) (.t 3)),
 yI 5 (.call (.v (.fn 80 [])) [(.t 4)]),
 ⟨none,none,.no,.store 32 (.t 2) (.t 5)⟩]
def q1gc2:ACode:= .seq (.reg q1gr1) .ret
def q1gc3:ACode:= .seq (.reg q1gr0) q1gc2
theorem q1gok:cFn TC 125=some (6,[.c 2 true 32],q1gc3):=by kernel_rfl
@[go_sem] def q1hr0:List AIns:=[
 yI 8 (.alloc zZ0)]
@[go_sem] def q1hr1:List AIns:=[
 yM 9 1,
 yI 10 (.bin .lss .none (.t 9) (.v (.int .i64 0))),
 yM 11 10,
 yG 12 11 false (.mv (.t 1)),
 yG 13 11 false (.bin .geq .none (.t 12) (.v (.int .i64 2147483648))),
 yI 14 (.pick (.t 11) (.v (.bool true)) (.t 13)),
 yM 15 14,
 yG 16 15 false (.mv (.t 2)),
 yG 17 15 false (.bin .lss .none (.t 16) (.v (.int .i64 0))),
 yI 18 (.pick (.t 15) (.v (.bool true)) (.t 17)),
 yM 19 18,
 yG 20 19 false (.mv (.t 2)),
 yG 21 19 false (.bin .geq .none (.t 20) (.v (.int .i64 256))),
 yI 22 (.pick (.t 19) (.v (.bool true)) (.t 21)),
 yM 23 22,
 yG 24 23 false (.mv (.t 3)),
 yG 25 23 false (.bin .lss .none (.t 24) (.v (.int .i64 0))),
 yI 26 (.pick (.t 23) (.v (.bool true)) (.t 25)),
 yM 27 26,
 yG 28 27 false (.mv (.t 3)),
 yG 29 27 false (.bin .gtr .none (.t 28) (.v (.int .i64 1))),
 yI 30 (.pick (.t 27) (.v (.bool true)) (.t 29))]
@[go_sem] def q1hr2:List AIns:=[
 yI 31 (.build zZ0 []),
 ⟨none,none,.no,.store 32 (.t 8) (.t 31)⟩]
def q1hc3:ACode:= .seq (.reg q1hr2) .ret
def q1hc4:ACode:= .cond (.t 30) q1hc3 .skip
def q1hc5:ACode:= .seq (.reg q1hr1) q1hc4
@[go_sem] def q1hr6:List AIns:=[
 yM 32 0,
 yI 33 (.call (.v (.fn 59 [])) [(.t 32)]),
 yI 34 (.bin .add .none (.v (.str [2])) (.t 33)),
 yM 35 1,
 yI 36 (.conv (.int .u64) (.t 35)),
 yI 37 (.call (.v (.fn 114 [])) [(.t 36),(.v (.int .i64 4))]),
 yI 38 (.bin .add .none (.t 34) (.t 37)),
 yM 39 2,
 yI 40 (.bin .mul .none (.v (.int .i64 2)) (.t 39)),
 yM 41 3,
 yI 42 (.bin .add .none (.t 40) (.t 41)),
 yI 43 (.conv (.int .u64) (.t 42)),
 yI 44 (.call (.v (.fn 114 [])) [(.t 43),(.v (.int .i64 2))]),
 yI 45 (.bin .add .none (.t 38) (.t 44)),
 yI 46 (.call (.v (.fn 80 [])) [(.t 45)]),
 ⟨none,none,.no,.store 32 (.t 8) (.t 46)⟩]
def q1hc7:ACode:= .seq (.reg q1hr6) .ret
def q1hc8:ACode:= .seq q1hc5 q1hc7
def q1hc9:ACode:= .seq (.reg q1hr0) q1hc8
theorem q1hok:cFn TC 126=some (47,[.c 8 true 32],q1hc9):=by kernel_rfl
end
section
set_option maxRecDepth 10000
@[go_sem] def q1ir0:List AIns:=[
 yI 2 (.mv (.v .nilp))]
@[go_sem] def q1ir1:List AIns:=[
 yM 5 0,
 yI 6 (.build [(.bool false),(.str []),(.int .u8 0),(.int .u8 0),(.int .u8 0),(.int .u8 0),(.int .u8 0),(.int .u8 0),(.int .u8 0),(.int .u8 0),(.int .u8 0),(.int .u8 0),(.int .u8 0),(.int .u8 0),(.int .u8 0),(.int .u8 0),(.int .u8 0),(.int .u8 0),(.int .u8 0),(.int .u8 0),(.int .u8 0),(.int .u8 0),(.int .u8 0),(.int .u8 0),(.int .u8 0),(.int .u8 0),(.int .u8 0),(.int .u8 0),(.int .u8 0),(.int .u8 0),(.int .u8 0),(.int .u8 0),(.int .u8 0),(.int .u8 0),(.int .u8 0),(.int .u8 0),(.int .u8 0),(.int .u8 0),(.int .u8 0),(.int .u8 0),(.int .u8 0),(.int .u8 0),(.int .u8 0),(.int .u8 0),(.int .u8 0),(.int .u8 0),(.int .u8 0),(.int .u8 0),(.int .u8 0),(.int .u8 0),(.int .u8 0),(.int .u8 0),(.int .u8 0),(.int .u8 0),(.int .u8 0),(.int .u8 0),(.int .u8 0),(.int .u8 0),(.int .u8 0),(.int .u8 0),(.int .u8 0),(.int .u8 0),(.int .u8 0),(.int .u8 0),(.int .u8 0),(.int .u8 0),(.int .u8 0),(.int .u8 0),(.int .u8 0),(.int .u8 0),(.int .u8 0),(.int .u8 0),(.int .u8 0),(.int .u8 0),(.int .u8 0),(.int .u8 0),(.int .u8 0),(.int .u8 0),(.int .u8 0),(.int .u8 0),(.int .u8 0),(.int .u8 0),(.int .u8 0),(.int .u8 0),(.int .u8 0),(.int .u8 0),(.int .u8 0),(.int .u8 0),(.int .u8 0),(.int .u8 0),(.int .u8 0),(.int .u8 0),(.int .u8 0),(.int .u8 0),(.int .u8 0),(.int .u8 0),(.int .u8 0),(.int .u8 0),(.int .u8 0),(.int .u8 0),(.int .u8 0),(.int .u8 0),(.int .u8 0),(.int .u8 0),(.int .u8 0),(.int .u8 0),(.int .u8 0),(.int .u8 0),(.int .u8 0),(.int .u8 0),(.int .u8 0),(.int .u8 0),(.int .u8 0),(.int .u8 0),(.int .u8 0),(.int .u8 0),(.int .u8 0),(.int .u8 0),(.int .u8 0),(.int .u8 0),(.int .u8 0),(.int .u8 0),(.int .u8 0),(.int .u8 0),(.int .u8 0),(.int .u8 0),(.int .u8 0),(.int .u8 0),(.int .u8 0),(.int .u8 0),(.int .u8 0),(.int .u8 0),(.int .u8 0),(.int .u8 0),(.int .u8 0),(.int .u8 0),(.int .u8 0),(.int .u8 0),(.int .u8 0),(.int .u8 0),(.int .u8 0),(.int .u8 0),(.int .u8 0),(.int .u8 0),(.int .u8 0),(.int .u8 0),(.int .u8 0),(.int .u8 0),(.int .u8 0),(.int .u8 0),(.int .u8 0),(.int .u8 0),(.int .u8 0),(.int .u8 0),(.int .u8 0),(.int .u8 0),(.int .u8 0),(.int .u8 0),(.int .u8 0),(.int .u8 0),(.int .u8 0),(.int .u8 0),(.int .u8 0),(.int .u8 0),(.int .u8 0),(.int .u8 0),(.int .u8 0),(.int .u8 0),(.int .u8 0),(.int .u8 0),(.int .u8 0),(.int .u8 0),(.int .u8 0),(.int .u8 0),(.int .u8 0),(.int .u8 0),(.int .u8 0),(.int .u8 0),(.int .u8 0),(.int .u8 0),(.int .u8 0),(.int .u8 0),(.int .u8 0),(.int .u8 0),(.int .u8 0),(.int .u8 0),(.int .u8 0),(.int .u8 0),(.int .u8 0),(.int .u8 0),(.int .u8 0),(.int .u8 0),(.int .u8 0),(.int .u8 0),(.int .u8 0),(.int .u8 0),(.int .u8 0),(.int .u8 0),(.int .u8 0),(.int .u8 0),(.int .u8 0),(.int .u8 0),(.int .u8 0),(.int .u8 0),(.int .u8 0),(.int .u8 0),(.int .u8 0),(.int .u8 0),(.int .u8 0),(.int .u8 0),(.int .u8 0),(.int .u8 0),(.int .u8 0),(.int .u8 0),(.int .u8 0),(.int .u8 0),(.int .u8 0),(.int .u8 0),(.int .u8 0),(.int .u8 0),(.int .u8 0),(.int .u8 0),(.int .u8 0),(.int .u8 0),(.int .u8 0),(.int .u8 0),(.int .u8 0),(.int .u8 0),(.int .u8 0),(.int .u8 0),(.int .u8 0),(.int .u8 0),(.int .u8 0),(.int .u8 0),(.int .u8 0),(.int .u8 0),(.int .u8 0),(.int .u8 0),(.int .u8 0),(.int .u8 0),(.int .u8 0),(.int .u8 0),(.int .u8 0),(.int .u8 0),(.int .u8 0),(.int .u8 0),(.int .u8 0),(.int .u8 0),(.int .u8 0),(.int .u8 0),(.int .u8 0),(.int .u8 0),(.int .u8 0),(.int .u8 0),(.int .u8 0),(.int .u8 0),(.int .u8 0),(.int .u8 0)] [(0,1,(.v (.bool true))),(1,1,(.t 5))]),
 yI 7 (.box (.t 6)),
 yM 3 7]
@[go_sem] def q1ir2:List AIns:=[
 yI 8 (.mv (.v (.int .i64 0)))]
@[go_sem] def q1ir3:List AIns:=[
 yI 9 (.bin .lss .none (.t 8) (.v (.int .i64 8)))]
@[go_sem] def q1ir4:List AIns:=[
 yM 10 8,
 yM 4 10]
@[go_sem] def q1ir5:List AIns:=[
 yM 11 3,
 yM 12 4,
 yM 13 0,
 yM 14 4,
 yI 15 (.call (.v (.fn 111 [])) [(.t 13),(.t 14)]),
 yI 16 (.call (.v (.fn 110 [])) [(.t 15)]),
 yI 17 (.nilc (.t 11)),
 yI 18 (.fa 2 (.t 17)),
 yI 19 (.iaArr 8 32 (.t 18) (.t 12)),
 ⟨none,none,.no,.store 32 (.t 19) (.t 16)⟩]
def q1ic6:ACode:= .seq (.reg q1ir4) (.reg q1ir5)
@[go_sem] def q1ir7:List AIns:=[
 yI 20 (.bin .add .none (.t 8) (.v (.int .i64 1))),
 yM 8 20]
def q1ic8:ACode:= .seq (.block 1 q1ic6) (.reg q1ir7)
def q1ic9:ACode:= .seq (.cond (.t 9) .skip (.exit 0)) q1ic8
def q1ic10:ACode:= .seq (.reg q1ir3) q1ic9
def q1ic11:ACode:= .loop q1ic10
def q1ic12:ACode:= .block 0 q1ic11
def q1ic13:ACode:= .seq (.reg q1ir2) q1ic12
@[go_sem] def q1ir14:List AIns:=[
 yM 21 3,
 yM 2 21]
def q1ic15:ACode:= .seq (.reg q1ir14) .ret
def q1ic16:ACode:= .seq q1ic13 q1ic15
def q1ic17:ACode:= .seq (.reg q1ir1) q1ic16
def q1ic18:ACode:= .seq (.reg q1ir0) q1ic17
theorem q1iok:cFn TC 79=some (22,[.t 2],q1ic18):=by kernel_rfl
@[go_sem] def q1jr0:List AIns:=[
 yI 2 (.alloc zZ0)]
@[go_sem] def q1jr1:List AIns:=[
 yM 3 0,
 yI 4 (.bin .eql .ptr (.t 3) (.v .nilp)),
 yM 5 4,
 yG 6 5 false (.mv (.t 0)),
 yG 7 5 false (.nilc (.t 6)),
 yG 8 5 false (.fa 0 (.t 7)),
 yG 9 5 false (.load false 1 (.t 8)),
 yG 10 5 false (.un .not (.t 9)),
 yI 11 (.pick (.t 5) (.v (.bool true)) (.t 10))]
@[go_sem] def q1jr2:List AIns:=[
 yI 12 (.build zZ0 []),
 ⟨none,none,.no,.store 32 (.t 2) (.t 12)⟩]
def q1jc3:ACode:= .seq (.reg q1jr2) .ret
def q1jc4:ACode:= .cond (.t 11) q1jc3 .skip
def q1jc5:ACode:= .seq (.reg q1jr1) q1jc4
@[go_sem] def q1jr6:List AIns:=[
 yM 13 0,
 yI 14 (.nilc (.t 13)),
 yI 15 (.fa 2 (.t 14)),
 yI 16 (.slice (.arr 8 32) (.t 15) none none none),
 yI 17 (.call (.v (.fn 39 [])) [(.t 16)]),
 ⟨none,none,.no,.store 32 (.t 2) (.t 17)⟩]
def q1jc7:ACode:= .seq (.reg q1jr6) .ret
def q1jc8:ACode:= .seq q1jc5 q1jc7
def q1jc9:ACode:= .seq (.reg q1jr0) q1jc8
theorem q1jok:cFn TC 11=some (18,[.c 2 true 32],q1jc9):=by kernel_rfl
@[go_sem] def q1kr0:List AIns:=[
 yI 5 (.box (.t 2)),
 yI 6 (.alloc [(.int .i64 0),(.str []),.nilsl]),
 yI 7 (.mv (.v (.int .i64 0)))]
@[go_sem] def q1kr1:List AIns:=[
 yM 11 0,
 yI 12 (.bin .eql .ptr (.t 11) (.v .nilp)),
 yM 13 12,
 yG 14 13 false (.mv (.t 0)),
 yG 15 13 false (.nilc (.t 14)),
 yG 16 13 false (.fa 0 (.t 15)),
 yG 17 13 false (.load false 1 (.t 16)),
 yG 18 13 false (.un .not (.t 17)),
 yI 19 (.pick (.t 13) (.v (.bool true)) (.t 18)),
 yM 10 19]
@[go_sem] def q1kr2:List AIns:=[
 yI 20 (.build [(.int .i64 0),(.str []),.nilsl] []),
 ⟨none,none,.no,.store 3 (.t 6) (.t 20)⟩,
 yI 7 (.mv (.v (.int .i64 1)))]
def q1kc3:ACode:= .seq (.reg q1kr2) .ret
@[go_sem] def q1kr4:List AIns:=[
 yM 22 1,
 yI 23 (.bin .lss .none (.t 22) (.v (.int .i64 0))),
 yM 24 23,
 yG 25 24 false (.mv (.t 1)),
 yG 26 24 false (.bin .geq .none (.t 25) (.v (.int .i64 8))),
 yI 27 (.pick (.t 24) (.v (.bool true)) (.t 26)),
 yM 21 27]
@[go_sem] def q1kr5:List AIns:=[
 yI 28 (.build [(.int .i64 0),(.str []),.nilsl] []),
 ⟨none,none,.no,.store 3 (.t 6) (.t 28)⟩,
 yI 7 (.mv (.v (.int .i64 2)))]
def q1kc6:ACode:= .seq (.reg q1kr5) .ret
def q1kc7:ACode:= .cond (.t 21) q1kc6 .skip
def q1kc8:ACode:= .seq (.reg q1kr4) q1kc7
def q1kc9:ACode:= .cond (.t 10) q1kc3 q1kc8
def q1kc10:ACode:= .seq (.reg q1kr1) q1kc9
@[go_sem] def q1kr11:List AIns:=[
 yM 30 0,
 yI 31 (.nilc (.t 30)),
 yI 32 (.fa 2 (.t 31)),
 yI 33 (.slice (.arr 8 32) (.t 32) none none none),
 yM 34 1,
 yI 35 (.call (.v (.fn 37 [])) [(.t 33),(.t 34)]),
 yM 29 35,
 yI 36 (.ext 0 (.t 29)),
 yI 37 (.ext 1 (.t 29)),
 yM 8 36,
 yM 9 37]
@[go_sem] def q1kr12:List AIns:=[
 yM 38 1,
 yM 39 0,
 yI 40 (.nilc (.t 39)),
 yI 41 (.fa 1 (.t 40)),
 ⟨some 42,none,.rd,.load false 1 (.t 41)⟩,
 yM 43 1,
 ⟨some 44,none,.rd,.load true 32 (.t 5)⟩,
 yI 45 (.call (.v (.fn 115 [])) [(.t 42),(.t 43),(.t 44)]),
 yM 46 8,
 yI 47 (.build [(.int .i64 0),(.str []),.nilsl] [(0,1,(.t 38)),(1,1,(.t 45)),(2,1,(.t 46))]),
 ⟨none,none,.no,.store 3 (.t 6) (.t 47)⟩,
 yI 7 (.mv (.v (.int .i64 0)))]
def q1kc13:ACode:= .seq (.reg q1kr12) .ret
def q1kc14:ACode:= .seq (.reg q1kr11) q1kc13
def q1kc15:ACode:= .seq (.block 0 q1kc10) q1kc14
def q1kc16:ACode:= .seq (.reg q1kr0) q1kc15
theorem q1kok:cFn TC 83=some (48,[.c 6 true 3,.t 7],q1kc16):=by kernel_rfl
@[go_sem] def q1lr0:List AIns:=[
 yI 3 (.box (.t 0)),
 yI 4 (.box (.t 1)),
 yI 5 (.box (.t 2)),
 yI 6 (.mv (.v (.int .i64 0)))]
@[go_sem] def q1lr1:List AIns:=[
 yI 9 (.fa 0 (.t 5)),
 yI 10 (.load false 1 (.t 9)),
 yI 11 (.bin .lss .none (.t 10) (.v (.int .i64 0))),
 yM 12 11,
 yG 13 12 false (.fa 0 (.t 5)),
 yG 14 12 false (.load false 1 (.t 13)),
 yG 15 12 false (.bin .geq .none (.t 14) (.v (.int .i64 8))),
 yI 16 (.pick (.t 12) (.v (.bool true)) (.t 15))]
@[go_sem] def q1lr2:List AIns:=[
 yI 6 (.mv (.v (.int .i64 2)))]
def q1lc3:ACode:= .seq (.reg q1lr2) .ret
def q1lc4:ACode:= .cond (.t 16) q1lc3 .skip
def q1lc5:ACode:= .seq (.reg q1lr1) q1lc4
@[go_sem] def q1lr6:List AIns:=[
 yI 18 (.fa 1 (.t 5)),
 yI 19 (.load false 1 (.t 18)),
 yI 20 (.load true 32 (.t 4)),
 yI 21 (.call (.v (.fn 120 [])) [(.t 19),(.t 20)]),
 yM 17 21,
 yI 22 (.ext 0 (.t 17)),
 yI 23 (.ext 1 (.t 17)),
 yI 7 (.alloc zZ0),
 ⟨none,none,.no,.store 32 (.t 7) (.t 22)⟩,
 yM 8 23]
@[go_sem] def q1lr7:List AIns:=[
 yM 24 8,
 yI 25 (.bin .neq .none (.t 24) (.v (.int .i64 0))),
 yM 26 25,
 yG 27 26 false (.load true 32 (.t 7)),
 yG 28 26 false (.fa 0 (.t 5)),
 yG 29 26 false (.load false 1 (.t 28)),
 yG 30 26 false (.fa 2 (.t 5)),
 yG 31 26 false (.load false 1 (.t 30)),
 yG 32 26 false (.load true 32 (.t 3)),
 yG 33 26 false (.call (.v (.fn 51 [])) [(.t 27),(.t 29),(.v (.int .i64 8)),(.t 31),(.t 32)]),
 yG 34 26 false (.bin .neq .none (.t 33) (.v (.int .i64 0))),
 yI 35 (.pick (.t 26) (.v (.bool true)) (.t 34))]
@[go_sem] def q1lr8:List AIns:=[
 yI 6 (.mv (.v (.int .i64 81)))]
def q1lc9:ACode:= .seq (.reg q1lr8) .ret
def q1lc10:ACode:= .cond (.t 35) q1lc9 .skip
def q1lc11:ACode:= .seq (.reg q1lr7) q1lc10
@[go_sem] def q1lr12:List AIns:=[
 yI 6 (.mv (.v (.int .i64 0)))]
def q1lc13:ACode:= .seq (.reg q1lr12) .ret
def q1lc14:ACode:= .seq q1lc11 q1lc13
def q1lc15:ACode:= .seq (.reg q1lr6) q1lc14
def q1lc16:ACode:= .seq q1lc5 q1lc15
def q1lc17:ACode:= .seq (.reg q1lr0) q1lc16
theorem q1lok:cFn TC 91=some (36,[.t 6],q1lc17):=by kernel_rfl
@[go_sem] def q1mr0:List AIns:=[
 yI 3 (.box (.t 0)),
 yI 4 (.box (.t 1)),
 yI 5 (.box (.t 2)),
 yI 6 (.mv (.v (.int .i64 0)))]
@[go_sem] def q1mr1:List AIns:=[
 yI 9 (.fa 0 (.t 5)),
 yI 10 (.load false 1 (.t 9)),
 yI 11 (.bin .lss .none (.t 10) (.v (.int .i64 0))),
 yM 12 11,
 yG 13 12 false (.fa 0 (.t 5)),
 yG 14 12 false (.load false 1 (.t 13)),
 yG 15 12 false (.bin .gtr .none (.t 14) (.v (.int .i64 7))),
 yI 16 (.pick (.t 12) (.v (.bool true)) (.t 15))]
@[go_sem] def q1mr2:List AIns:=[
 yI 6 (.mv (.v (.int .i64 2)))]
def q1mc3:ACode:= .seq (.reg q1mr2) .ret
def q1mc4:ACode:= .cond (.t 16) q1mc3 .skip
def q1mc5:ACode:= .seq (.reg q1mr1) q1mc4
@[go_sem] def q1mr6:List AIns:=[
 yI 18 (.fa 1 (.t 5)),
 yI 19 (.load false 1 (.t 18)),
 yI 20 (.load true 32 (.t 4)),
 yI 21 (.call (.v (.fn 121 [])) [(.t 19),(.t 20)]),
 yM 17 21,
 yI 22 (.ext 0 (.t 17)),
 yI 23 (.ext 1 (.t 17)),
 yI 7 (.alloc zZ0),
 ⟨none,none,.no,.store 32 (.t 7) (.t 22)⟩,
 yM 8 23]
@[go_sem] def q1mr7:List AIns:=[
 yM 24 8,
 yI 25 (.bin .eql .none (.t 24) (.v (.int .i64 0))),
 yM 26 25,
 yG 27 26 true (.load true 32 (.t 7)),
 yG 28 26 true (.fa 0 (.t 5)),
 yG 29 26 true (.load false 1 (.t 28)),
 yG 30 26 true (.fa 2 (.t 5)),
 yG 31 26 true (.load false 1 (.t 30)),
 yG 32 26 true (.load true 32 (.t 3)),
 yG 33 26 true (.call (.v (.fn 52 [])) [(.t 27),(.t 29),(.v (.int .i64 8)),(.t 31),(.t 32)]),
 yG 34 26 true (.bin .eql .none (.t 33) (.v (.int .i64 0))),
 yI 35 (.pick (.t 26) (.t 34) (.v (.bool false)))]
@[go_sem] def q1mr8:List AIns:=[
 yI 6 (.mv (.v (.int .i64 0)))]
def q1mc9:ACode:= .seq (.reg q1mr8) .ret
def q1mc10:ACode:= .cond (.t 35) q1mc9 .skip
def q1mc11:ACode:= .seq (.reg q1mr7) q1mc10
@[go_sem] def q1mr12:List AIns:=[
 yI 6 (.mv (.v (.int .i64 81)))]
def q1mc13:ACode:= .seq (.reg q1mr12) .ret
def q1mc14:ACode:= .seq q1mc11 q1mc13
def q1mc15:ACode:= .seq (.reg q1mr6) q1mc14
def q1mc16:ACode:= .seq q1mc5 q1mc15
def q1mc17:ACode:= .seq (.reg q1mr0) q1mc16
theorem q1mok:cFn TC 97=some (36,[.t 6],q1mc17):=by kernel_rfl
end
section
attribute [local irreducible] ACallsTo ACallsP
theorem zf9(J:Store)(r:Nat)(t:List UInt8)(hr:J[r]? =some (some [[.bld r,.bnil]]))(h0:t ≠ [])(hl:t.length<=1073741824):
  ACallsTo TC 104 [.ptr r 0 0,.str t] J (.tup [.int .i64 t.length,.any]) (J.set r (some [[.bld r,.bsl J.length t.length]])++ [some (zn t)]):=by
 have hz:t.length ≠ 0:=by simpa using h0
 have hs:=slen hr
 have hc:=zcd J r _ hr
 refine ACallsTo.of_body_keep q1eok (by simp) ?_
 repeat' (first|apply zs_|apply zb_|apply zc_|apply zt_ rfl|apply zf_ rfl|(refine zd_ rfl ?_ ?_<;>intro ht<;>try omega)|((first|apply zr_|apply zk_|apply ze_|apply zq_|(apply callW.mk_pu;(first|exact(fun _=>hc)))|(apply callW.za;(first|exact(hc)))|(apply zG<;>intro ht));all_goals try simp (disch:=first|omega|(simp only [lens,zx,zm,lQd];first|done|omega)) only [go_sem,hr,hz,hs,z4a]))
theorem zfa(J:Store)(r rb:Nat)(s t:List UInt8)(hr:J[r]? =some (some [[.bld r,.bsl rb s.length]]))(hb:J[rb]? =some (some (zn s)))(hne:rb ≠ r)(h0:t ≠ [])(hl:s.length+t.length<=1073741824):
  ACallsTo TC 104 [.ptr r 0 0,.str t] J (.tup [.int .i64 t.length,.any]) ((J.set rb none).set r (some [[.bld r,.bsl J.length (s.length+t.length)]])++ [some (zn (s++t))]):=by
 have hz:t.length ≠ 0:=by simpa using h0
 have hs:=slen hr
 have hc:=zcd J r _ hr
 refine ACallsTo.of_body_keep q1eok (by simp) ?_
 repeat' (first|apply zs_|apply zb_|apply zc_|apply zt_ rfl|apply zf_ rfl|(refine zd_ rfl ?_ ?_<;>intro ht<;>try omega)|((first|apply zr_|apply zk_|apply ze_|apply zq_|(apply callW.mk_pu;(first|exact(fun _=>hc)))|(apply callW.za;(first|exact(hc)))|(apply zG<;>intro ht));all_goals try simp (disch:=first|omega|(simp only [lens,zx,zm,lQd];first|done|omega)) only [go_sem,hr,hb,hz,hs,hne,z4a]))
theorem zkp(J:Store)(r:Nat)(b:UInt8)(hr:J[r]? =some (some [[.bld r,.bnil]])):
  ACallsTo TC 124 [.ptr r 0 0,.int .u8 b.toNat] J .any (J.set r (some [[.bld r,.bsl J.length 1]])++ [some (zn [b])]):=by
 have hs:=slen hr
 have hc:=zcd J r _ hr
 have hb:zn [b]=[[.int .u8 b.toNat]]:=rfl
 rw [hb]
 refine ACallsTo.of_body_keep q1fok (by simp) ?_
 repeat' (first|apply zs_|apply zb_|apply zc_|apply zt_ rfl|apply zf_ rfl|(refine zd_ rfl ?_ ?_<;>intro ht<;>try omega)|((first|apply zr_|apply zk_|apply ze_|apply zq_|(apply callW.mk_pu;(first|exact(fun _=>hc)))|(apply callW.za;(first|exact(hc)))|(apply zG<;>intro ht));all_goals try simp (disch:=first|omega|(simp only [lens,zx,zm,lQd];first|done|omega)) only [go_sem,hr,hs,z4a]))
def BldN(τ J':Store)(r:Nat)(s:List UInt8):Prop:=
 τ.length<=r/\ (∃news,J'=τ++news)/\ ((s=[]/\ J'[r]? =some (some [[.bld r,.bnil]])) ∨
  (s ≠ []/\ ∃rb,τ.length<=rb/\ rb ≠ r/\ J'[r]? =some (some [[.bld r,.bsl rb s.length]])/\ J'[rb]? =some (some (zn s))))
theorem BldN.new{τ news:Store}{r:Nat}(hr:τ.length<=r)(h:(τ++news)[r]? =some (some [[.bld r,.bnil]])):BldN τ (τ++news) r []:=⟨hr,⟨news,rfl⟩,.inl ⟨rfl,h⟩⟩
theorem BldN.ext{τ J':Store}{r:Nat}{s:List UInt8}(h:BldN τ J' r s):∃news,J'=τ++news:=h.2.1
theorem BldN.more{τ J':Store}{r:Nat}{s:List UInt8}(h:BldN τ J' r s)(y:Store):BldN τ (J'++y) r s:=by
 obtain⟨h1,⟨news,rfl⟩,h2⟩:=h
 refine⟨h1,⟨news++y,by rw [List.append_assoc]⟩,?_⟩
 rcases h2 with⟨e,h2⟩| ⟨e,rb,h3,h4,h5,h6⟩
 ·exact .inl ⟨e,by rw [List.getElem?_append_left (slen h2)];exact h2⟩
 ·exact .inr ⟨e,rb,h3,h4,by rw [List.getElem?_append_left (slen h5)];exact h5,by rw [List.getElem?_append_left (slen h6)];exact h6⟩
theorem z9f{τ news:Store}{r:Nat}(x:Option AObj)(h:τ.length<=r):(τ++news).set r x=τ++news.set (r-τ.length) x:=by rw [List.set_append_right _ _ h]
theorem BldN.write{τ J':Store}{r:Nat}{s t:List UInt8}(h:BldN τ J' r s)(h0:t ≠ [])(hl:s.length+t.length<=1073741824):
  ∃J2,ACallsTo TC 104 [.ptr r 0 0,.str t] J' (.tup [.int .i64 t.length,.any]) J2/\ BldN τ J2 r (s++t):=by
 obtain⟨h1,⟨news,rfl⟩,⟨rfl,h2⟩| ⟨e,rb,h3,h4,h5,h6⟩⟩:=h
 ·refine⟨_,zf9 _ r t h2 h0 (by simpa using hl),h1,⟨_,by rw [z9f _ h1,List.append_assoc]⟩,.inr ⟨by simpa using h0,(τ++news).length,by simp,?_,?_,?_⟩⟩
  ·have:=slen h2;omega
  ·rw [List.getElem?_append_left (by rw [List.length_set];exact slen h2),List.getElem?_set_self (slen h2)];rfl
  ·rw [List.getElem?_append_right (by rw [List.length_set];exact Nat.le_refl _),List.length_set,Nat.sub_self];rfl
 ·refine⟨_,zfa _ r rb s t h5 h6 h4 h0 hl,h1,⟨_,by rw [z9f _ h3,z9f _ h1,List.append_assoc]⟩,.inr ⟨by simp [e],(τ++news).length,by simp,?_,?_,?_⟩⟩
  ·have:=slen h5;omega
  ·rw [List.getElem?_append_left (by rw [List.length_set,List.length_set];exact slen h5),List.getElem?_set_self (by rw [List.length_set];exact slen h5)];simp
  ·rw [List.getElem?_append_right (by rw [List.length_set,List.length_set];exact Nat.le_refl _),List.length_set,List.length_set,Nat.sub_self];rfl
theorem BldN.byte{τ J':Store}{r:Nat}(b:UInt8)(h:BldN τ J' r []):∃J2,ACallsTo TC 124 [.ptr r 0 0,.int .u8 b.toNat] J' .any J2/\ BldN τ J2 r [b]:=by
 obtain⟨h1,⟨news,rfl⟩,⟨_,h2⟩| ⟨e,_⟩⟩:=h
 ·refine⟨_,zkp _ r b h2,h1,⟨_,by rw [z9f _ h1,List.append_assoc]⟩,.inr ⟨by simp,(τ++news).length,by simp,?_,?_,?_⟩⟩
  ·have:=slen h2;omega
  ·rw [List.getElem?_append_left (by rw [List.length_set];exact slen h2),List.getElem?_set_self (slen h2)];rfl
  ·rw [List.getElem?_append_right (by rw [List.length_set];exact Nat.le_refl _),List.length_set,Nat.sub_self];rfl
 ·exact absurd rfl e
theorem BldN.string{τ J':Store}{r:Nat}{s:List UInt8}(h:BldN τ J' r s)(h0:s ≠ [])(hl:s.length<=1073741824):
  ∃news,ACallsTo TC 105 [.ptr r 0 0] J' (.str s) (τ++news):=by
 obtain⟨h1,⟨news,rfl⟩,⟨rfl,h2⟩| ⟨e,rb,h3,h4,h5,h6⟩⟩:=h
 ·exact absurd rfl h0
 ·have:=zc4 _ r rb s h0 hl h5 h6
  rw [z9f _ h3]at this
  exact⟨_,this⟩
end
section
attribute [local irreducible] ACallsTo ACallsP
theorem z6u(J:Store)(h:Hash):ACallsTo TC 60 [.agg (hc h)] J (.str h.1) J:=z8t J h.1 h.2
end
section
attribute [local irreducible] ACallsTo ACallsP
def z5x(s:List UInt8):Hash:=shaH (3::s)
def z2o(hs:List Hash):Hash:=if hs.length=512 then shaH (4::catS hs)else zeroH
theorem zco(h:Hash):h.1 ≠ []:=fun e=>by have:=h.2;rw [e]at this;simp at this
theorem z39{k:Nat}(h:Hash):RL k (.agg (hc h)):=by simp only [RL];exact z6h h
theorem zan:hc zeroH=[.int .u8 0,.int .u8 0,.int .u8 0,.int .u8 0,.int .u8 0,.int .u8 0,.int .u8 0,.int .u8 0,.int .u8 0,.int .u8 0,.int .u8 0,.int .u8 0,.int .u8 0,.int .u8 0,.int .u8 0,.int .u8 0,.int .u8 0,.int .u8 0,.int .u8 0,.int .u8 0,.int .u8 0,.int .u8 0,.int .u8 0,.int .u8 0,.int .u8 0,.int .u8 0,.int .u8 0,.int .u8 0,.int .u8 0,.int .u8 0,.int .u8 0,.int .u8 0]:=rfl
theorem z9j(J:Store)(s:List UInt8)(h:s.length<100000000000):ACallsTo TC 80 [.str s] J (.agg (hc (shaH s))) J:=z80 J s h
theorem zb4(J:Store)(s:List UInt8)(h:s.length<900000000):ACallsTo TC 86 [.str s] J (.agg (hc (shaH s))) J:=z74 J s h
theorem ziz(J:Store)(s:List UInt8)(h:s.length<1000000):ACallsTo TC 125 [.str s] J (.agg (hc (z5x s))) J:=by
 have hS:=fun J=>z9j J (3::s) (by simp;omega)
 refine ACallsTo.of_body q1gok (by simp) fun hw _=> ?_
 unfold z5x
 repeat' (first|apply zs_|apply zb_|apply zc_|apply zt_ rfl|apply zf_ rfl|(refine zd_ rfl ?_ ?_<;>intro ht<;>try omega)|((first|apply zr_|apply zk_|apply ze_|apply zq_|(apply callW.mk_pu;(first|exact(fun _=>hS _)))|(apply callW.za;(first|exact(hS _)))|(apply zG<;>intro ht));all_goals try simp (disch:=first|omega|(simp only [lens,z6,z7,lQr,zx,zm,lQd];first|done|omega)) only [go_sem]))
 exact DownV.pure hw (z39 _)
theorem zey(J:Store)(hs:List Hash)(x:AV)(hx:SlV 32 (hr hs) x)(hl:hs.length<1000000):ACallsTo TC 110 [x] J (.agg (hc (z2o hs))) J:=by
 refine ACallsTo.of_body q18ok (by simp) fun hw _=> ?_
 have r1:=hx.len
 rw [z7]at r1
 unfold z1h at r1
 unfold z2o
 by_cases h5:hs.length=512
 ·rw [if_pos h5]
  have h5':(hs.length:Int)=512:=by omega
  have hτ:(J++ [some [hc zeroH]]).length=J.length+1:=by simp
  have b0:BldN (J++ [some [hc zeroH]]) (J++ [some [hc zeroH]]++ [some [[.bld (J.length+1),.bnil]]]) (J.length+1) []:=BldN.new (by omega) (by rw [List.getElem?_append_right (by omega)];simp)
  have out:∀{J':Store} {s:List UInt8},BldN (J++ [some [hc zeroH]]) J' (J.length+1) s->J'[J.length]? =some (some [hc zeroH])/\ Ext J J':=fun h=>by
   obtain⟨news,rfl⟩:=h.ext
   exact⟨by simp,⟨some [hc zeroH]::news,by simp⟩⟩
  obtain⟨J1,w1,b1⟩:∃J1,ACallsTo TC 124 [.ptr (J.length+1) 0 0,.int .u8 4] (J++ [some [hc zeroH]]++ [some [[AV.bld (J.length+1),AV.bnil]]]) .any J1/\ BldN (J++ [some [hc zeroH]]) J1 (J.length+1) [4]:=b0.byte 4
  rw [List.append_assoc,zan]at w1
  repeat' (first|apply zs_|apply zb_|apply zc_|apply zt_ rfl|apply zf_ rfl|(refine zd_ rfl ?_ ?_<;>intro ht<;>try omega)|((first|apply zr_|apply zk_|apply ze_|apply zq_|(apply callW.mk_pu;(first|exact(fun _=>w1)))|(apply callW.za;(first|exact(w1)))|(apply zG<;>intro ht));all_goals try simp (disch:=first|omega|(simp only [lens,z6,z7,lQr,zx,zm,lQd];first|done|omega)) only [go_sem,r1,h5']))
  refine zW.loop (fun m ρ J'=>∃i:Nat,m+i=hs.length/\ BldN (J++ [some [hc zeroH]]) J' (J.length+1) (4::catS (hs.take i))/\ ρ 2= .ptr J.length 0 0/\ ρ 3= .ptr (J.length+1) 0 0/\ ρ 11=x/\ ρ 12= .int .i64 512/\ ρ 13= .int .i64 i) hs.length ?_ ?_
  ·exact⟨0,by omega,by simpa [catS]using b1,by simp (disch:=first|omega|(simp only [lens,z6,z7,lQr,zx,zm,lQd];first|done|omega)) only [go_sem],by simp (disch:=first|omega|(simp only [lens,z6,z7,lQr,zx,zm,lQd];first|done|omega)) only [go_sem],by simp (disch:=first|omega|(simp only [lens,z6,z7,lQr,zx,zm,lQd];first|done|omega)) only [go_sem],by simp (disch:=first|omega|(simp only [lens,z6,z7,lQr,zx,zm,lQd];first|done|omega)) only [go_sem],by simp (disch:=first|omega|(simp only [lens,z6,z7,lQr,zx,zm,lQd];first|done|omega)) only [go_sem];rfl⟩
  ·clear w1 b1 b0
   rintro m ρ J' ⟨i,hm,hB,q2,q3,q11,q12,q13⟩
   have hcl:=z7o (hs.take i)
   rw [List.length_take]at hcl
   by_cases hi:i<hs.length
   ·obtain⟨e1,rfl⟩:=hx.vsl (by rw [z7];omega)
    have hH:=fun J=>z6u J (hd hs i)
    have hst:=zgd hi
    have h32:=(hd hs i).2
    obtain⟨J2,w2,b2⟩:=(hB.more [some [hc (hd hs i)]]).write (t:=(hd hs i).1) (zco _) (by simp;omega)
    have hi5:(i:Int)<512:=by omega
    repeat' (first|apply zs_|apply zb_|apply zc_|apply zt_ rfl|apply zf_ rfl|(refine zd_ rfl ?_ ?_<;>intro ht<;>try omega)|((first|apply zr_|apply zk_|apply ze_|apply zq_|(apply callW.mk_pu;(first|exact(fun _=>hH _)|exact(fun _=>w2)))|(apply callW.za;(first|exact(hH _)|exact(w2)))|(apply zG<;>intro ht));all_goals try simp (disch:=first|omega|(simp only [lens,z6,z7,lQr,zx,zm,lQd];first|done|omega)) only [go_sem,q2,q3,q11,q12,q13,hi5]))
    refine⟨m-1,by omega,i+1,by omega,?_,by simp⟩
    rw [hst,<-List.cons_append];exact b2
   ·have e:hs.take i=hs:=List.take_of_length_le (by omega)
    rw [e]at hB
    have hcl2:=z7o hs
    obtain⟨c0,he⟩:=out hB
    obtain⟨news,w3⟩:=hB.string (by simp) (by simp;omega)
    have hi5:¬(i:Int)<512:=by omega
    have hS:=fun J=>z9j J (4::catS hs) (by simp;omega)
    have ha:J++ [some [hc zeroH]]++news=J++(some [hc zeroH]::news):=by simp
    rw [ha]at w3
    repeat' (first|apply zs_|apply zb_|apply zc_|apply zt_ rfl|apply zf_ rfl|(refine zd_ rfl ?_ ?_<;>intro ht<;>try omega)|((first|apply zr_|apply zk_|apply ze_|apply zq_|(apply callW.mk_pu;(first|exact(fun _=>w3)|exact(fun _=>hS _)))|(apply callW.za;(first|exact(w3)|exact(hS _)))|(apply zG<;>intro ht));all_goals try simp (disch:=first|omega|(simp only [lens,z6,z7,lQr,zx,zm,lQd];first|done|omega)) only [go_sem,q2,q3,q11,q12,q13,hi5]))
    exact DownV.pure hw (z39 _)
 ·have h5':¬(hs.length:Int)=512:=by omega
  rw [if_neg h5]
  repeat' (first|apply zs_|apply zb_|apply zc_|apply zt_ rfl|apply zf_ rfl|(refine zd_ rfl ?_ ?_<;>intro ht<;>try omega)|((first|apply zr_|apply zk_|apply ze_|apply zq_|(apply zG<;>intro ht));all_goals try simp (disch:=first|omega|(simp only [lens,z6,z7,lQr,zx,zm,lQd];first|done|omega)) only [go_sem,r1,h5']))
  exact DownV.pure hw (z39 zeroH)
end
section
attribute [local irreducible] ACallsTo ACallsP
theorem Leaf_h(J:Store)(hs:List Hash)(x:AV)(hx:RdSl J 32 (hr hs) x)(hl:hs.length<1000000):ACallsTo TC 110 [x] J (.agg (hc (z2o hs))) J:=by
 obtain⟨x0,h0,hd⟩:=hx.lend (z1w hs)
 have:=ACallsTo.lend glok (zey [] hs x0 h0 hl) (drs1 hd)
 rwa [show sh J.length (.agg (hc (z2o hs)))= .agg (hc (z2o hs))from by simp only [sh,ze9],z6k,List.append_nil]at this
theorem OwnR.appB{k:Nat}{J':Store}{v:AV}{es ys:List (List AV)}(h:OwnR 1 k J' v es):z45 J' v ys=aApp J' 1 v ys:=by
 rcases h with⟨rfl,rfl⟩| ⟨r,_,_,rfl,h⟩<;>rfl
theorem zh4(h:Hash):chunk 1 32 (hc h)=zn h.1:=by have:=zcc h.1;rwa [h.2]at this
theorem zqm(J:Store)(hs:List Hash)(r:Nat)(lim:Option Nat)(hg:J[r]? =some (some (hr hs)))(h5:hs.length=512):ACallsTo TC 132 [.sl r 0 512 lim 32] J (.agg (hc (z2o hs))) J:=by
 refine ACallsTo.of_body q1aok (by simp) fun hw _=> ?_
 unfold z2o
 rw [if_pos h5]
 have dg:=slen hg
 repeat' (first|apply zs_|apply zb_|apply zc_|apply zt_ rfl|apply zf_ rfl|(refine zd_ rfl ?_ ?_<;>intro ht<;>try omega)|((first|apply zr_|apply zk_|apply ze_|apply zq_|(apply zG<;>intro ht));all_goals try simp (disch:=first|omega|(simp only [lens,z6,z7,lQr,zx,zm,lQd];first|done|omega)) only [go_sem]))
 refine zW.loop (fun m ρ J'=>∃(i:Nat) (v:AV),m+i=512/\ Ext J J'/\ J'[J.length]? =some (some [hc zeroH])/\ J.length+1<=J'.length/\ ((i=0/\ v= .vsl 1 (zn [4]) true) \/OwnR 1 (J.length+1) J' v (zn (4::catS (hs.take i))))/\ ρ 0= .sl r 0 512 lim 32/\ ρ 2= .ptr J.length 0 0/\ ρ 3=v/\ ρ 4= .int .i64 i) 512 ?_ ?_
 ·refine⟨0,.vsl 1 (zn [4]) true,by omega,(Ext.refl J).app,by simp;rfl,by simp,.inl ⟨rfl,rfl⟩,by simp (disch:=first|omega|(simp only [lens,z6,z7,lQr,zx,zm,lQd];first|done|omega)) only [go_sem],by simp (disch:=first|omega|(simp only [lens,z6,z7,lQr,zx,zm,lQd];first|done|omega)) only [go_sem],by simp (disch:=first|omega|(simp only [lens,z6,z7,lQr,zx,zm,lQd];first|done|omega)) only [go_sem];first|done|rfl,by simp (disch:=first|omega|(simp only [lens,z6,z7,lQr,zx,zm,lQd];first|done|omega)) only [go_sem];rfl⟩
 ·rintro m ρ J' ⟨i,v,hm,he,c0,hle,hv,q0,q2,q3,q4⟩
  have hcl:=z7o (hs.take i)
  rw [List.length_take]at hcl
  have hg':J'[r]? =some (some (hr hs)):=by
   obtain⟨y,rfl⟩:=he
   rw [gapp dg];exact hg
  by_cases hi:i<512
  ·have hgi:=z6y (l:=hs) (i:=i) (by omega)
   have hst:=zgd (l:=hs) (i:=i) (by omega)
   have h32:=(hd hs i).2
   have hrw:=zh4 (hd hs i)
   rcases hv with⟨rfl,rfl⟩|hO
   ·have h1:hs.take 1=[]++ [hd hs 0]:=z7b (l:=hs) (i:=0) (by omega)
    have hcat:zn [4]++zn (hd hs 0).1=zn (4::catS (hs.take 1)):=by rw [zaf,h1];simp [catS]
    repeat' (first|apply zs_|apply zb_|apply zc_|apply zt_ rfl|apply zf_ rfl|(refine zd_ rfl ?_ ?_<;>intro ht<;>try omega)|((first|apply zr_|apply zk_|apply ze_|apply zq_|(apply zG<;>intro ht));all_goals try simp (disch:=first|omega|(simp only [lens,z6,z7,lQr,zx,zm,lQd];first|done|omega)) only [go_sem,q0,q2,q3,q4,hg',hgi,hrw,hcat]))
    refine⟨m-1,by omega,1,_,by omega,he.app,c0,by omega,.inr (.inr ⟨J'.length,by omega,by simp [zn],?_,by simp⟩),rfl,by simp⟩
    rw [zx,List.length_cons,z7o,List.length_take]
    congr 1
    omega
   ·obtain⟨v',J2,ha,hO2,hk2,hE2,hl2⟩:=hO.app (ys:=zn (hd hs i).1) hle (by rw [zx];omega) (by rw [zx,zx,List.length_cons];omega)
    rw [<-hO.appB]at ha
    rw [zaf,List.cons_append,<-hst]at hO2
    have c0':=hk2 J.length (by omega)
    rw [c0]at c0'
    repeat' (first|apply zs_|apply zb_|apply zc_|apply zt_ rfl|apply zf_ rfl|(refine zd_ rfl ?_ ?_<;>intro ht<;>try omega)|((first|apply zr_|apply zk_|apply ze_|apply zq_|(apply zG<;>intro ht));all_goals try simp (disch:=first|omega|(simp only [lens,z6,z7,lQr,zx,zm,lQd];first|done|omega)) only [go_sem,q0,q2,q3,q4,hg',hgi,hrw,ha]))
    exact⟨m-1,by omega,i+1,v',by omega,hE2 J (by omega) he,c0',by omega,.inr hO2,by simp⟩
  ·obtain rfl:i=512:=by omega
   rcases hv with⟨h,_⟩|hO
   ·omega
   ·rw [List.take_of_length_le (by omega)]at hO hcl
    have hcl2:=z7o hs
    have hS:=fun J=>zb4 J (4::catS hs) (by simp;omega)
    have dd0:=slen c0
    rcases hO with⟨h,_⟩| ⟨rb,hr1,_,rfl,hgb⟩
    ·simp [zn]at h
    ·rw [zx]at*
     repeat' (first|apply zs_|apply zb_|apply zc_|apply zt_ rfl|apply zf_ rfl|(refine zd_ rfl ?_ ?_<;>intro ht<;>try omega)|((first|apply zr_|apply zk_|apply ze_|apply zq_|(apply callW.mk_pu;(first|exact(fun _=>hS _)))|(apply callW.za;(first|exact(hS _)))|(apply zG<;>intro ht));all_goals try simp (disch:=first|omega|(simp only [lens,z6,z7,lQr,zx,zm,lQd];first|done|omega)) only [go_sem,q0,q2,q3,q4,hgb,c0]))
     exact Ext.pure hw (he.set (by omega)) (z39 _)
end
section
def recS(sig d:List UInt8)(i:Nat)(L:List Hash):List Hash:=
 (L.set (2*i+bitS d i) (z5x ((sig.take (32*i+32)).drop (32*i)))).set (2*i+1-bitS d i) (toH ((sig.drop (8192+32*i)).take 32))
def recF(sig d:List UInt8):Nat->List Hash
 | 0=>List.replicate 512 zeroH
 |i+1=>recS sig d i (recF sig d i)
theorem z2g(sig d:List UInt8):∀i,(recF sig d i).length=512
 | 0=>by rw [recF,List.length_replicate]
 |i+1=>by rw [recF,recS,List.length_set,List.length_set,z2g sig d i]
theorem z8j(s:List UInt8)(i:Int):bitS s i<=1:=by
 unfold bitS
 split<;>omega
def recV(sig d:List UInt8):AV:=if sig.length=16384 then .tup [.agg (hc (z2o (recF sig d 256))),.int .i64 0]else .tup [.agg (hc zeroH),.int .i64 10]
theorem zcs:List.replicate 512 (hc zeroH)=hr (List.replicate 512 zeroH):=by rw [hr,List.map_replicate]
theorem zb6{k:Nat}{h:Hash}{e:Int}:RL k (.tup [.agg (hc h),.int .i64 e]):=by simp only [RL,RLs];exact⟨z6h h,trivial,trivial⟩
attribute [local irreducible] ACallsTo ACallsP
theorem zkh(J:Store)(sig:List UInt8)(dg:Hash)(hs:sig.length<1000000):ACallsTo TC 120 [.str sig,.agg (hc dg)] J (recV sig dg.1) J:=by
 refine ACallsTo.of_body q1cok (by simp) fun hw _=> ?_
 unfold recV
 by_cases hl:sig.length=16384
 ·have hl':(sig.length:Int)=16384:=by omega
  rw [if_pos hl]
  have hC:=fun J=>z6u J dg
  have hz:=zcs
  rw [zan]at hz
  repeat' (first|apply zs_|apply zb_|apply zc_|apply zt_ rfl|apply zf_ rfl|(refine zd_ rfl ?_ ?_<;>intro ht<;>try omega)|((first|apply zr_|apply zk_|apply ze_|apply zq_|(apply callW.mk_pu;(first|exact(fun _=>hC _)))|(apply callW.za;(first|exact(hC _)))|(apply zG<;>intro ht));all_goals try simp (disch:=first|omega|(simp only [lens,z6,z7,lQr,zx,zm,lQd,z2g];first|done|omega)) only [go_sem,hl',hz]))
  refine zW.loop (fun m ρ J'=>∃i:Nat,m+i=256/\ Ext J J'/\ J'[J.length+1]? =some (some [hc zeroH])/\ J'[J.length+2]? =some (some (hr (recF sig dg.1 i)))/\ ρ 0= .str sig/\ ρ 4= .ptr (J.length+1) 0 0/\ ρ 6= .str dg.1/\ ρ 7= .sl (J.length+2) 0 512 (some 512) 32/\ ρ 19= .int .i64 i) 256 ?_ ?_
  ·exact⟨0,by omega,(Ext.refl J).app,by rw [z1j (by omega),Nat.add_sub_cancel_left];rfl,by rw [z1j (by omega),Nat.add_sub_cancel_left];rfl,by simp (disch:=first|omega|(simp only [lens,z6,z7,lQr,zx,zm,lQd,z2g];first|done|omega)) only [go_sem],by simp (disch:=first|omega|(simp only [lens,z6,z7,lQr,zx,zm,lQd,z2g];first|done|omega)) only [go_sem],by simp (disch:=first|omega|(simp only [lens,z6,z7,lQr,zx,zm,lQd,z2g];first|done|omega)) only [go_sem],by simp (disch:=first|omega|(simp only [lens,z6,z7,lQr,zx,zm,lQd,z2g];first|done|omega)) only [go_sem],by simp (disch:=first|omega|(simp only [lens,z6,z7,lQr,zx,zm,lQd,z2g];first|done|omega)) only [go_sem];rfl⟩
  ·rintro m ρ J' ⟨i,hm,he,c1,c2,q0,q4,q6,q7,q19⟩
   have d1:=slen c1
   have d2:=slen c2
   have hrl:=z2g sig dg.1 i
   by_cases hi:i<256
   ·have hi':(i:Int)<256:=by omega
    have hdl:=dg.2
    have hB:=fun J=>zfp J dg.1 i (by omega) (by omega)
    have hb1:=z8j dg.1 i
    have hnx:recF sig dg.1 (i+1)=recS sig dg.1 i (recF sig dg.1 i):=rfl
    unfold recS at hnx
    have hSh:=fun J=>ziz J ((sig.take (32*i+32)).drop (32*i)) (by rw [List.length_drop,List.length_take];omega)
    have hU:=fun J=>zm5 J (sig.drop (8192+32*i)) (by rw [List.length_drop];omega)
    rw [zbp (by rw [List.length_drop];omega),zbq]at hU
    generalize recF sig dg.1 i=L at*
    generalize bitS dg.1 i=b at*
    generalize z5x ((sig.take (32*i+32)).drop (32*i))=A at*
    generalize toH ((sig.drop (8192+32*i)).take 32)=B at*
    have n1:((i:Int)*32).toNat=32*i:=by omega
    have n2:(((i:Int)+1)*32).toNat=32*i+32:=by omega
    have n3:((256+(i:Int))*32).toNat=8192+32*i:=by omega
    have n4:(2*(i:Int)+b).toNat=2*i+b:=by omega
    have n5:(2*(i:Int)+1-b).toNat=2*i+1-b:=by omega
    have m1:(L.set (2*i+b) A).length=512:=by rw [List.length_set];exact hrl
    have g1:=z6y (l:=L) (i:=2*i+b) (by omega)
    have g2:=z6y (l:=L.set (2*i+b) A) (i:=2*i+1-b) (by omega)
    repeat' (first|apply zs_|apply zb_|apply zc_|apply zt_ rfl|apply zf_ rfl|(refine zd_ rfl ?_ ?_<;>intro ht<;>try omega)|((first|apply zr_|apply zk_|apply ze_|apply zq_|(apply callW.mk_pu;(first|exact(fun _=>hB _)|exact(fun _=>hSh _)|exact(fun _=>hU _)))|(apply callW.za;(first|exact(hB _)|exact(hSh _)|exact(hU _)))|(apply zG<;>intro ht));all_goals try simp (disch:=first|omega|(simp only [lens,z6,z7,lQr,zx,zm,lQd,z2g];first|done|omega)) only [go_sem,q0,q4,q6,q7,q19,c1,c2,hi',hl',n1,n2,n3,n4,n5,hrl,m1,g1,g2]))
    exact⟨m-1,by omega,i+1,by omega,he.set (by omega),by rw [hnx],by simp⟩
   ·have hi':¬(i:Int)<256:=by omega
    obtain rfl:i=256:=by omega
    have hL:=fun y=>Leaf_h (J'++y) (recF sig dg.1 256) (.sl (J.length+2) 0 512 (some 512) 32) (.inr ⟨J.length+2,0,some 512,hr (recF sig dg.1 256),by rw [z7,hrl],by rw [gapp d2];exact c2,by rw [z7,hrl];decide,by rw [List.drop_zero,List.take_of_length_le (Nat.le_refl _)]⟩) (by omega)
    have hL0:=hL []
    rw [List.append_nil]at hL0
    repeat' (first|apply zs_|apply zb_|apply zc_|apply zt_ rfl|apply zf_ rfl|(refine zd_ rfl ?_ ?_<;>intro ht<;>try omega)|((first|apply zr_|apply zk_|apply ze_|apply zq_|(apply callW.mk_pu;(first|exact(fun _=>hL0)))|(apply callW.za;(first|exact(hL0)))|(apply zG<;>intro ht));all_goals try simp (disch:=first|omega|(simp only [lens,z6,z7,lQr,zx,zm,lQd,z2g];first|done|omega)) only [go_sem,q0,q4,q6,q7,q19,c1,c2,hi']))
    exact Ext.pure hw (he.set (by omega)) zb6
 ·have hl':¬(sig.length:Int)=16384:=by omega
  rw [if_neg hl]
  repeat' (first|apply zs_|apply zb_|apply zc_|apply zt_ rfl|apply zf_ rfl|(refine zd_ rfl ?_ ?_<;>intro ht<;>try omega)|((first|apply zr_|apply zk_|apply ze_|apply zq_|(apply zG<;>intro ht));all_goals try simp (disch:=first|omega|(simp only [lens,z6,z7,lQr,zx,zm,lQd,z2g];first|done|omega)) only [go_sem,hl']))
  exact DownV.pure hw (zb6 (h:=zeroH))
theorem zqq(J:Store)(sig:List UInt8)(dg:Hash)(hs:sig.length<1000000):ACallsTo TC 121 [.str sig,.agg (hc dg)] J (recV sig dg.1) J:=by
 refine ACallsTo.of_body q1dok (by simp) fun hw _=> ?_
 unfold recV
 by_cases hl:sig.length=16384
 ·have hl':(sig.length:Int)=16384:=by omega
  rw [if_pos hl]
  have hz:=zcs
  rw [zan]at hz
  repeat' (first|apply zs_|apply zb_|apply zc_|apply zt_ rfl|apply zf_ rfl|(refine zd_ rfl ?_ ?_<;>intro ht<;>try omega)|((first|apply zr_|apply zk_|apply ze_|apply zq_|(apply zG<;>intro ht));all_goals try simp (disch:=first|omega|(simp only [lens,z6,z7,lQr,zx,zm,lQd,z2g];first|done|omega)) only [go_sem,hl',hz]))
  refine zW.loop (fun m ρ J'=>∃i:Nat,m+i=256/\ Ext J J'/\ J'[J.length]? =some (some [hc dg])/\ J'[J.length+1]? =some (some [hc zeroH])/\ J'[J.length+2]? =some (some (hr (recF sig dg.1 i)))/\ ρ 0= .str sig/\ ρ 3= .ptr J.length 0 0/\ ρ 4= .ptr (J.length+1) 0 0/\ ρ 6= .sl (J.length+2) 0 512 (some 512) 32/\ ρ 7= .int .i64 i) 256 ?_ ?_
  ·exact⟨0,by omega,(Ext.refl J).app,by rw [z1j (by omega),Nat.sub_self];rfl,by rw [z1j (by omega),Nat.add_sub_cancel_left];rfl,by rw [z1j (by omega),Nat.add_sub_cancel_left];rfl,by simp (disch:=first|omega|(simp only [lens,z6,z7,lQr,zx,zm,lQd,z2g];first|done|omega)) only [go_sem],by simp (disch:=first|omega|(simp only [lens,z6,z7,lQr,zx,zm,lQd,z2g];first|done|omega)) only [go_sem],by simp (disch:=first|omega|(simp only [lens,z6,z7,lQr,zx,zm,lQd,z2g];first|done|omega)) only [go_sem],by simp (disch:=first|omega|(simp only [lens,z6,z7,lQr,zx,zm,lQd,z2g];first|done|omega)) only [go_sem],by simp (disch:=first|omega|(simp only [lens,z6,z7,lQr,zx,zm,lQd,z2g];first|done|omega)) only [go_sem];rfl⟩
  ·rintro m ρ J' ⟨i,hm,he,c0,c1,c2,q0,q3,q4,q6,q7⟩
   have d0:=slen c0
   have d1:=slen c1
   have d2:=slen c2
   have hrl:=z2g sig dg.1 i
   by_cases hi:i<256
   ·have hi':(i:Int)<256:=by omega
    have hdl:=dg.2
    have hB:=fun J=>zrx J dg.1 i (by omega) (by omega)
    have hb1:=z8j dg.1 i
    have hnx:recF sig dg.1 (i+1)=recS sig dg.1 i (recF sig dg.1 i):=rfl
    unfold recS at hnx
    have hSh:∀J,ACallsTo TC 86 [.str (3::(sig.take (32*i+32)).drop (32*i))] J (.agg (hc (z5x ((sig.take (32*i+32)).drop (32*i))))) J:=fun J=>zb4 J _ (by rw [List.length_cons,List.length_drop,List.length_take];omega)
    have hU:=fun J=>zqw J (sig.drop (8192+32*i)) (by rw [List.length_drop];omega)
    rw [zbp (by rw [List.length_drop];omega),zbq]at hU
    have hch:=zh4 dg
    have hsl:((sig.take (32*i+32)).drop (32*i)).length=32:=by rw [List.length_drop,List.length_take];omega
    generalize recF sig dg.1 i=L at*
    generalize bitS dg.1 i=b at*
    generalize z5x ((sig.take (32*i+32)).drop (32*i))=A at*
    generalize toH ((sig.drop (8192+32*i)).take 32)=B at*
    have n1:(32*(i:Int)).toNat=32*i:=by omega
    have n2:(32*(i:Int)+32).toNat=32*i+32:=by omega
    have n3:(8192+32*(i:Int)).toNat=8192+32*i:=by omega
    have n4:(2*(i:Int)+b).toNat=2*i+b:=by omega
    have n5:(2*(i:Int)+1-b).toNat=2*i+1-b:=by omega
    have m1:(L.set (2*i+b) A).length=512:=by rw [List.length_set];exact hrl
    have g1:=z6y (l:=L) (i:=2*i+b) (by omega)
    have g2:=z6y (l:=L.set (2*i+b) A) (i:=2*i+1-b) (by omega)
    repeat' (first|apply zs_|apply zb_|apply zc_|apply zt_ rfl|apply zf_ rfl|(refine zd_ rfl ?_ ?_<;>intro ht<;>try omega)|((first|apply zr_|apply zk_|apply ze_|apply zq_|(apply callW.mk_pu;(first|exact(fun _=>hB _)|exact(fun _=>hSh _)|exact(fun _=>hU _)))|(apply callW.za;(first|exact(hB _)|exact(hSh _)|exact(hU _)))|(apply zG<;>intro ht));all_goals try simp (disch:=first|omega|(simp only [lens,z6,z7,lQr,zx,zm,lQd,z2g];first|done|omega)) only [go_sem,q0,q3,q4,q6,q7,c0,c1,c2,hi',hl',n1,n2,n3,n4,n5,hrl,m1,g1,g2,hch,hsl]))
    exact⟨m-1,by omega,i+1,by omega,(he.set (by omega)).app,by rw [hnx],by simp⟩
   ·have hi':¬(i:Int)<256:=by omega
    obtain rfl:i=256:=by omega
    have hL:=fun y=>zqm (J'++y) (recF sig dg.1 256) (J.length+2) (some 512) (by rw [gapp d2];exact c2) hrl
    have hL0:=hL []
    rw [List.append_nil]at hL0
    repeat' (first|apply zs_|apply zb_|apply zc_|apply zt_ rfl|apply zf_ rfl|(refine zd_ rfl ?_ ?_<;>intro ht<;>try omega)|((first|apply zr_|apply zk_|apply ze_|apply zq_|(apply callW.mk_pu;(first|exact(fun _=>hL0)))|(apply callW.za;(first|exact(hL0)))|(apply zG<;>intro ht));all_goals try simp (disch:=first|omega|(simp only [lens,z6,z7,lQr,zx,zm,lQd,z2g];first|done|omega)) only [go_sem,q0,q3,q4,q6,q7,c0,c1,c2,hi']))
    exact Ext.pure hw (he.set (by omega)) zb6
 ·have hl':¬(sig.length:Int)=16384:=by omega
  rw [if_neg hl]
  repeat' (first|apply zs_|apply zb_|apply zc_|apply zt_ rfl|apply zf_ rfl|(refine zd_ rfl ?_ ?_<;>intro ht<;>try omega)|((first|apply zr_|apply zk_|apply ze_|apply zq_|(apply zG<;>intro ht));all_goals try simp (disch:=first|omega|(simp only [lens,z6,z7,lQr,zx,zm,lQd,z2g];first|done|omega)) only [go_sem,hl']))
  exact DownV.pure hw (zb6 (h:=zeroH))
end
section
def z1o:Nat->Nat->Nat->Nat × Nat
 | 0,i,l=>(i,l)
 |f+1,i,l=>if i%2=0/\ 0<i then z1o f (i/2) (l/2)else(i,l)
def z18:List Hash->Hash->Nat->Nat->Hash × Nat × Nat
 | [],h,_,l=>(h,l,0)
 |p::ps,h,i,l=>if l=0 then(h,0,0)else
  if i%2=1 \/i=l then let r:=z18 ps (z11 p h) ((z1o 13 i l).1/2) ((z1o 13 i l).2/2);(r.1,r.2.1,r.2.2+1)
  else let r:=z18 ps (z11 h p) (i/2) (l/2);(r.1,r.2.1,r.2.2+1)
def z2d(r:Hash × Nat × Nat)(root:Hash)(len:Nat):Int:=if r.2.1 ≠ 0 \/r.2.2 ≠ len \/r.1 ≠ root then 80 else 0
def chkP(leaf:Hash)(i n:Int)(path:List Hash)(root:Hash):Int:=
 if n<1 \/4096<n \/i<0 \/n<=i then 2 else z2d (z18 path leaf i.toNat (n.toNat-1)) root path.length
theorem z6n{f i l:Nat}(h:¬(i%2=0/\ 0<i)):z1o f i l=(i,l):=by
 cases f with
 |zero=>rfl
 |succ f=>rw [z1o,if_neg h]
attribute [local irreducible] ACallsTo ACallsP
theorem zjy(J:Store)(leaf:Hash)(i n:Int)(path:List Hash)(x:AV)(root:Hash)(hx:SlV 32 (hr path) x)(hl:path.length<1000000)(hi: -9223372036854775808<=i/\ i<=9223372036854775807)(hn: -9223372036854775808<=n/\ n<=9223372036854775807):
  ACallsTo TC 51 [.agg (hc leaf),.int .i64 i,.int .i64 n,x,.agg (hc root)] J (.int .i64 (chkP leaf i n path root)) J:=by
 have r1:=hx.len
 rw [z7]at r1
 unfold z1h at r1
 unfold chkP
 by_cases hb:n<1 \/4096<n \/i<0 \/n<=i
 ·rw [if_pos hb]
  refine ACallsTo.of_body q14ok (by simp) fun hw _=> ?_
  repeat' (first|apply zs_|apply zb_|apply zc_|apply zt_ rfl|apply zf_ rfl|(refine zd_ rfl ?_ ?_<;>intro ht<;>try omega)|((first|apply zr_|apply zk_|apply ze_|apply zq_|(apply zG<;>intro ht));all_goals try simp (disch:=first|omega|(simp only [lens,z6,z7,lQr,lQd];first|done|omega)) only [go_sem,r1]))
  all_goals exact DownV.pure hw (zz _ rfl)
 ·rw [if_neg hb]
  obtain⟨i,rfl⟩:∃k:Nat,i=k:=⟨i.toNat,by omega⟩
  obtain⟨l,rfl⟩:∃l:Nat,n=((l+1:Nat):Int):=⟨n.toNat-1,by omega⟩
  rw [Int.toNat_natCast,Int.toNat_natCast,Nat.add_sub_cancel]
  have hl1:((l+1:Nat):Int)-1=(l:Int):=by omega
  refine ACallsTo.of_body q14ok (by simp) fun hw _=> ?_
  repeat' (first|apply zs_|apply zb_|apply zc_|apply zt_ rfl|apply zf_ rfl|(refine zd_ rfl ?_ ?_<;>intro ht<;>try omega)|((first|apply zr_|apply zk_|apply ze_|apply zq_|(apply zG<;>intro ht));all_goals try simp (disch:=first|omega|(simp only [lens,z6,z7,lQr,lQd];first|done|omega)) only [go_sem,r1,hl1]))
  obtain⟨R,hR⟩:∃R,z18 path leaf i l=R:=⟨_,rfl⟩
  rw [hR]
  refine zW.loop (fun m ρ J'=>∃(k i' l':Nat) (h:Hash),m+k=path.length/\ Ext J J'/\ i'<=l'/\ l'<4096/\ R=((z18 (path.drop k) h i' l').1,(z18 (path.drop k) h i' l').2.1,(z18 (path.drop k) h i' l').2.2+k)/\ J'[J.length]? =some (some [hc h])/\ J'[J.length+1]? =some (some [hc root]) ∧
   ρ 1= .int .i64 i'/\ ρ 3=x/\ ρ 5= .ptr J.length 0 0/\ ρ 9= .ptr (J.length+1) 0 0/\ ρ 11= .int .i64 l'/\ ρ 12= .int .i64 k/\ ρ 32=x/\ ρ 33= .int .i64 path.length/\ ρ 34= .int .i64 k) path.length ?_ ?_
  ·exact⟨0,i,l,leaf,by omega,(Ext.refl J).app,by omega,by omega,by rw [List.drop_zero,hR];rfl,by simp,by simp,by simp (disch:=first|omega|(simp only [lens,z6,z7,lQr,lQd];first|done|omega)) only [go_sem],by simp (disch:=first|omega|(simp only [lens,z6,z7,lQr,lQd];first|done|omega)) only [go_sem],by simp (disch:=first|omega|(simp only [lens,z6,z7,lQr,lQd];first|done|omega)) only [go_sem],by simp (disch:=first|omega|(simp only [lens,z6,z7,lQr,lQd];first|done|omega)) only [go_sem],by simp (disch:=first|omega|(simp only [lens,z6,z7,lQr,lQd];first|done|omega)) only [go_sem],by simp (disch:=first|omega|(simp only [lens,z6,z7,lQr,lQd];first|done|omega)) only [go_sem];rfl,by simp (disch:=first|omega|(simp only [lens,z6,z7,lQr,lQd];first|done|omega)) only [go_sem],by simp (disch:=first|omega|(simp only [lens,z6,z7,lQr,lQd];first|done|omega)) only [go_sem,r1],by simp (disch:=first|omega|(simp only [lens,z6,z7,lQr,lQd];first|done|omega)) only [go_sem];rfl⟩
  ·clear hR
   rintro m ρ J' ⟨k,i',l',h,hm,he,hil,hl4,hR,c0,c1,q1,q3,q5,q9,q11,q12,q32,q33,q34⟩
   have d0:=slen c0
   have d1:=slen c1
   by_cases hk:k<path.length
   ·have hdr:path.drop k=hd path k::path.drop (k+1):=by
     rw [List.drop_eq_getElem_cons hk,z90 hk]
    rw [hdr]at hR
    obtain⟨ex,rfl⟩:=hx.vsl (by rw [z7];omega)
    by_cases hl0:l'=0
    ·subst hl0
     simp only [z18,if_true]at hR
     subst hR
     repeat' (first|apply zs_|apply zb_|apply zc_|apply zt_ rfl|apply zf_ rfl|(refine zd_ rfl ?_ ?_<;>intro ht<;>try omega)|((first|apply zr_|apply zk_|apply ze_|apply zq_|(apply zG<;>intro ht));all_goals try simp (disch:=first|omega|(simp only [lens,z6,z7,lQr,lQd];first|done|omega)) only [go_sem,q1,q3,q5,q9,q11,q12,q32,q33,q34,c0,c1]))
     have hE:z2d (h,0,0+k) root path.length=80:=by
      unfold z2d
      rw [if_pos (.inr (.inl (by show 0+k ≠ _;omega)))]
     rw [Nat.zero_add]at hE
     rw [hE]
     exact Ext.pure hw he.app (zz _ rfl)
    ·have hl0':¬(l':Int)=0:=by omega
     have t1:(i':Int)/2=((i'/2:Nat):Int):=by simp
     have t2:(l':Int)/2=((l'/2:Nat):Int):=by simp
     by_cases hcc:i'%2=1 \/i'=l'
     ·simp only [z18]at hR
      rw [if_neg hl0,if_pos hcc]at hR
      have hN:=fun J=>zjf J (hd path k) h
      generalize z11 (hd path k) h=h2 at*
      rcases Nat.mod_two_eq_zero_or_one i' with hp|hp
      ·have hp':(i':Int)%2=0:=by omega
       have hil2:(i':Int)=l':=by omega
       have hil3:i'=l':=by omega
       repeat' (first|apply zs_|apply zb_|apply zc_|apply zt_ rfl|apply zf_ rfl|(refine zd_ rfl ?_ ?_<;>intro ht<;>try omega)|((first|apply zr_|apply zk_|apply ze_|apply zq_|(apply callW.mk_pu;(first|exact(fun _=>hN _)))|(apply callW.za;(first|exact(hN _)))|(apply zG<;>intro ht));all_goals try simp (disch:=first|omega|(simp only [lens,z6,z7,lQr,lQd];first|done|omega)) only [go_sem,q1,q3,q5,q9,q11,q12,q32,q33,q34,c0,c1,hl0',hp',hil2]))
       refine zW.loop (fun m2 ρ2 J2=>∃(i2 l2 f:Nat),m2=i2/\ J2=J'.set J.length (some [hc h2])++ [some [hc (hd path k)]]/\ z1o f i2 l2=z1o 13 i' l'/\ i2<2^f/\ i2<=l2/\ l2<=l'/\ ρ2 1= .int .i64 i2/\ ρ2 3= .vsl 32 (hr path) ex/\ ρ2 5= .ptr J.length 0 0/\ ρ2 9= .ptr (J.length+1) 0 0/\ ρ2 11= .int .i64 l2/\ ρ2 12= .int .i64 k/\ ρ2 32= .vsl 32 (hr path) ex/\ ρ2 33= .int .i64 path.length/\ ρ2 34= .int .i64 k) i' ?_ ?_
       ·exact⟨i',l',13,rfl,rfl,rfl,by omega,hil,Nat.le_refl _,by simp (disch:=first|omega|(simp only [lens,z6,z7,lQr,lQd];first|done|omega)) only [go_sem,q1],by simp (disch:=first|omega|(simp only [lens,z6,z7,lQr,lQd];first|done|omega)) only [go_sem,q3],by simp (disch:=first|omega|(simp only [lens,z6,z7,lQr,lQd];first|done|omega)) only [go_sem,q5],by simp (disch:=first|omega|(simp only [lens,z6,z7,lQr,lQd];first|done|omega)) only [go_sem,q9],by simp (disch:=first|omega|(simp only [lens,z6,z7,lQr,lQd];first|done|omega)) only [go_sem,q11],by simp (disch:=first|omega|(simp only [lens,z6,z7,lQr,lQd];first|done|omega)) only [go_sem,q12],by simp (disch:=first|omega|(simp only [lens,z6,z7,lQr,lQd];first|done|omega)) only [go_sem,q32],by simp (disch:=first|omega|(simp only [lens,z6,z7,lQr,lQd];first|done|omega)) only [go_sem,q33],by simp (disch:=first|omega|(simp only [lens,z6,z7,lQr,lQd];first|done|omega)) only [go_sem,q34]⟩
       ·rintro m2 ρ2 J2 ⟨i2,l2,f,rfl,rfl,hst,hf,hil2,hll,p1,p3,p5,p9,p11,p12,p32,p33,p34⟩
        have t3:(m2:Int)/2=((m2/2:Nat):Int):=by simp
        have t4:(l2:Int)/2=((l2/2:Nat):Int):=by simp
        clear q1 q3 q5 q9 q11 q12 q32 q33 q34
        by_cases hc2:m2%2=0/\ 0<m2
        ·have u1:(m2:Int)%2=0:=by omega
         have u2:(m2:Int)>0:=by omega
         cases f with
         |zero=>simp at hf;omega
         |succ f=>
          rw [z1o,if_pos hc2]at hst
          rw [Nat.pow_succ]at hf
          repeat' (first|apply zs_|apply zb_|apply zc_|apply zt_ rfl|apply zf_ rfl|(refine zd_ rfl ?_ ?_<;>intro ht<;>try omega)|((first|apply zr_|apply zk_|apply ze_|apply zq_|(apply zG<;>intro ht));all_goals try simp (disch:=first|omega|(simp only [lens,z6,z7,lQr,lQd];first|done|omega)) only [go_sem,p1,p3,p5,p9,p11,p12,p32,p33,p34,u1,u2,t3,t4]))
          exact⟨m2/2,by omega,m2/2,l2/2,f,rfl,hst,by omega,by omega,by omega,by simp⟩
        ·rw [z6n hc2]at hst
         rw [<-hst]at hR
         rcases Nat.eq_zero_or_pos m2 with hz|hz
         ·subst hz
          repeat' (first|apply zs_|apply zb_|apply zc_|apply zt_ rfl|apply zf_ rfl|(refine zd_ rfl ?_ ?_<;>intro ht<;>try omega)|((first|apply zr_|apply zk_|apply ze_|apply zq_|(apply zG<;>intro ht));all_goals try simp (disch:=first|omega|(simp only [lens,z6,z7,lQr,lQd];first|done|omega)) only [go_sem,p1,p3,p5,p9,p11,p12,p32,p33,p34,t3,t4]))
          exact⟨m-1,by omega,k+1,0,l2/2,h2,by omega,(he.set (by omega)).app,by omega,by omega,by rw [hR];simp [Nat.add_assoc,Nat.add_comm 1 k],by simp [c1]⟩
         ·have u1:¬(m2:Int)%2=0:=by omega
          repeat' (first|apply zs_|apply zb_|apply zc_|apply zt_ rfl|apply zf_ rfl|(refine zd_ rfl ?_ ?_<;>intro ht<;>try omega)|((first|apply zr_|apply zk_|apply ze_|apply zq_|(apply zG<;>intro ht));all_goals try simp (disch:=first|omega|(simp only [lens,z6,z7,lQr,lQd];first|done|omega)) only [go_sem,p1,p3,p5,p9,p11,p12,p32,p33,p34,u1,t3,t4]))
          exact⟨m-1,by omega,k+1,m2/2,l2/2,h2,by omega,(he.set (by omega)).app,by omega,by omega,by rw [hR];simp [Nat.add_assoc,Nat.add_comm 1 k],by simp [c1]⟩
      ·have hp':(i':Int)%2=1:=by omega
       repeat' (first|apply zs_|apply zb_|apply zc_|apply zt_ rfl|apply zf_ rfl|(refine zd_ rfl ?_ ?_<;>intro ht<;>try omega)|((first|apply zr_|apply zk_|apply ze_|apply zq_|(apply callW.mk_pu;(first|exact(fun _=>hN _)))|(apply callW.za;(first|exact(hN _)))|(apply zG<;>intro ht));all_goals try simp (disch:=first|omega|(simp only [lens,z6,z7,lQr,lQd];first|done|omega)) only [go_sem,q1,q3,q5,q9,q11,q12,q32,q33,q34,c0,c1,hl0',hp']))
       refine zW.loop (fun m2 ρ2 J2=>∃(i2 l2 f:Nat),m2=i2/\ J2=J'.set J.length (some [hc h2])++ [some [hc (hd path k)]]/\ z1o f i2 l2=z1o 13 i' l'/\ i2<2^f/\ i2<=l2/\ l2<=l'/\ ρ2 1= .int .i64 i2/\ ρ2 3= .vsl 32 (hr path) ex/\ ρ2 5= .ptr J.length 0 0/\ ρ2 9= .ptr (J.length+1) 0 0/\ ρ2 11= .int .i64 l2/\ ρ2 12= .int .i64 k/\ ρ2 32= .vsl 32 (hr path) ex/\ ρ2 33= .int .i64 path.length/\ ρ2 34= .int .i64 k) i' ?_ ?_
       ·exact⟨i',l',13,rfl,rfl,rfl,by omega,hil,Nat.le_refl _,by simp (disch:=first|omega|(simp only [lens,z6,z7,lQr,lQd];first|done|omega)) only [go_sem,q1],by simp (disch:=first|omega|(simp only [lens,z6,z7,lQr,lQd];first|done|omega)) only [go_sem,q3],by simp (disch:=first|omega|(simp only [lens,z6,z7,lQr,lQd];first|done|omega)) only [go_sem,q5],by simp (disch:=first|omega|(simp only [lens,z6,z7,lQr,lQd];first|done|omega)) only [go_sem,q9],by simp (disch:=first|omega|(simp only [lens,z6,z7,lQr,lQd];first|done|omega)) only [go_sem,q11],by simp (disch:=first|omega|(simp only [lens,z6,z7,lQr,lQd];first|done|omega)) only [go_sem,q12],by simp (disch:=first|omega|(simp only [lens,z6,z7,lQr,lQd];first|done|omega)) only [go_sem,q32],by simp (disch:=first|omega|(simp only [lens,z6,z7,lQr,lQd];first|done|omega)) only [go_sem,q33],by simp (disch:=first|omega|(simp only [lens,z6,z7,lQr,lQd];first|done|omega)) only [go_sem,q34]⟩
       ·rintro m2 ρ2 J2 ⟨i2,l2,f,rfl,rfl,hst,hf,hil2,hll,p1,p3,p5,p9,p11,p12,p32,p33,p34⟩
        have t3:(m2:Int)/2=((m2/2:Nat):Int):=by simp
        have t4:(l2:Int)/2=((l2/2:Nat):Int):=by simp
        clear q1 q3 q5 q9 q11 q12 q32 q33 q34
        by_cases hc2:m2%2=0/\ 0<m2
        ·have u1:(m2:Int)%2=0:=by omega
         have u2:(m2:Int)>0:=by omega
         cases f with
         |zero=>simp at hf;omega
         |succ f=>
          rw [z1o,if_pos hc2]at hst
          rw [Nat.pow_succ]at hf
          repeat' (first|apply zs_|apply zb_|apply zc_|apply zt_ rfl|apply zf_ rfl|(refine zd_ rfl ?_ ?_<;>intro ht<;>try omega)|((first|apply zr_|apply zk_|apply ze_|apply zq_|(apply zG<;>intro ht));all_goals try simp (disch:=first|omega|(simp only [lens,z6,z7,lQr,lQd];first|done|omega)) only [go_sem,p1,p3,p5,p9,p11,p12,p32,p33,p34,u1,u2,t3,t4]))
          exact⟨m2/2,by omega,m2/2,l2/2,f,rfl,hst,by omega,by omega,by omega,by simp⟩
        ·rw [z6n hc2]at hst
         rw [<-hst]at hR
         rcases Nat.eq_zero_or_pos m2 with hz|hz
         ·subst hz
          repeat' (first|apply zs_|apply zb_|apply zc_|apply zt_ rfl|apply zf_ rfl|(refine zd_ rfl ?_ ?_<;>intro ht<;>try omega)|((first|apply zr_|apply zk_|apply ze_|apply zq_|(apply zG<;>intro ht));all_goals try simp (disch:=first|omega|(simp only [lens,z6,z7,lQr,lQd];first|done|omega)) only [go_sem,p1,p3,p5,p9,p11,p12,p32,p33,p34,t3,t4]))
          exact⟨m-1,by omega,k+1,0,l2/2,h2,by omega,(he.set (by omega)).app,by omega,by omega,by rw [hR];simp [Nat.add_assoc,Nat.add_comm 1 k],by simp [c1]⟩
         ·have u1:¬(m2:Int)%2=0:=by omega
          repeat' (first|apply zs_|apply zb_|apply zc_|apply zt_ rfl|apply zf_ rfl|(refine zd_ rfl ?_ ?_<;>intro ht<;>try omega)|((first|apply zr_|apply zk_|apply ze_|apply zq_|(apply zG<;>intro ht));all_goals try simp (disch:=first|omega|(simp only [lens,z6,z7,lQr,lQd];first|done|omega)) only [go_sem,p1,p3,p5,p9,p11,p12,p32,p33,p34,u1,t3,t4]))
          exact⟨m-1,by omega,k+1,m2/2,l2/2,h2,by omega,(he.set (by omega)).app,by omega,by omega,by rw [hR];simp [Nat.add_assoc,Nat.add_comm 1 k],by simp [c1]⟩
     ·simp only [z18]at hR
      rw [if_neg hl0,if_neg hcc]at hR
      have hN:=fun J=>zjf J h (hd path k)
      generalize z11 h (hd path k)=h2 at*
      have hp':(i':Int)%2=0:=by omega
      have hne:¬(i':Int)=l':=by omega
      repeat' (first|apply zs_|apply zb_|apply zc_|apply zt_ rfl|apply zf_ rfl|(refine zd_ rfl ?_ ?_<;>intro ht<;>try omega)|((first|apply zr_|apply zk_|apply ze_|apply zq_|(apply callW.mk_pu;(first|exact(fun _=>hN _)))|(apply callW.za;(first|exact(hN _)))|(apply zG<;>intro ht));all_goals try simp (disch:=first|omega|(simp only [lens,z6,z7,lQr,lQd];first|done|omega)) only [go_sem,q1,q3,q5,q9,q11,q12,q32,q33,q34,c0,c1,hl0',hp',hne,t1,t2]))
      exact⟨m-1,by omega,k+1,i'/2,l'/2,h2,by omega,(he.set (by omega)).app,by omega,by omega,by rw [hR];simp [Nat.add_assoc,Nat.add_comm 1 k],by simp [c1]⟩
   ·obtain rfl:k=path.length:=by omega
    rw [List.drop_of_length_le (Nat.le_refl _)]at hR
    simp only [z18,Nat.zero_add]at hR
    subst hR
    unfold z2d
    by_cases h1:l'=0
    ·subst h1
     by_cases h2:h=root
     ·subst h2
      rw [if_neg (by simp)]
      repeat' (first|apply zs_|apply zb_|apply zc_|apply zt_ rfl|apply zf_ rfl|(refine zd_ rfl ?_ ?_<;>intro ht<;>try omega)|((first|apply zr_|apply zk_|apply ze_|apply zq_|(apply zG<;>intro ht));all_goals try simp (disch:=first|omega|(simp only [lens,z6,z7,lQr,lQd];first|done|omega)) only [go_sem,q1,q3,q5,q9,q11,q12,q32,q33,q34,c0,c1,r1]))
      exact Ext.pure hw he (zz _ rfl)
     ·rw [if_pos (.inr (.inr h2))]
      repeat' (first|apply zs_|apply zb_|apply zc_|apply zt_ rfl|apply zf_ rfl|(refine zd_ rfl ?_ ?_<;>intro ht<;>try omega)|((first|apply zr_|apply zk_|apply ze_|apply zq_|(apply zG<;>intro ht));all_goals try simp (disch:=first|omega|(simp only [lens,z6,z7,lQr,lQd];first|done|omega)) only [go_sem,q1,q3,q5,q9,q11,q12,q32,q33,q34,c0,c1,r1,h2]))
      exact Ext.pure hw he (zz _ rfl)
    ·rw [if_pos (.inl h1)]
     have hl0':¬(l':Int)=0:=by omega
     repeat' (first|apply zs_|apply zb_|apply zc_|apply zt_ rfl|apply zf_ rfl|(refine zd_ rfl ?_ ?_<;>intro ht<;>try omega)|((first|apply zr_|apply zk_|apply ze_|apply zq_|(apply zG<;>intro ht));all_goals try simp (disch:=first|omega|(simp only [lens,z6,z7,lQr,lQd];first|done|omega)) only [go_sem,q1,q3,q5,q9,q11,q12,q32,q33,q34,c0,c1,r1,hl0']))
     exact Ext.pure hw he (zz _ rfl)
end
section
def z1y:List Hash->Hash->Nat->Nat->Hash × Bool
 | [],h,_,n=>(h,decide (n=1))
 |x::rs,h,i,n=>if n=1 then(h,false)else
  if i<zu n then(z11 (z1y rs h i (zu n)).1 x,(z1y rs h i (zu n)).2)
  else(z11 x (z1y rs h (i-zu n) (n-zu n)).1,(z1y rs h (i-zu n) (n-zu n)).2)
def chkR(leaf:Hash)(i n:Int)(path:List Hash)(root:Hash):Int:=
 if n<1 \/4096<n \/i<0 \/n<=i then 2 else if (z1y path.reverse leaf i.toNat n.toNat).2=false \/(z1y path.reverse leaf i.toNat n.toNat).1 ≠ root then 80 else 0
theorem z77{k:Nat}{h:Hash}{b:Bool}:RL k (.tup [.agg (hc h),.bool b]):=by simp only [RL,RLs];exact⟨z6h h,trivial,trivial⟩
theorem zr1{P:List Hash}{m:Nat}(h:P.length=m+1):P.reverse=hd P m::(P.take m).reverse:=by
 have e:P=P.take m++ [hd P m]:=by rw [<-z7b (by omega),List.take_of_length_le (by omega)]
 conv=>lhs;rw [e]
 rw [List.reverse_append,List.reverse_singleton,List.singleton_append]
attribute [local irreducible] ACallsTo ACallsP
theorem come_v:∀(f:Nat) (J:Store) (leaf:Hash) (i n:Nat) (P:List Hash) (x:AV),P.length<=f->SlV 32 (hr P) x->P.length<1000000->1<=n->n<=4096->i<n->
  ACallsTo TC 100 [.agg (hc leaf),.int .i64 i,.int .i64 n,x] J (.tup [.agg (hc (z1y P.reverse leaf i n).1),.bool (z1y P.reverse leaf i n).2]) J:=by
 intro f
 induction f with
 |zero=>
  intro J leaf i n P x hf hx hl h1 h4 hi
  obtain rfl:P=[]:=List.eq_nil_of_length_eq_zero (by omega)
  have r1:=hx.len
  rw [z7]at r1
  unfold z1h at r1
  simp only [List.reverse_nil,z1y]
  refine ACallsTo.of_body q17ok (by simp) fun hw _=> ?_
  by_cases hn:n=1
  ·subst hn
   repeat' (first|apply zs_|apply zb_|apply zc_|apply zt_ rfl|apply zf_ rfl|(refine zd_ rfl ?_ ?_<;>intro ht<;>try omega)|((first|apply zr_|apply zk_|apply ze_|apply zq_|(apply zG<;>intro ht));all_goals try simp (disch:=first|omega|(simp only [lens,z6,z7,lQr,lQd];first|done|omega)) only [go_sem,r1]))
   exact DownV.pure hw z77
  ·have hn':¬(n:Int)=1:=by omega
   rw [decide_eq_false hn]
   repeat' (first|apply zs_|apply zb_|apply zc_|apply zt_ rfl|apply zf_ rfl|(refine zd_ rfl ?_ ?_<;>intro ht<;>try omega)|((first|apply zr_|apply zk_|apply ze_|apply zq_|(apply zG<;>intro ht));all_goals try simp (disch:=first|omega|(simp only [lens,z6,z7,lQr,lQd];first|done|omega)) only [go_sem,r1,hn']))
   exact DownV.pure hw z77
 |succ f ih=>
  intro J leaf i n P x hf hx hl h1 h4 hi
  have r1:=hx.len
  rw [z7]at r1
  unfold z1h at r1
  rcases Nat.eq_zero_or_pos P.length with h0|hpos
  ·exact ih J leaf i n P x (by omega) hx hl h1 h4 hi
  ·obtain⟨m,hm⟩:∃m,P.length=m+1:=⟨P.length-1,by omega⟩
   obtain⟨ex,rfl⟩:=hx.vsl (by rw [z7];omega)
   rw [zr1 hm]
   simp only [z1y]
   refine ACallsTo.of_body q17ok (by simp) fun hw _=> ?_
   have hz:¬(P.length:Int)=0:=by omega
   by_cases hn:n=1
   ·subst hn
    simp only [if_true]
    repeat' (first|apply zs_|apply zb_|apply zc_|apply zt_ rfl|apply zf_ rfl|(refine zd_ rfl ?_ ?_<;>intro ht<;>try omega)|((first|apply zr_|apply zk_|apply ze_|apply zq_|(apply zG<;>intro ht));all_goals try simp (disch:=first|omega|(simp only [lens,z6,z7,lQr,lQd];first|done|omega)) only [go_sem,r1,hz]))
    exact DownV.pure hw z77
   ·rw [if_neg hn]
    have hn':¬(n:Int)=1:=by omega
    have hm1:(P.length:Int)-1=(m:Int):=by omega
    have hmm:((m:Nat):Int).toNat=m:=rfl
    have hS:=fun J=>z9a J n (by omega)
    obtain⟨s1,s2⟩:1<=zu n/\ zu n<n:=⟨(z3a (by omega)).2.2,(z3a (by omega)).1⟩
    generalize zu n=s at*
    by_cases his:i<s
    ·rw [if_pos his]
     have his':(i:Int)<s:=by omega
     have hI:=fun J t=>ih J leaf i s (P.take m) (.vsl 32 (hr (P.take m)) t) (by rw [List.length_take];omega) (.inr ⟨t,rfl⟩) (by rw [List.length_take];omega) s1 (by omega) his
     have hN:=fun J=>z99 J (z1y (P.take m).reverse leaf i s).1 (hd P m)
     generalize z1y (P.take m).reverse leaf i s=r at*
     repeat' (first|apply zs_|apply zb_|apply zc_|apply zt_ rfl|apply zf_ rfl|(refine zd_ rfl ?_ ?_<;>intro ht<;>try omega)|((first|apply zr_|apply zk_|apply ze_|apply zq_|(apply zG<;>intro ht));all_goals try simp (disch:=first|omega|(simp only [lens,z6,z7,lQr,lQd];first|done|omega)) only [go_sem,r1,hz,hn']))
     refine zW.reg2 ?_ ?_
     ·simp (disch:=first|omega|(simp only [lens,z6,z7,lQr,lQd];first|done|omega)) only [go_sem,r1,hz,hn',hm1,hmm]
      repeat' (first|apply zs_|apply zb_|apply zc_|apply zt_ rfl|apply zf_ rfl|(refine zd_ rfl ?_ ?_<;>intro ht<;>try omega)|((first|apply zr_|apply zk_|apply ze_|apply zq_|(apply callW.mk_pu;(first|exact(fun _=>hS _)|exact(fun _=>hI _ _)|exact(fun _=>hN _)))|(apply callW.za;(first|exact(hS _)|exact(hI _ _)|exact(hN _)))|(apply zG<;>intro ht));all_goals try simp (disch:=first|omega|(simp only [lens,z6,z7,lQr,lQd];first|done|omega)) only [go_sem,r1,hz,hn',hm1,hmm,his']))
      exact DownV.pure hw z77
     ·simp (disch:=first|omega|(simp only [lens,z6,z7,lQr,lQd];first|done|omega)) only [go_sem,r1,hz,hn',hm1,hmm]
      repeat' (first|apply zs_|apply zb_|apply zc_|apply zt_ rfl|apply zf_ rfl|(refine zd_ rfl ?_ ?_<;>intro ht<;>try omega)|((first|apply zr_|apply zk_|apply ze_|apply zq_|(apply callW.mk_pu;(first|exact(fun _=>hS _)|exact(fun _=>hI _ _)|exact(fun _=>hN _)))|(apply callW.za;(first|exact(hS _)|exact(hI _ _)|exact(hN _)))|(apply zG<;>intro ht));all_goals try simp (disch:=first|omega|(simp only [lens,z6,z7,lQr,lQd];first|done|omega)) only [go_sem,r1,hz,hn',hm1,hmm,his']))
      exact DownV.pure hw z77
    ·rw [if_neg his]
     have his':¬(i:Int)<s:=by omega
     have hI:=fun J t=>ih J leaf (i-s) (n-s) (P.take m) (.vsl 32 (hr (P.take m)) t) (by rw [List.length_take];omega) (.inr ⟨t,rfl⟩) (by rw [List.length_take];omega) (by omega) (by omega) (by omega)
     have hN:=fun J=>z99 J (hd P m) (z1y (P.take m).reverse leaf (i-s) (n-s)).1
     have e1:(i:Int)-s=((i-s:Nat):Int):=by omega
     have e2:(n:Int)-s=((n-s:Nat):Int):=by omega
     generalize z1y (P.take m).reverse leaf (i-s) (n-s)=r at*
     repeat' (first|apply zs_|apply zb_|apply zc_|apply zt_ rfl|apply zf_ rfl|(refine zd_ rfl ?_ ?_<;>intro ht<;>try omega)|((first|apply zr_|apply zk_|apply ze_|apply zq_|(apply zG<;>intro ht));all_goals try simp (disch:=first|omega|(simp only [lens,z6,z7,lQr,lQd];first|done|omega)) only [go_sem,r1,hz,hn']))
     refine zW.reg2 ?_ ?_
     ·simp (disch:=first|omega|(simp only [lens,z6,z7,lQr,lQd];first|done|omega)) only [go_sem,r1,hz,hn',hm1,hmm]
      repeat' (first|apply zs_|apply zb_|apply zc_|apply zt_ rfl|apply zf_ rfl|(refine zd_ rfl ?_ ?_<;>intro ht<;>try omega)|((first|apply zr_|apply zk_|apply ze_|apply zq_|(apply callW.mk_pu;(first|exact(fun _=>hS _)|exact(fun _=>hI _ _)|exact(fun _=>hN _)))|(apply callW.za;(first|exact(hS _)|exact(hI _ _)|exact(hN _)))|(apply zG<;>intro ht));all_goals try simp (disch:=first|omega|(simp only [lens,z6,z7,lQr,lQd];first|done|omega)) only [go_sem,r1,hz,hn',hm1,hmm,his',e1,e2]))
      exact DownV.pure hw z77
     ·simp (disch:=first|omega|(simp only [lens,z6,z7,lQr,lQd];first|done|omega)) only [go_sem,r1,hz,hn',hm1,hmm]
      repeat' (first|apply zs_|apply zb_|apply zc_|apply zt_ rfl|apply zf_ rfl|(refine zd_ rfl ?_ ?_<;>intro ht<;>try omega)|((first|apply zr_|apply zk_|apply ze_|apply zq_|(apply callW.mk_pu;(first|exact(fun _=>hS _)|exact(fun _=>hI _ _)|exact(fun _=>hN _)))|(apply callW.za;(first|exact(hS _)|exact(hI _ _)|exact(hN _)))|(apply zG<;>intro ht));all_goals try simp (disch:=first|omega|(simp only [lens,z6,z7,lQr,lQd];first|done|omega)) only [go_sem,r1,hz,hn',hm1,hmm,his',e1,e2]))
      exact DownV.pure hw z77
end
section
theorem spl8:zu 8=4:=zbg 2
theorem spl4:zu 4=2:=zbg 1
theorem spl2:zu 2=1:=zbg 0
theorem zm0{i:Nat}(hi:i<8)(leaf root:Hash):∀(path:List Hash),path.length ≠ 3->z2d (z18 path leaf i 7) root path.length=80:=by
 have:i=0 \/i=1 \/i=2 \/i=3 \/i=4 \/i=5 \/i=6 \/i=7:=by omega
 intro path h
 match path,h with
 | [],_=>rcases this with rfl|rfl|rfl|rfl|rfl|rfl|rfl|rfl<;>simp [z18,z2d]
 | [a],_=>rcases this with rfl|rfl|rfl|rfl|rfl|rfl|rfl|rfl<;>simp [z18,z2d,z1o]
 | [a,b],_=>rcases this with rfl|rfl|rfl|rfl|rfl|rfl|rfl|rfl<;>simp [z18,z2d,z1o]
 |a::b::c::d::r,_=>rcases this with rfl|rfl|rfl|rfl|rfl|rfl|rfl|rfl<;>simp [z18,z2d,z1o]
theorem zm6{i:Nat}(hi:i<8)(leaf:Hash):∀(rp:List Hash),rp.length ≠ 3->(z1y rp leaf i 8).2=false:=by
 have:i=0 \/i=1 \/i=2 \/i=3 \/i=4 \/i=5 \/i=6 \/i=7:=by omega
 intro path h
 match path,h with
 | [],_=>simp [z1y]
 | [a],_=>rcases this with rfl|rfl|rfl|rfl|rfl|rfl|rfl|rfl<;>simp [z1y,spl8]
 | [a,b],_=>rcases this with rfl|rfl|rfl|rfl|rfl|rfl|rfl|rfl<;>simp [z1y,spl8,spl4]
 |a::b::c::d::r,_=>rcases this with rfl|rfl|rfl|rfl|rfl|rfl|rfl|rfl<;>simp [z1y,spl8,spl4,spl2]
theorem chk8(leaf:Hash)(i:Int)(path:List Hash)(root:Hash):chkP leaf i 8 path root=chkR leaf i 8 path root:=by
 unfold chkP chkR
 by_cases h:(8:Int)<1 \/(4096:Int)<8 \/i<0 \/8<=i
 ·rw [if_pos h,if_pos h]
 ·rw [if_neg h,if_neg h]
  obtain⟨i,rfl⟩:∃k:Nat,i=k:=⟨i.toNat,by omega⟩
  have hi:i<8:=by omega
  rw [Int.toNat_natCast,show (8:Int).toNat-1=7 from rfl,show (8:Int).toNat=8 from rfl]
  by_cases h3:path.length=3
  ·match path,h3 with
   | [a,b,c],_=>
    have:i=0 \/i=1 \/i=2 \/i=3 \/i=4 \/i=5 \/i=6 \/i=7:=by omega
    rcases this with rfl|rfl|rfl|rfl|rfl|rfl|rfl|rfl<;>simp [z18,z2d,z1o,z1y,spl8,spl4,spl2]
  ·rw [zm0 hi leaf root path h3,zm6 hi leaf path.reverse (by rw [List.length_reverse];exact h3),if_pos (.inl rfl)]
attribute [local irreducible] ACallsTo ACallsP
theorem zqj(J:Store)(leaf:Hash)(i n:Int)(path:List Hash)(x:AV)(root:Hash)(hx:SlV 32 (hr path) x)(hl:path.length<1000000)(hi: -9223372036854775808<=i/\ i<=9223372036854775807)(hn: -9223372036854775808<=n/\ n<=9223372036854775807):
  ACallsTo TC 52 [.agg (hc leaf),.int .i64 i,.int .i64 n,x,.agg (hc root)] J (.int .i64 (chkR leaf i n path root)) J:=by
 have r1:=hx.len
 rw [z7]at r1
 unfold z1h at r1
 unfold chkR
 by_cases hb:n<1 \/4096<n \/i<0 \/n<=i
 ·rw [if_pos hb]
  refine ACallsTo.of_body q15ok (by simp) fun hw _=> ?_
  repeat' (first|apply zs_|apply zb_|apply zc_|apply zt_ rfl|apply zf_ rfl|(refine zd_ rfl ?_ ?_<;>intro ht<;>try omega)|((first|apply zr_|apply zk_|apply ze_|apply zq_|(apply zG<;>intro ht));all_goals try simp (disch:=first|omega|(simp only [lens,z6,z7,lQr,lQd];first|done|omega)) only [go_sem,r1]))
  all_goals exact DownV.pure hw (zz _ rfl)
 ·rw [if_neg hb]
  obtain⟨i,rfl⟩:∃k:Nat,i=k:=⟨i.toNat,by omega⟩
  obtain⟨n,rfl⟩:∃l:Nat,n=(l:Int):=⟨n.toNat,by omega⟩
  rw [Int.toNat_natCast,Int.toNat_natCast]
  have hC:=fun J=>come_v path.length J leaf i n path x (Nat.le_refl _) hx hl (by omega) (by omega) (by omega)
  generalize z1y path.reverse leaf i n=r at*
  obtain⟨h,b⟩:=r
  refine ACallsTo.of_body q15ok (by simp) fun hw _=> ?_
  cases b with
  |false=>
   rw [if_pos (.inl rfl)]
   repeat' (first|apply zs_|apply zb_|apply zc_|apply zt_ rfl|apply zf_ rfl|(refine zd_ rfl ?_ ?_<;>intro ht<;>try omega)|((first|apply zr_|apply zk_|apply ze_|apply zq_|(apply callW.mk_pu;(first|exact(fun _=>hC _)))|(apply callW.za;(first|exact(hC _)))|(apply zG<;>intro ht));all_goals try simp (disch:=first|omega|(simp only [lens,z6,z7,lQr,lQd];first|done|omega)) only [go_sem,r1]))
   exact DownV.pure hw (zz _ rfl)
  |true=>
   by_cases hr:h=root
   ·subst hr
    rw [if_neg (by simp)]
    repeat' (first|apply zs_|apply zb_|apply zc_|apply zt_ rfl|apply zf_ rfl|(refine zd_ rfl ?_ ?_<;>intro ht<;>try omega)|((first|apply zr_|apply zk_|apply ze_|apply zq_|(apply callW.mk_pu;(first|exact(fun _=>hC _)))|(apply callW.za;(first|exact(hC _)))|(apply zG<;>intro ht));all_goals try simp (disch:=first|omega|(simp only [lens,z6,z7,lQr,lQd];first|done|omega)) only [go_sem,r1]))
    exact DownV.pure hw (zz _ rfl)
   ·rw [if_pos (.inr hr)]
    repeat' (first|apply zs_|apply zb_|apply zc_|apply zt_ rfl|apply zf_ rfl|(refine zd_ rfl ?_ ?_<;>intro ht<;>try omega)|((first|apply zr_|apply zk_|apply ze_|apply zq_|(apply callW.mk_pu;(first|exact(fun _=>hC _)))|(apply callW.za;(first|exact(hC _)))|(apply zG<;>intro ht));all_goals try simp (disch:=first|omega|(simp only [lens,z6,z7,lQr,lQd];first|done|omega)) only [go_sem,r1,hr]))
    exact DownV.pure hw (zz _ rfl)
end
section
def verI(root dg:Hash)(i:Int)(sig:List UInt8)(path:List Hash):Int:=
 if i<0 \/8<=i then 2 else if sig.length=16384 then(if chkP (z2o (recF sig dg.1 256)) i 8 path root=0 then 0 else 81)else 81
theorem RdSl.cells{J:Store}{sz:Nat}{es:List (List AV)}{x:AV}(h:RdSl J sz es x):cellsOf x=some [x]:=by
 rcases h with h| ⟨r,off,lim,o,rfl,_⟩
 ·exact zrw h
 ·rfl
attribute [local irreducible] ACallsTo ACallsP
theorem zbv(J:Store)(leaf:Hash)(i n:Int)(path:List Hash)(x:AV)(root:Hash)(hx:RdSl J 32 (hr path) x)(hl:path.length<1000000)(hi: -9223372036854775808<=i/\ i<=9223372036854775807)(hn: -9223372036854775808<=n/\ n<=9223372036854775807):
  ACallsTo TC 51 [.agg (hc leaf),.int .i64 i,.int .i64 n,x,.agg (hc root)] J (.int .i64 (chkP leaf i n path root)) J:=by
 obtain⟨x0,h0,hd⟩:=hx.lend (z1w path)
 have hi':∀i:Int,RL 0 (.int .i64 i):=fun i=>by simp [RL]
 have:=ACallsTo.lend glok (zjy [] leaf i n path x0 root h0 hl hi hn) (drsc (rl0 (z39 leaf) J) (drsc (rl0 (hi' i) J) (drsc (rl0 (hi' n) J) (drsc hd (drs1 (rl0 (z39 root) J))))))
 rwa [show sh J.length (.int .i64 (chkP leaf i n path root))= .int .i64 (chkP leaf i n path root)from rfl,z6k,List.append_nil]at this
theorem zig(J:Store)(leaf:Hash)(i n:Int)(path:List Hash)(x:AV)(root:Hash)(hx:RdSl J 32 (hr path) x)(hl:path.length<1000000)(hi: -9223372036854775808<=i/\ i<=9223372036854775807)(hn: -9223372036854775808<=n/\ n<=9223372036854775807):
  ACallsTo TC 52 [.agg (hc leaf),.int .i64 i,.int .i64 n,x,.agg (hc root)] J (.int .i64 (chkR leaf i n path root)) J:=by
 obtain⟨x0,h0,hd⟩:=hx.lend (z1w path)
 have hi':∀i:Int,RL 0 (.int .i64 i):=fun i=>by simp [RL]
 have:=ACallsTo.lend glok (zqj [] leaf i n path x0 root h0 hl hi hn) (drsc (rl0 (z39 leaf) J) (drsc (rl0 (hi' i) J) (drsc (rl0 (hi' n) J) (drsc hd (drs1 (rl0 (z39 root) J))))))
 rwa [show sh J.length (.int .i64 (chkR leaf i n path root))= .int .i64 (chkR leaf i n path root)from rfl,z6k,List.append_nil]at this
theorem zko(J:Store)(root dg:Hash)(i:Int)(sig:List UInt8)(path:List Hash)(x:AV)(hx:RdSl J 32 (hr path) x)(hl:path.length<1000000)(hs:sig.length<1000000)(hi: -9223372036854775808<=i/\ i<=9223372036854775807):
  ACallsTo TC 91 [.agg (hc root),.agg (hc dg),.agg [.int .i64 i,.str sig,x]] J (.int .i64 (verI root dg i sig path)) J:=by
 have xc:=hx.cells
 unfold cellsOf at xc
 have hR:=fun J=>zkh J sig dg hs
 have hC:=fun y=>zbv (J++y) (z2o (recF sig dg.1 256)) i 8 path x root hx.app hl hi (by omega)
 unfold verI
 unfold recV at hR
 refine ACallsTo.of_body q1lok (by simp) fun hw _=> ?_
 by_cases hb:i<0 \/8<=i
 ·rw [if_pos hb]
  repeat' (first|apply zs_|apply zb_|apply zc_|apply zt_ rfl|apply zf_ rfl|(refine zd_ rfl ?_ ?_<;>intro ht<;>try omega)|((first|apply zr_|apply zk_|apply ze_|apply zq_|(apply zG<;>intro ht));all_goals try simp (disch:=first|omega|(simp only [lens,z6,z7,lQr];first|done|omega)) only [go_sem,xc]))
  all_goals exact DownV.pure hw (zz _ rfl)
 ·rw [if_neg hb]
  by_cases h16:sig.length=16384
  ·rw [if_pos h16]
   rw [if_pos h16]at hR
   generalize z2o (recF sig dg.1 256)=L at*
   generalize chkP L i 8 path root=c at*
   by_cases h0:c=0
   ·subst h0
    rw [if_pos rfl]
    repeat' (first|apply zs_|apply zb_|apply zc_|apply zt_ rfl|apply zf_ rfl|(refine zd_ rfl ?_ ?_<;>intro ht<;>try omega)|((first|apply zr_|apply zk_|apply ze_|apply zq_|(apply callW.mk_pu;(first|exact(fun _=>hR _)|exact(fun _=>hC _)))|(apply callW.za;(first|exact(hR _)|exact(hC _)))|(apply zG<;>intro ht));all_goals try simp (disch:=first|omega|(simp only [lens,z6,z7,lQr];first|done|omega)) only [go_sem,xc]))
    all_goals exact DownV.pure hw (zz _ rfl)
   ·rw [if_neg h0]
    repeat' (first|apply zs_|apply zb_|apply zc_|apply zt_ rfl|apply zf_ rfl|(refine zd_ rfl ?_ ?_<;>intro ht<;>try omega)|((first|apply zr_|apply zk_|apply ze_|apply zq_|(apply callW.mk_pu;(first|exact(fun _=>hR _)|exact(fun _=>hC _)))|(apply callW.za;(first|exact(hR _)|exact(hC _)))|(apply zG<;>intro ht));all_goals try simp (disch:=first|omega|(simp only [lens,z6,z7,lQr];first|done|omega)) only [go_sem,xc,h0]))
    all_goals exact DownV.pure hw (zz _ rfl)
  ·rw [if_neg h16]
   rw [if_neg h16]at hR
   repeat' (first|apply zs_|apply zb_|apply zc_|apply zt_ rfl|apply zf_ rfl|(refine zd_ rfl ?_ ?_<;>intro ht<;>try omega)|((first|apply zr_|apply zk_|apply ze_|apply zq_|(apply callW.mk_pu;(first|exact(fun _=>hR _)))|(apply callW.za;(first|exact(hR _)))|(apply zG<;>intro ht));all_goals try simp (disch:=first|omega|(simp only [lens,z6,z7,lQr];first|done|omega)) only [go_sem,xc]))
   all_goals exact DownV.pure hw (zz _ rfl)
theorem zqs(J:Store)(root dg:Hash)(i:Int)(sig:List UInt8)(path:List Hash)(x:AV)(hx:RdSl J 32 (hr path) x)(hl:path.length<1000000)(hs:sig.length<1000000)(hi: -9223372036854775808<=i/\ i<=9223372036854775807):
  ACallsTo TC 97 [.agg (hc root),.agg (hc dg),.agg [.int .i64 i,.str sig,x]] J (.int .i64 (verI root dg i sig path)) J:=by
 have xc:=hx.cells
 unfold cellsOf at xc
 have hR:=fun J=>zqq J sig dg hs
 have hC:=fun y=>zig (J++y) (z2o (recF sig dg.1 256)) i 8 path x root hx.app hl hi (by omega)
 unfold verI
 unfold recV at hR
 rw [<-chk8]at hC
 refine ACallsTo.of_body q1mok (by simp) fun hw _=> ?_
 by_cases hb:i<0 \/8<=i
 ·rw [if_pos hb]
  repeat' (first|apply zs_|apply zb_|apply zc_|apply zt_ rfl|apply zf_ rfl|(refine zd_ rfl ?_ ?_<;>intro ht<;>try omega)|((first|apply zr_|apply zk_|apply ze_|apply zq_|(apply zG<;>intro ht));all_goals try simp (disch:=first|omega|(simp only [lens,z6,z7,lQr];first|done|omega)) only [go_sem,xc]))
  all_goals exact DownV.pure hw (zz _ rfl)
 ·rw [if_neg hb]
  by_cases h16:sig.length=16384
  ·rw [if_pos h16]
   rw [if_pos h16]at hR
   generalize z2o (recF sig dg.1 256)=L at*
   generalize chkP L i 8 path root=c at*
   by_cases h0:c=0
   ·subst h0
    rw [if_pos rfl]
    repeat' (first|apply zs_|apply zb_|apply zc_|apply zt_ rfl|apply zf_ rfl|(refine zd_ rfl ?_ ?_<;>intro ht<;>try omega)|((first|apply zr_|apply zk_|apply ze_|apply zq_|(apply callW.mk_pu;(first|exact(fun _=>hR _)|exact(fun _=>hC _)))|(apply callW.za;(first|exact(hR _)|exact(hC _)))|(apply zG<;>intro ht));all_goals try simp (disch:=first|omega|(simp only [lens,z6,z7,lQr];first|done|omega)) only [go_sem,xc]))
    all_goals exact DownV.pure hw (zz _ rfl)
   ·rw [if_neg h0]
    repeat' (first|apply zs_|apply zb_|apply zc_|apply zt_ rfl|apply zf_ rfl|(refine zd_ rfl ?_ ?_<;>intro ht<;>try omega)|((first|apply zr_|apply zk_|apply ze_|apply zq_|(apply callW.mk_pu;(first|exact(fun _=>hR _)|exact(fun _=>hC _)))|(apply callW.za;(first|exact(hR _)|exact(hC _)))|(apply zG<;>intro ht));all_goals try simp (disch:=first|omega|(simp only [lens,z6,z7,lQr];first|done|omega)) only [go_sem,xc,h0]))
    all_goals exact DownV.pure hw (zz _ rfl)
  ·rw [if_neg h16]
   rw [if_neg h16]at hR
   repeat' (first|apply zs_|apply zb_|apply zc_|apply zt_ rfl|apply zf_ rfl|(refine zd_ rfl ?_ ?_<;>intro ht<;>try omega)|((first|apply zr_|apply zk_|apply ze_|apply zq_|(apply callW.mk_pu;(first|exact(fun _=>hR _)))|(apply callW.za;(first|exact(hR _)))|(apply zG<;>intro ht));all_goals try simp (disch:=first|omega|(simp only [lens,z6,z7,lQr];first|done|omega)) only [go_sem,xc]))
   all_goals exact DownV.pure hw (zz _ rfl)
end
section
def secM(seed:List UInt8)(idx k:Int):List UInt8:=2::(z81 seed++(putS idx 4++putS k 2))
def secH(seed:List UInt8)(idx k:Int):Hash:=shaH (secM seed idx k)
def shwH(seed:List UInt8)(idx k:Int):Hash:=z5x (secH seed idx k).1
def pubH(seed:List UInt8)(idx:Int):List Hash:=(List.range 512).map fun k:Nat=>shwH seed idx k
theorem zax(x n:Int):(putS x n).length<=8:=by
 unfold putS
 split
 ·rw [z3j];omega
 ·simp
theorem zjb(s:List UInt8):(z81 s).length<=s.length+11:=by
 unfold z81
 have:=zhp s.length
 rw [List.length_append];omega
theorem zrd(seed:List UInt8)(idx k:Int):(secM seed idx k).length<=seed.length+40:=by
 unfold secM
 have:=zjb seed
 have:=zax idx 4
 have:=zax k 2
 simp only [List.length_cons,List.length_append];omega
attribute [local irreducible] ACallsTo ACallsP
theorem zf5(J:Store)(seed:List UInt8)(idx i b:Int)(hs:seed.length<1000000)(hx:0<=idx/\ idx<2147483648)(hi:0<=i/\ i<256)(hb:0<=b/\ b<=1):ACallsTo TC 126 [.str seed,.int .i64 idx,.int .i64 i,.int .i64 b] J (.agg (hc (secH seed idx (2*i+b)))) J:=by
 have hT:=fun J=>zm4 J seed (by omega)
 have hP1:=fun J=>z6t J idx 4 (by omega) (by omega)
 have hP2:=fun J=>z6t J (2*i+b) 2 (by omega) (by omega)
 have hS:=fun J=>z9j J (secM seed idx (2*i+b)) (by have:=zrd seed idx (2*i+b);omega)
 have l1:=zjb seed
 have l2:=zax idx 4
 have l3:=zax (2*i+b) 2
 unfold secH
 unfold secM at*
 generalize z81 seed=T at*
 generalize putS idx 4=A at*
 generalize putS (2*i+b) 2=B at*
 refine ACallsTo.of_body q1hok (by simp) fun hw _=> ?_
 repeat' (first|apply zs_|apply zb_|apply zc_|apply zt_ rfl|apply zf_ rfl|(refine zd_ rfl ?_ ?_<;>intro ht<;>try omega)|((first|apply zr_|apply zk_|apply ze_|apply zq_|(apply callW.mk_pu;(first|exact(fun _=>hT _)|exact(fun _=>hP1 _)|exact(fun _=>hP2 _)|exact(fun _=>hS _)))|(apply callW.za;(first|exact(hT _)|exact(hP1 _)|exact(hP2 _)|exact(hS _)))|(apply zG<;>intro ht));all_goals try simp (disch:=first|omega|(simp only [lens,z6,z7,lQr,lQm];first|done|omega)) only [go_sem]))
 exact DownV.pure hw (z39 _)
end
section
theorem z3w(seed:List UInt8)(idx:Int):(pubH seed idx).length=512:=by simp [pubH]
theorem zia(seed:List UInt8)(idx:Int)(k:Nat)(h:k<512):hd (pubH seed idx) k=shwH seed idx k:=by
 rw [z90 (by rw [z3w];exact h)]
 simp [pubH]
theorem zq7(seed:List UInt8)(idx:Int)(k:Nat)(h:k<512):(pubH seed idx).take (k+1)=(pubH seed idx).take k++ [shwH seed idx k]:=by
 rw [z7b (by rw [z3w];exact h),zia _ _ _ h]
def pubZ(seed:List UInt8)(idx:Int)(k:Nat):List Hash:=(pubH seed idx).take k++List.replicate (512-k) zeroH
theorem zq9(seed:List UInt8)(idx:Int)(k:Nat)(h:k<=512):(pubZ seed idx k).length=512:=by
 unfold pubZ
 rw [List.length_append,List.length_take,z3w,List.length_replicate];omega
theorem zqa(seed:List UInt8)(idx:Int)(k:Nat)(h:k<512):(pubZ seed idx k).set k (shwH seed idx k)=pubZ seed idx (k+1):=by
 unfold pubZ
 have e:512-k=(512-(k+1))+1:=by omega
 have l:((pubH seed idx).take k).length=k:=by rw [List.length_take,z3w];omega
 rw [e,List.replicate_succ,List.set_append_right _ _ (by omega),l,Nat.sub_self,List.set_cons_zero,zq7 _ _ _ h,List.append_assoc]
 rfl
theorem zqb(seed:List UInt8)(idx:Int):pubZ seed idx 0=List.replicate 512 zeroH:=by unfold pubZ;rw [List.take_zero,Nat.sub_zero];exact List.nil_append _
theorem zq8(seed:List UInt8)(idx:Int):pubZ seed idx 512=pubH seed idx:=by
 unfold pubZ
 rw [List.take_of_length_le (by rw [z3w];omega)];simp
attribute [local irreducible] ACallsTo ACallsP pubH
theorem zf3(J:Store)(seed:List UInt8)(idx:Int)(hs:seed.length<1000000)(hx:0<=idx/\ idx<2147483648):ACallsTo TC 111 [.str seed,.int .i64 idx] J (z15 32 (hr (pubH seed idx))) J:=by
 refine ACallsTo.of_body q19ok (by simp) fun hw _=> ?_
 have hz:=zcs
 rw [zan]at hz
 repeat' (first|apply zs_|apply zb_|apply zc_|apply zt_ rfl|apply zf_ rfl|(refine zd_ rfl ?_ ?_<;>intro ht<;>try omega)|((first|apply zr_|apply zk_|apply ze_|apply zq_|(apply zG<;>intro ht));all_goals try simp (disch:=first|omega|(simp only [lens,z6,z7,lQr,lQm];first|done|omega)) only [go_sem,hz]))
 refine zW.loop (fun m ρ J'=>∃k:Nat,m+k=512/\ Ext J J'/\ J'[J.length]? =some (some (hr (pubZ seed idx k)))/\ ρ 0= .str seed/\ ρ 1= .int .i64 idx/\ ρ 5= .sl J.length 0 512 (some 512) 32/\ ρ 15= .int .i64 512/\ ρ 16= .int .i64 k) 512 ?_ ?_
 ·exact⟨0,by omega,(Ext.refl J).app,by rw [z1j (by omega),Nat.sub_self,zqb];rfl,by simp (disch:=first|omega|(simp only [lens,z6,z7,lQr,lQm];first|done|omega)) only [go_sem],by simp (disch:=first|omega|(simp only [lens,z6,z7,lQr,lQm];first|done|omega)) only [go_sem],by simp (disch:=first|omega|(simp only [lens,z6,z7,lQr,lQm];first|done|omega)) only [go_sem],by simp (disch:=first|omega|(simp only [lens,z6,z7,lQr,lQm];first|done|omega)) only [go_sem];rfl,by simp (disch:=first|omega|(simp only [lens,z6,z7,lQr,lQm];first|done|omega)) only [go_sem];rfl⟩
 ·rintro m ρ J' ⟨k,hm,he,c2,q0,q1,q5,q15,q16⟩
  have d2:=slen c2
  by_cases hk:k<512
  ·have hrl:=zq9 seed idx k (by omega)
   have hSe:=fun J=>zf5 J seed idx ((k/2:Nat):Int) ((k%2:Nat):Int) hs hx (by omega) (by omega)
   have hkk:2*((k/2:Nat):Int)+((k%2:Nat):Int)=k:=by omega
   rw [hkk]at hSe
   have hH:=fun J=>z6u J (secH seed idx k)
   have hSh:=fun J=>ziz J (secH seed idx k).1 (by have:=(secH seed idx k).2;omega)
   have hst:=zqa seed idx k hk
   rw [show z5x (secH seed idx k).1=shwH seed idx k from rfl]at hSh
   generalize pubZ seed idx k=L at*
   generalize shwH seed idx k=A at*
   generalize secH seed idx k=B at*
   have e1:(k:Int)/2=((k/2:Nat):Int):=by omega
   have e2:(k:Int)%2=((k%2:Nat):Int):=by omega
   have g1:=z6y (l:=L) (i:=k) (by omega)
   repeat' (first|apply zs_|apply zb_|apply zc_|apply zt_ rfl|apply zf_ rfl|(refine zd_ rfl ?_ ?_<;>intro ht<;>try omega)|((first|apply zr_|apply zk_|apply ze_|apply zq_|(apply callW.mk_pu;(first|exact(fun _=>hSe _)|exact(fun _=>hH _)|exact(fun _=>hSh _)))|(apply callW.za;(first|exact(hSe _)|exact(hH _)|exact(hSh _)))|(apply zG<;>intro ht));all_goals try simp (disch:=first|omega|(simp only [lens,z6,z7,lQr,lQm];first|done|omega)) only [go_sem,q0,q1,q5,q15,q16,c2,e1,e2,hrl,g1]))
   exact⟨m-1,by omega,k+1,by omega,he.set (by omega),by rw [<-hst],by simp⟩
  ·obtain rfl:k=512:=by omega
   rw [zq8]at c2
   obtain⟨news,rfl⟩:=he
   repeat' (first|apply zs_|apply zb_|apply zc_|apply zt_ rfl|apply zf_ rfl|(refine zd_ rfl ?_ ?_<;>intro ht<;>try omega)|((first|apply zr_|apply zk_|apply ze_|apply zq_|(apply zG<;>intro ht));all_goals try simp (disch:=first|omega|(simp only [lens,z6,z7,lQr,lQm];first|done|omega)) only [go_sem,q0,q1,q5,q15,q16]))
   refine DownV.all hw ?_
   have hne:hr (pubH seed idx) ≠ []:=fun e=>by have:=congrArg List.length e;rw [z7,z3w]at this;simp at this
   unfold z15
   rw [if_neg hne]
   have hf:=FrzD.sl (τ:=J) (news:=news) (r:=J.length) (off:=0) (lim:=some 512) (esz:=32) (o:=hr (pubH seed idx)) (es:=hr (pubH seed idx)) (by omega) c2 (by omega) (by simp) (z1w _)
   rw [show (hr (pubH seed idx)).length=512 by rw [z7,z3w]]at hf
   exact hf
end
section
def BldAt(J:Store)(r:Nat)(sid:Option Nat)(s:List UInt8):Prop:=
 (s=[]/\ sid=none/\ J[r]? =some (some [[.bld r,.bnil]])) \/(s ≠ []/\ ∃rb,sid=some rb/\ rb ≠ r/\ J[r]? =some (some [[.bld r,.bsl rb s.length]])/\ J[rb]? =some (some (zn s)))
structure BlFr(J J':Store)(r:Nat)(sid sid':Option Nat):Prop where
 st:∀j,j<J.length->j ≠ r->sid ≠ some j->J'[j]? =J[j]?
 new:∀q,sid'=some q->J.length<=q
 le:J.length<=J'.length
theorem BldAt.lt{J:Store}{r:Nat}{sid:Option Nat}{s:List UInt8}(h:BldAt J r sid s):r<J.length/\ ∀q,sid=some q->q<J.length/\ q ≠ r:=by
 rcases h with⟨_,rfl,h⟩| ⟨_,rb,rfl,hne,h,h2⟩
 ·exact⟨slen h,by simp⟩
 ·exact⟨slen h,fun q e=>by cases e;exact⟨slen h2,hne⟩⟩
theorem BldAt.keep{J J':Store}{r:Nat}{sid:Option Nat}{s:List UInt8}(h:BldAt J r sid s)(h0:J'[r]? =J[r]?)(hk:∀q,sid=some q->J'[q]? =J[q]?):BldAt J' r sid s:=by
 rcases h with⟨e,e2,h⟩| ⟨e,rb,e2,hne,h,h2⟩
 ·exact .inl ⟨e,e2,by rw [h0];exact h⟩
 ·exact .inr ⟨e,rb,e2,hne,by rw [h0];exact h,by rw [hk rb e2];exact h2⟩
theorem BldAt.write{J:Store}{r:Nat}{sid:Option Nat}{s t:List UInt8}(h:BldAt J r sid s)(h0:t ≠ [])(hl:s.length+t.length<=1073741824):
  ∃J2 sid',ACallsTo TC 104 [.ptr r 0 0,.str t] J (.tup [.int .i64 t.length,.any]) J2/\ BldAt J2 r sid' (s++t)/\ BlFr J J2 r sid sid':=by
 rcases h with⟨rfl,rfl,h⟩| ⟨e,rb,rfl,hne,h,h2⟩
 ·have hr:=slen h
  refine⟨_,some J.length,zf9 J r t h h0 (by simpa using hl),.inr ⟨by simpa using h0,J.length,rfl,by omega,?_,?_⟩,fun j hj hjr _=> ?_,by simp,by simp⟩
  ·rw [gapp (by simpa using hr),z2e hr];rfl
  ·rw [z1j (by simp)];simp
  ·rw [gapp (by simpa using hj),z1c (fun e=>hjr e.symm)]
 ·have hr:=slen h
  refine⟨_,some J.length,zfa J r rb s t h h2 hne h0 hl,.inr ⟨by simp [e],J.length,rfl,by omega,?_,?_⟩,fun j hj hjr hjq=> ?_,by simp,by simp⟩
  ·rw [gapp (by simpa using hr),z2e (by simpa using hr)];simp
  ·rw [z1j (by simp)];simp
  ·rw [gapp (by simpa using hj),z1c (fun e=>hjr e.symm),z1c (fun e=>hjq (by rw [e]))]
structure Bl2(τ J':Store)(ra rb:Nat)(s t:List UInt8):Prop where
 is:∃sa sb,BldAt J' ra sa s/\ BldAt J' rb sb t/\ (∀q,sa=some q->τ.length<=q/\ q ≠ rb/\ sb ≠ some q)/\ (∀q,sb=some q->τ.length<=q/\ q ≠ ra)
 la:τ.length<=ra
 lb:τ.length<=rb
 ne:ra ≠ rb
 le:τ.length<=J'.length
 st:∀q,q<τ.length->J'[q]? =τ[q]?
theorem Bl2.get{τ J':Store}{ra rb:Nat}{s t:List UInt8}(h:Bl2 τ J' ra rb s t){q:Nat}{o:Option AObj}(hq:τ[q]? =some o):J'[q]? =some o:=by
 rw [h.st q (slen hq)];exact hq
theorem Bl2.writeA{τ J':Store}{ra rb:Nat}{s t u:List UInt8}(h:Bl2 τ J' ra rb s t)(h0:u ≠ [])(hl:s.length+u.length<=1073741824):
  ∃J2,ACallsTo TC 104 [.ptr ra 0 0,.str u] J' (.tup [.int .i64 u.length,.any]) J2/\ Bl2 τ J2 ra rb (s++u) t:=by
 obtain⟨sa,sb,h1,h2,h3,h4⟩:=h.is
 obtain⟨J2,sa',hw,hB,fr⟩:=h1.write h0 hl
 have l2:=h2.lt
 refine⟨J2,hw,⟨sa',sb,hB,h2.keep (fr.st rb l2.1 (fun e=>h.ne e.symm) fun e=>(h3 rb e).2.1 rfl) (fun q hq=>fr.st q (l2.2 q hq).1 (h4 q hq).2 fun e=>(h3 q e).2.2 hq),fun q hq=> ?_,h4⟩,h.la,h.lb,h.ne,by have:=h.le;have:=fr.le;omega,fun q hq=> ?_⟩
 ·have:=fr.new q hq
  exact⟨by have:=h.le;omega,by omega,fun e=>by have:=(l2.2 q e).1;omega⟩
 ·rw [fr.st q (by have:=h.le;omega) (fun e=>by have:=h.la;omega) (fun e=>by have:=(h3 q e).1;omega)]
  exact h.st q hq
theorem Bl2.writeB{τ J':Store}{ra rb:Nat}{s t u:List UInt8}(h:Bl2 τ J' ra rb s t)(h0:u ≠ [])(hl:t.length+u.length<=1073741824):
  ∃J2,ACallsTo TC 104 [.ptr rb 0 0,.str u] J' (.tup [.int .i64 u.length,.any]) J2/\ Bl2 τ J2 ra rb s (t++u):=by
 obtain⟨sa,sb,h1,h2,h3,h4⟩:=h.is
 obtain⟨J2,sb',hw,hB,fr⟩:=h2.write h0 hl
 have l1:=h1.lt
 have hn:∀q,sb'=some q->τ.length<=q/\ q ≠ ra/\ sa ≠ some q:=fun q hq=>by
  have:=fr.new q hq
  exact⟨by have:=h.le;omega,by omega,fun e=>by have:=(l1.2 q e).1;omega⟩
 refine⟨J2,hw,⟨sa,sb',h1.keep (fr.st ra l1.1 h.ne fun e=>(h4 ra e).2 rfl) (fun q hq=>fr.st q (l1.2 q hq).1 (h3 q hq).2.1 (h3 q hq).2.2),hB,fun q hq=>⟨(h3 q hq).1,(h3 q hq).2.1,fun e=>(hn q e).2.2 hq⟩,fun q hq=>⟨(hn q hq).1,(hn q hq).2.1⟩⟩,h.la,h.lb,h.ne,by have:=h.le;have:=fr.le;omega,fun q hq=> ?_⟩
 rw [fr.st q (by have:=h.le;omega) (fun e=>by have:=h.lb;omega) (fun e=>by have:=(h4 q e).1;omega)]
 exact h.st q hq
theorem Bl2.strings{τ J':Store}{ra rb:Nat}{s t:List UInt8}(h:Bl2 τ J' ra rb s t)(hs:s ≠ [])(ht:t ≠ [])(hl:s.length<=1073741824)(hl2:t.length<=1073741824):
  ∃J2 J3,ACallsTo TC 105 [.ptr ra 0 0] J' (.str s) J2/\ ACallsTo TC 105 [.ptr rb 0 0] J2 (.str t) J3/\ τ.length<=J3.length/\ ∀q,q<τ.length->J3[q]? =τ[q]?:=by
 obtain⟨sa,sb,h1,h2,h3,h4⟩:=h.is
 rcases h1 with⟨e,_⟩| ⟨_,qa,rfl,na,a1,a2⟩
 ·exact absurd e hs
 rcases h2 with⟨e,_⟩| ⟨_,qb,rfl,nb,b1,b2⟩
 ·exact absurd e ht
 obtain⟨x1,x2,x3⟩:=h3 qa rfl
 obtain⟨y1,y2⟩:=h4 qb rfl
 have hab:qa ≠ qb:=fun e=>x3 (by rw [e])
 refine⟨_,_,zc4 J' ra qa s hs hl a1 a2,zc4 _ rb qb t ht hl2 (by rw [z1c x2];exact b1) (by rw [z1c hab];exact b2),by simp;exact h.le,fun q hq=> ?_⟩
 rw [z1c (by omega),z1c (by omega)]
 exact h.st q hq
def sgA(seed:List UInt8)(idx:Int)(d:List UInt8):Nat->List UInt8
 | 0=>[]
 |n+1=>sgA seed idx d n++(secH seed idx (2*(n:Int)+bitS d n)).1
def sgB(seed:List UInt8)(idx:Int)(d:List UInt8):Nat->List UInt8
 | 0=>[]
 |n+1=>sgB seed idx d n++(shwH seed idx ((2*n+1-bitS d n:Nat):Int)).1
def ksgS(seed:List UInt8)(idx:Int)(d:List UInt8):List UInt8:=sgA seed idx d 256++sgB seed idx d 256
theorem z6j(seed:List UInt8)(idx:Int)(d:List UInt8):∀n,(sgA seed idx d n).length=32*n
 | 0=>rfl
 |n+1=>by rw [sgA,List.length_append,z6j seed idx d n,(secH seed idx _).2];omega
theorem z7y(seed:List UInt8)(idx:Int)(d:List UInt8):∀n,(sgB seed idx d n).length=32*n
 | 0=>rfl
 |n+1=>by rw [sgB,List.length_append,z7y seed idx d n,(shwH seed idx _).2];omega
theorem zcw(seed:List UInt8)(idx:Int)(d:List UInt8):(ksgS seed idx d).length=16384:=by
 unfold ksgS
 rw [List.length_append,z6j,z7y]
attribute [local irreducible] ACallsTo ACallsP pubH
theorem zkm(J:Store)(seed:List UInt8)(idx:Int)(dg:Hash)(hs:seed.length<1000000)(hx:0<=idx/\ idx<2147483648):ACallsTo TC 115 [.str seed,.int .i64 idx,.agg (hc dg)] J (.str (ksgS seed idx dg.1)) J:=by
 refine ACallsTo.of_body q1bok (by simp) fun hw _=> ?_
 have hP:=fun J=>zf3 J seed idx hs hx
 have hne:hr (pubH seed idx) ≠ []:=fun e=>by have:=congrArg List.length e;rw [z7,z3w]at this;simp at this
 have hpv:z15 32 (hr (pubH seed idx))= .vsl 32 (hr (pubH seed idx)) false:=by unfold z15;rw [if_neg hne]
 rw [hpv]at hP
 have hC:=fun J=>z6u J dg
 repeat' (first|apply zs_|apply zb_|apply zc_|apply zt_ rfl|apply zf_ rfl|(refine zd_ rfl ?_ ?_<;>intro ht<;>try omega)|((first|apply zr_|apply zk_|apply ze_|apply zq_|(apply callW.mk_pu;(first|exact(fun _=>hP _)|exact(fun _=>hC _)))|(apply callW.za;(first|exact(hP _)|exact(hC _)))|(apply zG<;>intro ht));all_goals try simp (disch:=first|omega|(simp only [lens,z6,z7,lQr,lQm];first|done|omega)) only [go_sem]))
 refine zW.loop (fun m ρ J'=>∃i:Nat,m+i=256/\ Bl2 (J++ [some [hc dg]]) J' (J.length+1) (J.length+2) (sgA seed idx dg.1 i) (sgB seed idx dg.1 i)/\ ρ 0= .str seed/\ ρ 1= .int .i64 idx/\ ρ 7= .vsl 32 (hr (pubH seed idx)) false/\ ρ 8= .str dg.1/\ ρ 9= .ptr (J.length+1) 0 0/\ ρ 10= .ptr (J.length+2) 0 0/\ ρ 20= .int .i64 i) 256 ?_ ?_
 ·refine⟨0,by omega,?_,by simp (disch:=first|omega|(simp only [lens,z6,z7,lQr,lQm];first|done|omega)) only [go_sem],by simp (disch:=first|omega|(simp only [lens,z6,z7,lQr,lQm];first|done|omega)) only [go_sem],by simp (disch:=first|omega|(simp only [lens,z6,z7,lQr,lQm];first|done|omega)) only [go_sem],by simp (disch:=first|omega|(simp only [lens,z6,z7,lQr,lQm];first|done|omega)) only [go_sem],by simp (disch:=first|omega|(simp only [lens,z6,z7,lQr,lQm];first|done|omega)) only [go_sem],by simp (disch:=first|omega|(simp only [lens,z6,z7,lQr,lQm];first|done|omega)) only [go_sem],by simp (disch:=first|omega|(simp only [lens,z6,z7,lQr,lQm];first|done|omega)) only [go_sem];rfl⟩
  refine⟨⟨none,none,.inl ⟨rfl,rfl,?_⟩,.inl ⟨rfl,rfl,?_⟩,by simp,by simp⟩,by simp,by simp,by omega,by simp,fun q hq=> ?_⟩
  ·rw [z1j (by omega),Nat.add_sub_cancel_left];rfl
  ·rw [z1j (by omega),Nat.add_sub_cancel_left];rfl
  ·rw [show J++ [some [hc dg],some [[AV.bld (J.length+1),AV.bnil]],some [[AV.bld (J.length+2),AV.bnil]]]=(J++ [some [hc dg]])++ [some [[AV.bld (J.length+1),AV.bnil]],some [[AV.bld (J.length+2),AV.bnil]]]by simp]
   exact gapp hq
 ·rintro m ρ J' ⟨i,hm,hB,q0,q1,q7,q8,q9,q10,q20⟩
  have lA:=z6j seed idx dg.1 i
  have lB:=z7y seed idx dg.1 i
  by_cases hi:i<256
  ·have hi':(i:Int)<256:=by omega
   have hBt:=fun J=>zfp J dg.1 i (by have:=dg.2;omega) (by omega)
   have hb1:=z8j dg.1 i
   have hSe:=fun J=>zf5 J seed idx i (bitS dg.1 i) hs hx (by omega) (by omega)
   have hH1:=fun J=>z6u J (secH seed idx (2*(i:Int)+bitS dg.1 i))
   have hpa:=zia seed idx (2*i+1-bitS dg.1 i) (by omega)
   have hH2:=fun J=>z6u J (shwH seed idx ((2*i+1-bitS dg.1 i:Nat):Int))
   have hg:=z6y (l:=pubH seed idx) (i:=2*i+1-bitS dg.1 i) (by rw [z3w];omega)
   rw [hpa]at hg
   have hplen:=z3w seed idx
   have eA:sgA seed idx dg.1 (i+1)=sgA seed idx dg.1 i++(secH seed idx (2*(i:Int)+bitS dg.1 i)).1:=rfl
   have eB:sgB seed idx dg.1 (i+1)=sgB seed idx dg.1 i++(shwH seed idx ((2*i+1-bitS dg.1 i:Nat):Int)).1:=rfl
   generalize shwH seed idx ((2*i+1-bitS dg.1 i:Nat):Int)=A at*
   generalize secH seed idx (2*(i:Int)+bitS dg.1 i)=B at*
   generalize pubH seed idx=PB at*
   generalize bitS dg.1 i=b at*
   obtain⟨J2,w2,B2⟩:=hB.writeA (zco B) (by rw [lA,B.2];omega)
   obtain⟨J3,w3,B3⟩:=B2.writeB (zco A) (by rw [lB,A.2];omega)
   rw [<-eA]at B3
   rw [<-eB]at B3
   have n5:(2*(i:Int)+1-b).toNat=2*i+1-b:=by omega
   repeat' (first|apply zs_|apply zb_|apply zc_|apply zt_ rfl|apply zf_ rfl|(refine zd_ rfl ?_ ?_<;>intro ht<;>try omega)|((first|apply zr_|apply zk_|apply ze_|apply zq_|(apply callW.mk_pu;(first|exact(fun _=>hBt _)|exact(fun _=>hSe _)|exact(fun _=>hH1 _)|exact(fun _=>hH2 _)|exact(fun _=>w2)|exact(fun _=>w3)))|(apply callW.za;(first|exact(hBt _)|exact(hSe _)|exact(hH1 _)|exact(hH2 _)|exact(w2)|exact(w3)))|(apply zG<;>intro ht));all_goals try simp (disch:=first|omega|(simp only [lens,z6,z7,lQr,lQm];first|done|omega)) only [go_sem,q0,q1,q7,q8,q9,q10,q20,hi',n5,hplen,hg]))
   exact⟨m-1,by omega,i+1,by omega,B3,by simp⟩
  ·obtain rfl:i=256:=by omega
   have hi':¬((256:Nat):Int)<256:=by omega
   obtain⟨J2,J3,w2,w3,hle,hst⟩:=hB.strings (fun e=>by rw [e]at lA;simp at lA) (fun e=>by rw [e]at lB;simp at lB) (by omega) (by omega)
   unfold ksgS
   generalize sgA seed idx dg.1 256=TA at*
   generalize sgB seed idx dg.1 256=TB at*
   repeat' (first|apply zs_|apply zb_|apply zc_|apply zt_ rfl|apply zf_ rfl|(refine zd_ rfl ?_ ?_<;>intro ht<;>try omega)|((first|apply zr_|apply zk_|apply ze_|apply zq_|(apply callW.mk_pu;(first|exact(fun _=>w2)|exact(fun _=>w3)))|(apply callW.za;(first|exact(w2)|exact(w3)))|(apply zG<;>intro ht));all_goals try simp (disch:=first|omega|(simp only [lens,z6,z7,lQr,lQm];first|done|omega)) only [go_sem,q0,q1,q7,q8,q9,q10,q20,hi']))
   obtain⟨news,rfl⟩:=zcj (J:=J) (J':=J3) (by have:=hle;simp at this;omega) fun q hq=>by rw [hst q (by simp;omega)];exact gapp hq
   exact DownV.pure hw (by simp [RL])
end
section
set_option maxRecDepth 4000
open Pk (P Q M one pkN)
section
variable (c:UInt8) (i k:Nat)
end
section
variable (seed:List UInt8) (kk:Nat->Nat)
end
section
variable (c:UInt8) (kk:Nat->Nat)
end
end
section
def z2a:Nat->List Hash->Nat->List Hash
 | 0,_,_=>[]
 |f+1,l,i=>if l.length<=1 then []else if i<zu l.length then z1b (l.drop (zu l.length))::z2a f (l.take (zu l.length)) i else z1b (l.take (zu l.length))::z2a f (l.drop (zu l.length)) (i-zu l.length)
def z1r(l:List Hash)(i:Nat):List Hash:=(z2a 3 l i).reverse
attribute [local irreducible] ACallsTo ACallsP
theorem zkj(J:Store)(r:Nat)(a b c:Hash)(hg:J[r]? =some (some (hr [a,b,c]))):ACallsTo TC 85 [.sl r 0 3 none 32] J (.tup []) (J.set r (some (hr [c,b,a]))):=by
 have d:=slen hg
 have hl:(hr [a,b,c]).length=3:=rfl
 have e0:(hr [a,b,c])[0]? =some (hc a):=rfl
 have e2:(hr [a,b,c])[2]? =some (hc c):=rfl
 have s1:((hr [a,b,c]).set 0 (hc c)).set 2 (hc a)=hr [c,b,a]:=rfl
 refine ACallsTo.of_body_keep q16ok (by simp) ?_
 repeat' (first|apply zs_|apply zb_|apply zc_|apply zt_ rfl|apply zf_ rfl|(refine zd_ rfl ?_ ?_<;>intro ht<;>try omega)|((first|apply zr_|apply zk_|apply ze_|apply zq_|(apply zG<;>intro ht));all_goals try simp (disch:=first|omega|(simp only [lens,z6,z7,lQr,lQm,lQt,lQd];first|done|omega)) only [go_sem]))
 refine zW.loop (fun m ρ J'=>(m=1/\ J'=J/\ ρ 0= .sl r 0 3 none 32/\ ρ 2= .int .i64 0/\ ρ 3= .int .i64 2) \/(m=0/\ J'=J.set r (some (hr [c,b,a]))/\ ρ 2= .int .i64 1/\ ρ 3= .int .i64 1)) 1 ?_ ?_
 ·exact .inl ⟨rfl,rfl,by simp (disch:=first|omega|(simp only [lens,z6,z7,lQr,lQm,lQt,lQd];first|done|omega)) only [go_sem],by simp (disch:=first|omega|(simp only [lens,z6,z7,lQr,lQm,lQt,lQd];first|done|omega)) only [go_sem],by simp (disch:=first|omega|(simp only [lens,z6,z7,lQr,lQm,lQt,lQd];first|done|omega)) only [go_sem];rfl⟩
 ·rintro m ρ J' (⟨rfl,rfl,q0,q2,q3⟩| ⟨rfl,rfl,q2,q3⟩)
  ·generalize hr [a,b,c]=L at*
   repeat' (first|apply zs_|apply zb_|apply zc_|apply zt_ rfl|apply zf_ rfl|(refine zd_ rfl ?_ ?_<;>intro ht<;>try omega)|((first|apply zr_|apply zk_|apply ze_|apply zq_|(apply zG<;>intro ht));all_goals try simp (disch:=first|omega|(simp only [lens,z6,z7,lQr,lQm,lQt,lQd];first|done|omega)) only [go_sem,q0,q2,q3,hg,hl,e0,e2,s1]))
   exact⟨0,by omega,.inr ⟨rfl,rfl,rfl⟩⟩
  ·repeat' (first|apply zs_|apply zb_|apply zc_|apply zt_ rfl|apply zf_ rfl|(refine zd_ rfl ?_ ?_<;>intro ht<;>try omega)|((first|apply zr_|apply zk_|apply ze_|apply zq_|(apply zG<;>intro ht));all_goals try simp (disch:=first|omega|(simp only [lens,z6,z7,lQr,lQm,lQt,lQd];first|done|omega)) only [go_sem,q2,q3,z4a]))
end
section
theorem zhz(l:List Hash)(i:Nat)(h:l.length=8):(z2a 3 l i).length=3:=by
 have e8:=spl8
 have e4:=spl4
 have e2:=spl2
 unfold z2a
 rw [if_neg (by omega),h,e8]
 split
 ·unfold z2a
  rw [List.length_take,h,if_neg (by omega),show min 4 8=4 from rfl,e4,List.length_cons]
  split
  ·unfold z2a
   simp [h,e2,z2a]
   split<;>rfl
  ·unfold z2a
   simp [h,e2,z2a]
   split<;>rfl
 ·unfold z2a
  rw [List.length_drop,h,if_neg (by omega),show 8-4=4 from rfl,e4,List.length_cons]
  split
  ·unfold z2a
   simp [h,e2,z2a]
   split<;>rfl
  ·unfold z2a
   simp [h,e2,z2a]
   split<;>rfl
attribute [local irreducible] ACallsTo ACallsP
theorem Path_v(J:Store)(K:List Hash)(ex:Bool)(i:Nat)(hK:K.length=8)(hi:i<8):ACallsTo TC 37 [.vsl 32 (hr K) ex,.int .i64 i] J (.tup [.sl J.length 0 3 none 32,.int .i64 0]) (J++ [some (hr (z1r K i))]):=by
 refine ACallsTo.of_body q12ok (by simp) fun hw _=> ?_
 have hK':(K.length:Int)=8:=by omega
 repeat' (first|apply zs_|apply zb_|apply zc_|apply zt_ rfl|apply zf_ rfl|(refine zd_ rfl ?_ ?_<;>intro ht<;>try omega)|((first|apply zr_|apply zk_|apply ze_|apply zq_|(apply zG<;>intro ht));all_goals try simp (disch:=first|omega|(simp only [lens,z6,z7,lQr,lQm,lQt,lQd];first|done|omega)) only [go_sem,hK']))
 refine zW.loop (fun m ρ J'=>∃(l acc:List Hash) (j:Nat) (ex:Bool) (v:AV),l.length=2^m/\ m<=3/\ j<l.length/\ acc.length+m=3/\ OwnN 32 J J' v (hr acc)/\ z2a 3 K i=acc++z2a m l j/\ ρ 0= .vsl 32 (hr l) ex/\ ρ 1= .int .i64 j/\ ρ 6=v) 3 ?_ ?_
 ·exact⟨K,[],i,ex,.nilsl,hK,by omega,by omega,rfl,⟨[],by simp,.inl ⟨rfl,rfl⟩⟩,rfl,by simp (disch:=first|omega|(simp only [lens,z6,z7,lQr,lQm,lQt,lQd];first|done|omega)) only [go_sem],by simp (disch:=first|omega|(simp only [lens,z6,z7,lQr,lQm,lQt,lQd];first|done|omega)) only [go_sem],by simp (disch:=first|omega|(simp only [lens,z6,z7,lQr,lQm,lQt,lQd];first|done|omega)) only [go_sem]⟩
 ·rintro m ρ J' ⟨l,acc,j,ex,v,hl,hm,hj,hacc,hO,hp,q0,q1,q6⟩
  match m,hl,hm,hacc,hp with
  | 0,hl,_,hacc,hp=>
   have hl1:¬(l.length:Int)>1:=by omega
   have hp0:z2a 0 l j=[]:=rfl
   rw [hp0,List.append_nil]at hp
   obtain⟨news,hne⟩:=hO.ext
   have hn0:hr acc ≠ []:=fun e=>by rw [hr_nil_iff]at e;subst e;simp at hacc
   obtain⟨r,rfl,hg,hk⟩:=hO.sl hn0
   match acc,hacc with
   | [a,b,c],_=>
    have hRv:=zkj J' r a b c hg
    have dr:=slen hg
    have hph:z1r K i=[c,b,a]:=by unfold z1r;rw [hp];rfl
    rw [show (hr [a,b,c]).length=3 from rfl]at*
    repeat' (first|apply zs_|apply zb_|apply zc_|apply zt_ rfl|apply zf_ rfl|(refine zd_ rfl ?_ ?_<;>intro ht<;>try omega)|((first|apply zr_|apply zk_|apply ze_|apply zq_|(apply callW.mk_pu;(first|exact(fun _=>hRv)))|(apply callW.za;(first|exact(hRv)))|(apply zG<;>intro ht));all_goals try simp (disch:=first|omega|(simp only [lens,z6,z7,lQr,lQm,lQt,lQd];first|done|omega)) only [go_sem,q0,q1,q6,hl1]))
    rw [hph]
    obtain⟨news2,hn2⟩:Ext J (J'.set r (some (hr [c,b,a]))):=Ext.set ⟨news,hne⟩ hk
    rw [hn2]
    have hg2:(J++news2)[r]? =some (some (hr [c,b,a])):=by rw [<-hn2,z2e dr]
    obtain⟨j,rfl⟩:∃j,r=J.length+j:=⟨r-J.length,by omega⟩
    rw [z1j (by omega),Nat.add_sub_cancel_left]at hg2
    exact DownV.tup2 (DownV.own hw hg2 (z1w _))
  |m+1,hl,hm,hacc,hp=>
   have hl1:(l.length:Int)>1:=by have:1<=2^m:=Nat.one_le_two_pow;rw [hl,Nat.pow_succ];omega
   have hlen2:l.length<=8:=by rw [hl];have:2^(m+1)<=2^3:=Nat.pow_le_pow_right (by omega) hm;omega
   have hsk:zu l.length=2^m:=by rw [hl];exact zbg m
   have hSp:=fun J=>z9p J l.length (by omega)
   rw [hsk]at hSp
   have hpm:2^m+2^m=l.length:=by rw [hl,Nat.pow_succ];omega
   have hpos:0<2^m:=Nat.pos_of_ne_zero (by simp)
   have hRa:=fun J t=>zbl J (l.take (2^m)) (.vsl 32 (hr (l.take (2^m))) t) (.of (.inr ⟨t,rfl⟩)) (by rw [List.length_take];omega)
   have hRb:=fun J t=>zbl J (l.drop (2^m)) (.vsl 32 (hr (l.drop (2^m))) t) (.of (.inr ⟨t,rfl⟩)) (by rw [List.length_drop];omega)
   have hun:z2a (m+1) l j=if j<2^m then z1b (l.drop (2^m))::z2a m (l.take (2^m)) j else z1b (l.take (2^m))::z2a m (l.drop (2^m)) (j-2^m):=by
    rw [z2a,if_neg (by omega),hsk]
   have tl:(l.take (2^m)).length=2^m:=by rw [List.length_take];omega
   have dl:(l.drop (2^m)).length=2^m:=by rw [List.length_drop];omega
   rw [hun]at hp
   generalize hkk:2^m=k at*
   by_cases hj2:j<k
   ·rw [if_pos hj2]at hp
    have hj2':(j:Int)<k:=by omega
    generalize z1b (l.drop k)=R at*
    obtain⟨v',J2,ha,hO2⟩:=hO.app (ys:=[hc R]) (by simp) (by rw [z7];simp;omega)
    rw [show hr acc++ [hc R]=hr (acc++ [R])by simp [hr]]at hO2
    repeat' (first|apply zs_|apply zb_|apply zc_|apply zt_ rfl|apply zf_ rfl|(refine zd_ rfl ?_ ?_<;>intro ht<;>try omega)|((first|apply zr_|apply zk_|apply ze_|apply zq_|(apply callW.mk_pu;(first|exact(fun _=>hSp _)|exact(fun _=>hRa _ _)|exact(fun _=>hRb _ _)))|(apply callW.za;(first|exact(hSp _)|exact(hRa _ _)|exact(hRb _ _)))|(apply zG<;>intro ht));all_goals try simp (disch:=first|omega|(simp only [lens,z6,z7,lQr,lQm,lQt,lQd];first|done|omega)) only [go_sem,q0,q1,q6,hl1,hj2',ha,Int.toNat_natCast]))
    exact⟨m,by omega,l.take k,acc++ [R],j,_,v',by rw [tl,hkk],by omega,by omega,by simp;omega,hO2,by rw [hp];simp,rfl,rfl,rfl⟩
   ·rw [if_neg hj2]at hp
    have hj2':¬(j:Int)<k:=by omega
    generalize z1b (l.take k)=R at*
    obtain⟨v',J2,ha,hO2⟩:=hO.app (ys:=[hc R]) (by simp) (by rw [z7];simp;omega)
    rw [show hr acc++ [hc R]=hr (acc++ [R])by simp [hr]]at hO2
    repeat' (first|apply zs_|apply zb_|apply zc_|apply zt_ rfl|apply zf_ rfl|(refine zd_ rfl ?_ ?_<;>intro ht<;>try omega)|((first|apply zr_|apply zk_|apply ze_|apply zq_|(apply callW.mk_pu;(first|exact(fun _=>hSp _)|exact(fun _=>hRa _ _)|exact(fun _=>hRb _ _)))|(apply callW.za;(first|exact(hSp _)|exact(hRa _ _)|exact(hRb _ _)))|(apply zG<;>intro ht));all_goals try simp (disch:=first|omega|(simp only [lens,z6,z7,lQr,lQm,lQt,lQd];first|done|omega)) only [go_sem,q0,q1,q6,hl1,hj2',ha,Int.toNat_natCast]))
    exact⟨m,by omega,l.drop k,acc++ [R],j-k,_,v',by rw [dl,hkk],by omega,by omega,by simp;omega,hO2,by rw [hp];simp,rfl,by congr 1;omega,rfl⟩
end
section
def keyL(seed:List UInt8):List Hash:=(List.range 8).map fun i:Nat=>z2o (pubH seed i)
theorem z36(seed:List UInt8):(keyL seed).length=8:=by simp [keyL]
def keyZ(seed:List UInt8)(i:Nat):List Hash:=(keyL seed).take i++List.replicate (8-i) zeroH
theorem zoc(seed:List UInt8)(k:Nat)(h:k<=8):(keyZ seed k).length=8:=by
 unfold keyZ
 rw [List.length_append,List.length_take,z36,List.length_replicate];omega
theorem zo9(seed:List UInt8)(i:Nat)(h:i<8):(keyL seed).take (i+1)=(keyL seed).take i++ [z2o (pubH seed i)]:=by
 rw [z7b (by rw [z36];exact h),z90 (by rw [z36];exact h)]
 simp [keyL]
theorem zod(seed:List UInt8)(k:Nat)(h:k<8):(keyZ seed k).set k (z2o (pubH seed k))=keyZ seed (k+1):=by
 unfold keyZ
 have e:8-k=(8-(k+1))+1:=by omega
 have l:((keyL seed).take k).length=k:=by rw [List.length_take,z36];omega
 rw [e,List.replicate_succ,List.set_append_right _ _ (by omega),l,Nat.sub_self,List.set_cons_zero,zo9 _ _ h,List.append_assoc]
 rfl
theorem zob(seed:List UInt8):keyZ seed 8=keyL seed:=by
 unfold keyZ
 rw [List.take_of_length_le (by rw [z36];omega)];simp
def z1n(b:Bool)(seed:List UInt8)(K:List Hash):List AV:= .bool b:: .str seed::(hr K).flatten
theorem zgw:∀(K:List Hash),(hr K).flatten.length=32*K.length
 | []=>rfl
 |h::K=>by rw [z91,List.flatten_cons,List.length_append,z6,zgw K,List.length_cons];omega
@[go_sem] theorem zer (b:Bool) (seed:List UInt8) (K:List Hash):(z1n b seed K).length=2+32*K.length:=by rw [z1n,List.length_cons,List.length_cons,zgw];omega
@[go_sem] theorem treeC_0 (b:Bool) (seed:List UInt8) (K:List Hash):(z1n b seed K)[0]? =some (.bool b):=rfl
@[go_sem] theorem treeC_1 (b:Bool) (seed:List UInt8) (K:List Hash):(z1n b seed K)[1]? =some (.str seed):=rfl
theorem zgx:∀(K:List Hash) (i:Nat) (x:Hash),i<K.length->(hr K).flatten.take (32*i)++(hc x++(hr K).flatten.drop (32*i+32))=(hr (K.set i x)).flatten
 |h::K,0,x,_=>by
  rw [Nat.mul_zero,List.take_zero,List.nil_append,Nat.zero_add,List.set_cons_zero,z91,z91,List.flatten_cons,List.flatten_cons,List.drop_append_of_le_length (by rw [z6];omega),List.drop_of_length_le (by rw [z6];omega),List.nil_append]
 |h::K,i+1,x,hi=>by
  rw [z91,List.flatten_cons,show 32*(i+1)=32+32*i by omega,show 32+32*i+32=32+(32*i+32)by omega,<-List.drop_drop,List.drop_append_of_le_length (l₁:=hc h) (by rw [z6];omega),List.drop_of_length_le (l:=hc h) (by rw [z6];omega),List.nil_append]
  have e:(hc h++(hr K).flatten).take (32+32*i)=hc h++(hr K).flatten.take (32*i):=by
   rw [List.take_append,List.take_of_length_le (l:=hc h) (by rw [z6];omega),z6,Nat.add_sub_cancel_left]
  rw [e,List.append_assoc,zgx K i x (by simpa using hi),List.set_cons_succ,z91,List.flatten_cons]
theorem zsm(b:Bool)(seed:List UInt8)(K:List Hash)(i:Nat)(x:Hash)(hi:i<K.length):(z1n b seed K).take (2+i*32)++(hc x++(z1n b seed K).drop (2+i*32+32))=z1n b seed (K.set i x):=by
 have h:=zgx K i x hi
 unfold z1n
 rw [show 2+i*32+32=(32*i+32)+1+1 by omega,show 2+i*32=32*i+1+1 by omega,List.take_succ_cons,List.take_succ_cons,List.drop_succ_cons,List.drop_succ_cons,List.cons_append,List.cons_append,h]
theorem zje{J:Store}{r:Nat}{seed:List UInt8}{K:List Hash}(cap:Nat)(hg:J[r]? =some (some [z1n true seed K]))(hK:K.length=8):DR (z3t J) (.vsl 32 (hr K) false) (.asl r 0 2 8 cap 32):=by
 have h:=zoh (J:=J) (r:=r) (i:=0) (off:=2) (cap:=cap) (esz:=32) (o:=[z1n true seed K]) (es:=hr K) (cs:=z1n true seed K) (rest:=[]) hg rfl (by rw [zer];omega) (by rw [List.append_nil];rfl) (fun e he=>by
  simp only [hr,List.mem_map]at he
  obtain⟨x,_,rfl⟩:=he
  exact z6 x) (by rw [z7,hK];omega) (z1w K)
 rwa [z7,hK]at h
attribute [local irreducible] ACallsTo ACallsP pubH
theorem zkl(J:Store)(r:Nat)(seed:List UInt8)(K:List Hash)(cap:Nat)(hg:J[r]? =some (some [z1n true seed K]))(hK:K.length=8):ACallsTo TC 39 [.asl r 0 2 8 cap 32] J (.agg (hc (z1b K))) J:=by
 have:=ACallsTo.lend glok (zbl [] K (.vsl 32 (hr K) false) (.of (.inr ⟨false,rfl⟩)) (by omega)) (drs1 (zje cap hg hK))
 have e:sh J.length (.agg (hc (z1b K)))= .agg (hc (z1b K)):=by simp only [sh,ze9]
 rwa [e,z6k,List.append_nil]at this
theorem zkb(J:Store)(r:Nat)(seed:List UInt8)(K:List Hash)(cap i:Nat)(hg:J[r]? =some (some [z1n true seed K]))(hK:K.length=8)(hi:i<8):ACallsTo TC 37 [.asl r 0 2 8 cap 32,.int .i64 i] J (.tup [.sl J.length 0 3 none 32,.int .i64 0]) (J++ [some (hr (z1r K i))]):=by
 have:=ACallsTo.lend glok (Path_v [] K false i hK hi) (drsc (zje cap hg hK) (drs1 (rl0 (by simp [RL]) J)))
 have e:shS J.length ([]++ [some (hr (z1r K i))])=[some (hr (z1r K i))]:=by
  simp only [List.nil_append,shS,List.map_cons,List.map_nil,Option.map_some,shss,hr,List.map_map]
  congr 2
  exact List.map_congr_left fun h _=>ze9 _ h
 rw [e]at this
 simpa [sh,shs]using this
set_option maxRecDepth 100000 in
theorem zsn:([.bool false,.str [],.int .u8 0,.int .u8 0,.int .u8 0,.int .u8 0,.int .u8 0,.int .u8 0,.int .u8 0,.int .u8 0,.int .u8 0,.int .u8 0,.int .u8 0,.int .u8 0,.int .u8 0,.int .u8 0,.int .u8 0,.int .u8 0,.int .u8 0,.int .u8 0,.int .u8 0,.int .u8 0,.int .u8 0,.int .u8 0,.int .u8 0,.int .u8 0,.int .u8 0,.int .u8 0,.int .u8 0,.int .u8 0,.int .u8 0,.int .u8 0,.int .u8 0,.int .u8 0,.int .u8 0,.int .u8 0,.int .u8 0,.int .u8 0,.int .u8 0,.int .u8 0,.int .u8 0,.int .u8 0,.int .u8 0,.int .u8 0,.int .u8 0,.int .u8 0,.int .u8 0,.int .u8 0,.int .u8 0,.int .u8 0,.int .u8 0,.int .u8 0,.int .u8 0,.int .u8 0,.int .u8 0,.int .u8 0,.int .u8 0,.int .u8 0,.int .u8 0,.int .u8 0,.int .u8 0,.int .u8 0,.int .u8 0,.int .u8 0,.int .u8 0,.int .u8 0,.int .u8 0,.int .u8 0,.int .u8 0,.int .u8 0,.int .u8 0,.int .u8 0,.int .u8 0,.int .u8 0,.int .u8 0,.int .u8 0,.int .u8 0,.int .u8 0,.int .u8 0,.int .u8 0,.int .u8 0,.int .u8 0,.int .u8 0,.int .u8 0,.int .u8 0,.int .u8 0,.int .u8 0,.int .u8 0,.int .u8 0,.int .u8 0,.int .u8 0,.int .u8 0,.int .u8 0,.int .u8 0,.int .u8 0,.int .u8 0,.int .u8 0,.int .u8 0,.int .u8 0,.int .u8 0,.int .u8 0,.int .u8 0,.int .u8 0,.int .u8 0,.int .u8 0,.int .u8 0,.int .u8 0,.int .u8 0,.int .u8 0,.int .u8 0,.int .u8 0,.int .u8 0,.int .u8 0,.int .u8 0,.int .u8 0,.int .u8 0,.int .u8 0,.int .u8 0,.int .u8 0,.int .u8 0,.int .u8 0,.int .u8 0,.int .u8 0,.int .u8 0,.int .u8 0,.int .u8 0,.int .u8 0,.int .u8 0,.int .u8 0,.int .u8 0,.int .u8 0,.int .u8 0,.int .u8 0,.int .u8 0,.int .u8 0,.int .u8 0,.int .u8 0,.int .u8 0,.int .u8 0,.int .u8 0,.int .u8 0,.int .u8 0,.int .u8 0,.int .u8 0,.int .u8 0,.int .u8 0,.int .u8 0,.int .u8 0,.int .u8 0,.int .u8 0,.int .u8 0,.int .u8 0,.int .u8 0,.int .u8 0,.int .u8 0,.int .u8 0,.int .u8 0,.int .u8 0,.int .u8 0,.int .u8 0,.int .u8 0,.int .u8 0,.int .u8 0,.int .u8 0,.int .u8 0,.int .u8 0,.int .u8 0,.int .u8 0,.int .u8 0,.int .u8 0,.int .u8 0,.int .u8 0,.int .u8 0,.int .u8 0,.int .u8 0,.int .u8 0,.int .u8 0,.int .u8 0,.int .u8 0,.int .u8 0,.int .u8 0,.int .u8 0,.int .u8 0,.int .u8 0,.int .u8 0,.int .u8 0,.int .u8 0,.int .u8 0,.int .u8 0,.int .u8 0,.int .u8 0,.int .u8 0,.int .u8 0,.int .u8 0,.int .u8 0,.int .u8 0,.int .u8 0,.int .u8 0,.int .u8 0,.int .u8 0,.int .u8 0,.int .u8 0,.int .u8 0,.int .u8 0,.int .u8 0,.int .u8 0,.int .u8 0,.int .u8 0,.int .u8 0,.int .u8 0,.int .u8 0,.int .u8 0,.int .u8 0,.int .u8 0,.int .u8 0,.int .u8 0,.int .u8 0,.int .u8 0,.int .u8 0,.int .u8 0,.int .u8 0,.int .u8 0,.int .u8 0,.int .u8 0,.int .u8 0,.int .u8 0,.int .u8 0,.int .u8 0,.int .u8 0,.int .u8 0,.int .u8 0,.int .u8 0,.int .u8 0,.int .u8 0,.int .u8 0,.int .u8 0,.int .u8 0,.int .u8 0,.int .u8 0,.int .u8 0,.int .u8 0,.int .u8 0,.int .u8 0,.int .u8 0,.int .u8 0,.int .u8 0,.int .u8 0,.int .u8 0,.int .u8 0,.int .u8 0,.int .u8 0,.int .u8 0,.int .u8 0,.int .u8 0,.int .u8 0,.int .u8 0,.int .u8 0,.int .u8 0]:List AV)=z1n false [] (List.replicate 8 zeroH):=by kernel_rfl
set_option maxRecDepth 100000 in
theorem zoa(J:Store)(seed:List UInt8)(hs:seed.length<1000000):ACallsTo TC 79 [.str seed] J (.ptr J.length 0 0) (J++ [some [z1n true seed (keyL seed)]]):=by
 refine ACallsTo.of_body_keep q1iok (by simp) ?_
 repeat' (first|apply zs_|apply zb_|apply zc_|apply zt_ rfl|apply zf_ rfl|(refine zd_ rfl ?_ ?_<;>intro ht<;>try omega)|((first|apply zr_|apply zk_|apply ze_|apply zq_|(apply zG<;>intro ht));all_goals try simp (disch:=first|omega|(simp only [lens,z6,z7,lQr,lQm,lQt,lQd];first|done|omega)) only [go_sem,zsn]))
 have h0:(AV.bool true::AV.str seed::List.drop 1 (List.drop 1 (z1n false [] (List.replicate 8 zeroH))))=z1n true seed (keyZ seed 0):=by unfold keyZ;rw [List.take_zero,List.nil_append];rfl
 rw [h0]
 refine zW.loop (fun m ρ J'=>∃i:Nat,m+i=8/\ J'=J++ [some [z1n true seed (keyZ seed i)]]/\ ρ 0= .str seed/\ ρ 3= .ptr J.length 0 0/\ ρ 8= .int .i64 i) 8 ?_ ?_
 ·exact⟨0,by omega,rfl,by simp (disch:=first|omega|(simp only [lens,z6,z7,lQr,lQm,lQt,lQd];first|done|omega)) only [go_sem],by simp (disch:=first|omega|(simp only [lens,z6,z7,lQr,lQm,lQt,lQd];first|done|omega)) only [go_sem],by simp (disch:=first|omega|(simp only [lens,z6,z7,lQr,lQm,lQt,lQd];first|done|omega)) only [go_sem];rfl⟩
 ·rintro m ρ J' ⟨i,hm,rfl,q0,q3,q8⟩
  by_cases hi:i<8
  ·have hi':(i:Int)<8:=by omega
   have hP:=fun J=>zf3 J seed i hs (by omega)
   have hL:=fun J=>zey J (pubH seed i) (z15 32 (hr (pubH seed i))) (z2x _ _) (by rw [z3w];omega)
   have hst:=zod seed i hi
   have hzl:=zoc seed i (by omega)
   have hset:=fun x=>zsm true seed (keyZ seed i) i x (by omega)
   generalize keyZ seed i=L at*
   generalize hLF:z2o (pubH seed i)=X at*
   generalize z15 32 (hr (pubH seed i))=PV at*
   repeat' (first|apply zs_|apply zb_|apply zc_|apply zt_ rfl|apply zf_ rfl|(refine zd_ rfl ?_ ?_<;>intro ht<;>try omega)|((first|apply zr_|apply zk_|apply ze_|apply zq_|(apply callW.mk_pu;(first|exact(fun _=>hP _)|exact(fun _=>hL _)))|(apply callW.za;(first|exact(hP _)|exact(hL _)))|(apply zG<;>intro ht));all_goals try simp (disch:=first|omega|(simp only [lens,z6,z7,lQr,lQm,lQt,lQd];first|done|omega)) only [go_sem,q0,q3,q8,hi',hzl,hset,Int.toNat_natCast]))
   exact⟨m-1,by omega,i+1,by omega,by rw [<-hst],by simp⟩
  ·obtain rfl:i=8:=by omega
   have hi':¬((8:Nat):Int)<8:=by omega
   repeat' (first|apply zs_|apply zb_|apply zc_|apply zt_ rfl|apply zf_ rfl|(refine zd_ rfl ?_ ?_<;>intro ht<;>try omega)|((first|apply zr_|apply zk_|apply ze_|apply zq_|(apply zG<;>intro ht));all_goals try simp (disch:=first|omega|(simp only [lens,z6,z7,lQr,lQm,lQt,lQd];first|done|omega)) only [go_sem,q0,q3,q8,hi',z4a]))
   rw [zob]
end
section
set_option maxRecDepth 4000

end
section
attribute [local irreducible] ACallsTo ACallsP pubH
theorem zjc(J:Store)(r:Nat)(seed:List UInt8)(K:List Hash)(hg:J[r]? =some (some [z1n true seed K]))(hK:K.length=8):ACallsTo TC 11 [.ptr r 0 0] J (.agg (hc (z1b K))) J:=by
 have d:=slen hg
 have hR:=fun y cap=>zkl (J++y) r seed K cap (by rw [gapp d];exact hg) hK
 refine ACallsTo.of_body q1jok (by simp) fun hw _=> ?_
 repeat' (first|apply zs_|apply zb_|apply zc_|apply zt_ rfl|apply zf_ rfl|(refine zd_ rfl ?_ ?_<;>intro ht<;>try omega)|((first|apply zr_|apply zk_|apply ze_|apply zq_|(apply callW.mk_pu;(first|exact(fun _=>hR _ _)))|(apply callW.za;(first|exact(hR _ _)))|(apply zG<;>intro ht));all_goals try simp (disch:=first|omega|(simp only [lens,z6,z7,lQr,lQm,lQt,lQd];first|done|omega)) only [go_sem,hg,hK]))
 exact DownV.pure hw (z39 _)
def zbe(i:Int)(s:List UInt8)(p:AV)(e:Int):AV:= .tup [.agg [.int .i64 i,.str s,p],.int .i64 e]
theorem zjd(J:Store)(r:Nat)(seed:List UInt8)(K:List Hash)(i:Nat)(dg:Hash)(hg:J[r]? =some (some [z1n true seed K]))(hK:K.length=8)(hi:i<8)(hs:seed.length<1000000):
  ACallsTo TC 83 [.ptr r 0 0,.int .i64 i,.agg (hc dg)] J (zbe i (ksgS seed i dg.1) (z15 32 (hr (z1r K i))) 0) J:=by
 have d:=slen hg
 have hP:=fun y cap=>zkb (J++y) r seed K cap i (by rw [gapp d];exact hg) hK hi
 have hS:=fun J=>zkm J seed i dg hs (by omega)
 have hpl:(z1r K i).length=3:=by unfold z1r;rw [List.length_reverse,zhz K i hK]
 have hne:hr (z1r K i) ≠ []:=fun e=>by have:=congrArg List.length e;rw [z7,hpl]at this;simp at this
 unfold zbe
 generalize ksgS seed i dg.1=sig at*
 generalize z1r K i=PH at*
 refine ACallsTo.of_body q1kok (by simp) fun hw _=> ?_
 repeat' (first|apply zs_|apply zb_|apply zc_|apply zt_ rfl|apply zf_ rfl|(refine zd_ rfl ?_ ?_<;>intro ht<;>try omega)|((first|apply zr_|apply zk_|apply ze_|apply zq_|(apply callW.mk_pu;(first|exact(fun _=>hP _ _)|exact(fun _=>hS _)))|(apply callW.za;(first|exact(hP _ _)|exact(hS _)))|(apply zG<;>intro ht));all_goals try simp (disch:=first|omega|(simp only [lens,z6,z7,lQr,lQm,lQt,lQd];first|done|omega)) only [go_sem,hg,hK]))
 refine DownV.all hw (drT (drsc (drA (drsc (FrzD.same (by simp [RL])) (drsc (FrzD.same (by simp [RL])) (drs1 ?_)))) (drs1 (FrzD.same (by simp [RL])))))
 unfold z15
 rw [if_neg hne]
 have hf:=FrzD.sl (τ:=J) (news:=[some [hc dg],some [[AV.int IntKind.i64 i,AV.str sig,AV.sl (J.length+2) 0 3 none 32]],some (hr PH)]) (r:=J.length+2) (off:=0) (lim:=none) (esz:=32) (o:=hr PH) (es:=hr PH) (by omega) (by rw [z1j (by omega),Nat.add_sub_cancel_left];rfl) (by omega) (by simp) (z1w _)
 rw [show (hr PH).length=3 by rw [z7,hpl]]at hf
 exact hf
end
section
theorem zis(seed:List UInt8)(idx:Int)(d:List UInt8)(i:Nat):∀n,i<=n->(sgA seed idx d n).take (32*i)=sgA seed idx d i
  | 0, h => by obtain rfl : i = 0 := by omega
               rfl
  |n+1,h=>by
    by_cases h1:i=n+1
    · subst h1;rw [<-z6j seed idx d (n+1),List.take_length]
    · rw [sgA,List.take_append_of_le_length (by rw [z6j];omega)]
      exact zis seed idx d i n (by omega)
theorem zit(seed:List UInt8)(idx:Int)(d:List UInt8)(i:Nat):∀n,i<=n->(sgB seed idx d n).take (32*i)=sgB seed idx d i
  | 0, h => by obtain rfl : i = 0 := by omega
               rfl
  |n+1,h=>by
    by_cases h1:i=n+1
    · subst h1;rw [<-z7y seed idx d (n+1),List.take_length]
    · rw [sgB,List.take_append_of_le_length (by rw [z7y];omega)]
      exact zit seed idx d i n (by omega)
theorem zru(seed:List UInt8)(idx:Int)(d:List UInt8)(i:Nat)(h:i<256):((ksgS seed idx d).take (32*i+32)).drop (32*i)=(secH seed idx (2*(i:Int)+bitS d i)).1:=by
 unfold ksgS
 rw [List.take_append_of_le_length (by rw [z6j];omega),show 32*i+32=32*(i+1)by omega,zis seed idx d (i+1) 256 (by omega),sgA,<-z6j seed idx d i,List.drop_left]
theorem zrt(seed:List UInt8)(idx:Int)(d:List UInt8)(i:Nat)(h:i<256):((ksgS seed idx d).drop (8192+32*i)).take 32=(shwH seed idx ((2*i+1-bitS d i:Nat):Int)).1:=by
 unfold ksgS
 have e:(sgA seed idx d 256).length=8192:=z6j seed idx d 256
 rw [<-List.drop_drop,<-e,List.drop_left]
 have h2:=zit seed idx d (i+1) 256 (by omega)
 rw [show 32*(i+1)=32*i+32 by omega]at h2
 rw [List.take_drop,h2,sgB,<-z7y seed idx d i,List.drop_left]
def rkK(d d':List UInt8)(k:Nat):Nat:=if bitS d ((k/2:Nat):Int)=bitS d' ((k/2:Nat):Int)then k else if k%2=0 then k+1 else k-1
theorem zrh{α:Type}(A R:List α)(z x y:α):((A++z::z::R).set A.length x).set (A.length+1) y=A++x::y::R/\ ((A++z::z::R).set (A.length+1) y).set A.length x=A++x::y::R:=by
 constructor
 ·rw [List.set_append_right _ _ (Nat.le_refl _),Nat.sub_self,List.set_cons_zero,List.set_append_right _ _ (by omega),Nat.add_sub_cancel_left];rfl
 ·rw [List.set_append_right _ _ (by omega),Nat.add_sub_cancel_left,List.set_cons_succ,List.set_cons_zero,List.set_append_right _ _ (Nat.le_refl _),Nat.sub_self,List.set_cons_zero]
theorem zie(seed:List UInt8)(idx:Int)(d d':List UInt8):∀n,n<=256->recF (ksgS seed idx d) d' n=(List.range (2*n)).map (fun k:Nat=>shwH seed idx (rkK d d' k:Nat))++List.replicate (512-2*n) zeroH
 | 0,_=>by rw [recF];rfl
 |n+1,h=>by
  rw [recF,zie seed idx d d' n (by omega),recS,zru seed idx d n (by omega),zrt seed idx d n (by omega),zsl]
  have hl:((List.range (2*n)).map (fun k:Nat=>shwH seed idx (rkK d d' k:Nat))).length=2*n:=by simp
  have e1:List.replicate (512-2*n) zeroH=zeroH::zeroH::List.replicate (512-2*(n+1)) zeroH:=by
   rw [show 512-2*n=(512-2*(n+1))+1+1 by omega,List.replicate_succ,List.replicate_succ]
  have e2:(List.range (2*(n+1))).map (fun k:Nat=>shwH seed idx (rkK d d' k:Nat))=(List.range (2*n)).map (fun k:Nat=>shwH seed idx (rkK d d' k:Nat))++ [shwH seed idx (rkK d d' (2*n):Nat),shwH seed idx (rkK d d' (2*n+1):Nat)]:=by
   rw [show 2*(n+1)=2*n+1+1 by omega,List.range_succ,List.range_succ,List.map_append,List.map_append,List.append_assoc];rfl
  have hb:=z8j d n
  have hb':=z8j d' n
  have r0:rkK d d' (2*n)=if bitS d n=bitS d' n then 2*n else 2*n+1:=by
   unfold rkK
   rw [show 2*n/2=n by omega]
   split
   ·rfl
   ·rw [if_pos (by omega)]
  have r1:rkK d d' (2*n+1)=if bitS d n=bitS d' n then 2*n+1 else 2*n:=by
   unfold rkK
   rw [show (2*n+1)/2=n by omega]
   split
   ·rfl
   ·rw [if_neg (by omega)];omega
  rw [e1,e2,r0,r1]
  have hs:z5x (secH seed idx (2*(n:Int)+bitS d n)).1=shwH seed idx ((2*n+bitS d n:Nat):Int):=by
   rw [show ((2*n+bitS d n:Nat):Int)=2*(n:Int)+bitS d n by omega];rfl
  rw [hs]
  generalize (List.range (2*n)).map (fun k:Nat=>shwH seed idx (rkK d d' k:Nat))=A at*
  generalize List.replicate (512-2*(n+1)) zeroH=R at*
  rw [List.append_assoc]
  generalize bitS d n=b at*
  generalize bitS d' n=b' at*
  have two:∀x y,((A++zeroH::zeroH::R).set (2*n) x).set (2*n+1) y=A++([x,y]++R)/\ ((A++zeroH::zeroH::R).set (2*n+1) y).set (2*n) x=A++([x,y]++R):=by
   intro x y
   have:=zrh A R zeroH x y
   rw [hl]at this
   exact this
  rcases(show (b=0 \/b=1)by omega)with rfl|rfl<;>rcases(show (b'=0 \/b'=1)by omega)with rfl|rfl
  ·simp only [Nat.add_zero,Nat.sub_zero,if_true];exact(two _ _).1
  ·simp only [Nat.add_zero,Nat.sub_zero,Nat.add_sub_cancel];rw [if_neg (by omega),if_neg (by omega)];exact(two _ _).2
  ·simp only [Nat.add_zero,Nat.sub_zero,Nat.add_sub_cancel];rw [if_neg (by omega),if_neg (by omega)];exact(two _ _).1
  ·simp only [Nat.add_sub_cancel,if_true];exact(two _ _).2
theorem zqf(seed:List UInt8)(idx:Int)(d:List UInt8):recF (ksgS seed idx d) d 256=pubH seed idx:=by
 have e:(fun k:Nat=>shwH seed idx (rkK d d k:Nat))=fun k:Nat=>shwH seed idx k:=by
  funext k
  rw [show rkK d d k=k by unfold rkK;rw [if_pos rfl]]
 rw [zie seed idx d d 256 (Nat.le_refl _),e,show 2*256=512 from rfl,Nat.sub_self,List.replicate_zero,List.append_nil]
 rfl
theorem root_8(a b c d e f g h:Hash):z1b [a,b,c,d,e,f,g,h]=z11 (z11 (z11 a b) (z11 c d)) (z11 (z11 e f) (z11 g h)):=by
 rw [zdw (by simp)];simp [spl8,zil]
theorem zq2(a b c d e f g h:Hash):z1r [a,b,c,d,e,f,g,h] 0=[b,z11 c d,z11 (z11 e f) (z11 g h)]/\ z1r [a,b,c,d,e,f,g,h] 1=[a,z11 c d,z11 (z11 e f) (z11 g h)] ∧
  z1r [a,b,c,d,e,f,g,h] 2=[d,z11 a b,z11 (z11 e f) (z11 g h)]/\ z1r [a,b,c,d,e,f,g,h] 3=[c,z11 a b,z11 (z11 e f) (z11 g h)] ∧
  z1r [a,b,c,d,e,f,g,h] 4=[f,z11 g h,z11 (z11 a b) (z11 c d)]/\ z1r [a,b,c,d,e,f,g,h] 5=[e,z11 g h,z11 (z11 a b) (z11 c d)] ∧
  z1r [a,b,c,d,e,f,g,h] 6=[h,z11 e f,z11 (z11 a b) (z11 c d)]/\ z1r [a,b,c,d,e,f,g,h] 7=[g,z11 e f,z11 (z11 a b) (z11 c d)]:=by
 refine⟨?_,?_,?_,?_,?_,?_,?_,?_⟩<;>simp [z1r,z2a,spl8,spl4,spl2,zdx,zil,zdv]
def z2p(i:Nat)(x p q r:Hash):Hash:=
 let y:=if i%2=1 then z11 p x else z11 x p
 let z:=if i/2%2=1 then z11 q y else z11 y q
 if i/4%2=1 then z11 r z else z11 z r
theorem z6b(i:Nat)(hi:i<8)(x p q r root:Hash):chkP x i 8 [p,q,r] root=if z2p i x p q r=root then 0 else 80:=by
 unfold chkP
 rw [if_neg (by omega),Int.toNat_natCast,show (8:Int).toNat-1=7 from rfl]
 match i,hi with
 | 0,_=>simp [z2d,z18,z1o,z2p]
 | 1,_=>simp [z2d,z18,z1o,z2p]
 | 2,_=>simp [z2d,z18,z1o,z2p]
 | 3,_=>simp [z2d,z18,z1o,z2p]
 | 4,_=>simp [z2d,z18,z1o,z2p]
 | 5,_=>simp [z2d,z18,z1o,z2p]
 | 6,_=>simp [z2d,z18,z1o,z2p]
 | 7,_=>simp [z2d,z18,z1o,z2p]
 |i+8,h=>omega
theorem len8{K:List Hash}(h:K.length=8):∃a b c d e f g i,K=[a,b,c,d,e,f,g,i]:=by
 match K,h with
 | [a,b,c,d,e,f,g,i],_=>exact⟨a,b,c,d,e,f,g,i,rfl⟩
theorem zly(K:List Hash)(hK:K.length=8)(i:Nat)(hi:i<8):chkP (hd K i) i 8 (z1r K i) (z1b K)=0:=by
 obtain⟨a,b,c,d,e,f,g,h,rfl⟩:=len8 hK
 obtain⟨p0,p1,p2,p3,p4,p5,p6,p7⟩:=zq2 a b c d e f g h
 rw [root_8]
 match i,hi with
 | 0,_=>rw [p0,z6b 0 (by omega)];exact if_pos (by simp [z2p,hd])
 | 1,_=>rw [p1,z6b 1 (by omega)];exact if_pos (by simp [z2p,hd])
 | 2,_=>rw [p2,z6b 2 (by omega)];exact if_pos (by simp [z2p,hd])
 | 3,_=>rw [p3,z6b 3 (by omega)];exact if_pos (by simp [z2p,hd])
 | 4,_=>rw [p4,z6b 4 (by omega)];exact if_pos (by simp [z2p,hd])
 | 5,_=>rw [p5,z6b 5 (by omega)];exact if_pos (by simp [z2p,hd])
 | 6,_=>rw [p6,z6b 6 (by omega)];exact if_pos (by simp [z2p,hd])
 | 7,_=>rw [p7,z6b 7 (by omega)];exact if_pos (by simp [z2p,hd])
 |i+8,h=>omega
theorem zo8(seed:List UInt8)(i:Nat)(hi:i<8):hd (keyL seed) i=z2o (pubH seed i):=by
 rw [z90 (by rw [z36];exact hi)]
 simp [keyL]
theorem zsv(seed:List UInt8)(i:Nat)(hi:i<8)(dg:Hash):verI (z1b (keyL seed)) dg i (ksgS seed i dg.1) (z1r (keyL seed) i)=0:=by
 unfold verI
 rw [if_neg (by omega),if_pos (zcw _ _ _),zqf,<-zo8 seed i hi,if_pos (zly _ (z36 seed) i hi)]
end
section
attribute [local irreducible] ACallsTo ACallsP pubH
end
section
attribute [local irreducible] ACallsTo ACallsP pubH
theorem and7(i:Int):z16 .and .i64 i 7=some (.int .i64 (i%8)):=zkw i 3 (by omega)
end
section
set_option maxRecDepth 10000
@[go_sem] def q1nr0:List AIns:=[
 yI 1 (.box (.t 0)),
 yI 2 (.mv (.v (.bool false)))]
@[go_sem] def q1nr1:List AIns:=[
 yI 4 (.fa 0 (.t 1)),
 yI 5 (.fa 0 (.t 4)),
 yI 6 (.load false 1 (.t 5)),
 yI 7 (.bin .geq .none (.t 6) (.v (.int .i64 0))),
 yM 8 7,
 yG 9 8 true (.fa 0 (.t 1)),
 yG 10 8 true (.fa 0 (.t 9)),
 yG 11 8 true (.load false 1 (.t 10)),
 yG 12 8 true (.bin .leq .none (.t 11) (.v (.int .i64 4096))),
 yI 13 (.pick (.t 8) (.t 12) (.v (.bool false))),
 yM 3 13]
@[go_sem] def q1nr2:List AIns:=[
 yM 14 3,
 yM 15 14,
 yG 16 15 true (.fa 33 (.t 1)),
 yG 17 15 true (.fa 0 (.t 16)),
 yG 18 15 true (.load false 1 (.t 17)),
 yG 19 15 true (.bin .geq .none (.t 18) (.v (.int .i64 0))),
 yI 20 (.pick (.t 15) (.t 19) (.v (.bool false))),
 yM 21 20,
 yG 22 21 true (.fa 33 (.t 1)),
 yG 23 21 true (.fa 0 (.t 22)),
 yG 24 21 true (.load false 1 (.t 23)),
 yG 25 21 true (.bin .lss .none (.t 24) (.v (.int .i64 8))),
 yI 26 (.pick (.t 21) (.t 25) (.v (.bool false))),
 yM 27 26,
 yG 28 27 true (.fa 33 (.t 1)),
 yG 29 27 true (.fa 1 (.t 28)),
 yG 30 27 true (.load false 1 (.t 29)),
 yG 31 27 true (.lenStr (.t 30)),
 yG 32 27 true (.bin .eql .none (.t 31) (.v (.int .i64 16384))),
 yI 33 (.pick (.t 27) (.t 32) (.v (.bool false))),
 yM 34 33,
 yG 35 34 true (.fa 33 (.t 1)),
 yG 36 34 true (.fa 2 (.t 35)),
 yG 37 34 true (.load false 1 (.t 36)),
 yG 38 34 true (.lenSl (.t 37)),
 yG 39 34 true (.bin .eql .none (.t 38) (.v (.int .i64 3))),
 yI 40 (.pick (.t 34) (.t 39) (.v (.bool false))),
 yM 2 40]
def q1nc3:ACode:= .seq (.reg q1nr2) .ret
def q1nc4:ACode:= .seq (.reg q1nr1) q1nc3
def q1nc5:ACode:= .seq (.reg q1nr0) q1nc4
theorem q1nok:cFn TC 90=some (41,[.t 2],q1nc5):=by kernel_rfl
@[go_sem] def q1or0:List AIns:=[
 yI 2 (.box (.t 0)),
 yI 3 (.box (.t 1)),
 yI 4 (.mv (.v (.int .i64 0)))]
@[go_sem] def q1or1:List AIns:=[
 yI 6 (.fa 0 (.t 2)),
 yI 7 (.load false 1 (.t 6)),
 yI 8 (.fa 0 (.t 3)),
 yI 9 (.load false 1 (.t 8)),
 yI 10 (.bin .lss .none (.t 7) (.t 9)),
 yM 5 10]
@[go_sem] def q1or2:List AIns:=[
 yI 4 (.mv (.v (.int .i64 0)))]
def q1oc3:ACode:= .seq (.reg q1or2) .ret
@[go_sem] def q1or4:List AIns:=[
 yI 12 (.fa 0 (.t 2)),
 yI 13 (.load false 1 (.t 12)),
 yI 14 (.fa 0 (.t 3)),
 yI 15 (.load false 1 (.t 14)),
 yI 16 (.bin .gtr .none (.t 13) (.t 15)),
 yM 11 16]
@[go_sem] def q1or5:List AIns:=[
 yI 4 (.mv (.v (.int .i64 2)))]
def q1oc6:ACode:= .seq (.reg q1or5) .ret
@[go_sem] def q1or7:List AIns:=[
 yI 18 (.fa 1 (.t 2)),
 yI 19 (.load true 32 (.t 18)),
 yI 20 (.fa 1 (.t 3)),
 yI 21 (.load true 32 (.t 20)),
 yI 22 (.bin .eql (.agg (List.replicate 32 (.i .u8)++ [])) (.t 19) (.t 21)),
 yM 17 22]
@[go_sem] def q1or8:List AIns:=[
 yI 4 (.mv (.v (.int .i64 1)))]
def q1oc9:ACode:= .seq (.reg q1or8) .ret
def q1oc10:ACode:= .cond (.t 17) q1oc9 .skip
def q1oc11:ACode:= .seq (.reg q1or7) q1oc10
def q1oc12:ACode:= .cond (.t 11) q1oc6 q1oc11
def q1oc13:ACode:= .seq (.reg q1or4) q1oc12
def q1oc14:ACode:= .cond (.t 5) q1oc3 q1oc13
def q1oc15:ACode:= .seq (.reg q1or1) q1oc14
@[go_sem] def q1or16:List AIns:=[
 yI 4 (.mv (.v (.int .i64 3)))]
def q1oc17:ACode:= .seq (.reg q1or16) .ret
def q1oc18:ACode:= .seq (.block 0 q1oc15) q1oc17
def q1oc19:ACode:= .seq (.reg q1or0) q1oc18
theorem q1ook:cFn TC 44=some (23,[.t 4],q1oc19):=by kernel_rfl
@[go_sem] def q1pr0:List AIns:=[
 yI 2 (.box (.t 0)),
 yI 3 (.box (.t 1)),
 yI 4 (.mv (.v (.int .i64 0)))]
@[go_sem] def q1pr1:List AIns:=[
 yI 6 (.load true 36 (.t 3)),
 yI 7 (.call (.v (.fn 90 [])) [(.t 6)]),
 yI 8 (.un .not (.t 7)),
 yM 5 8]
@[go_sem] def q1pr2:List AIns:=[
 yI 4 (.mv (.v (.int .i64 2)))]
def q1pc3:ACode:= .seq (.reg q1pr2) .ret
@[go_sem] def q1pr4:List AIns:=[
 ⟨some 10,none,.rd,.load true 32 (.t 2)⟩,
 yI 11 (.fa 0 (.t 3)),
 ⟨some 12,none,.rd,.load true 33 (.t 11)⟩,
 ⟨some 13,none,.ef,.call (.v (.fn 92 [])) [(.t 12)]⟩,
 yI 14 (.fa 33 (.t 3)),
 ⟨some 15,none,.rd,.load true 3 (.t 14)⟩,
 yI 16 (.call (.v (.fn 91 [])) [(.t 10),(.t 13),(.t 15)]),
 yI 17 (.bin .neq .none (.t 16) (.v (.int .i64 0))),
 yM 9 17]
@[go_sem] def q1pr5:List AIns:=[
 yI 4 (.mv (.v (.int .i64 81)))]
def q1pc6:ACode:= .seq (.reg q1pr5) .ret
def q1pc7:ACode:= .cond (.t 9) q1pc6 .skip
def q1pc8:ACode:= .seq (.reg q1pr4) q1pc7
def q1pc9:ACode:= .cond (.t 5) q1pc3 q1pc8
def q1pc10:ACode:= .seq (.reg q1pr1) q1pc9
@[go_sem] def q1pr11:List AIns:=[
 yI 4 (.mv (.v (.int .i64 0)))]
def q1pc12:ACode:= .seq (.reg q1pr11) .ret
def q1pc13:ACode:= .seq (.block 0 q1pc10) q1pc12
def q1pc14:ACode:= .seq (.reg q1pr0) q1pc13
theorem q1pok:cFn TC 42=some (18,[.t 4],q1pc14):=by kernel_rfl
@[go_sem] def q1qr0:List AIns:=[
 yI 1 (.box (.t 0)),
 yI 2 (.mv (.v (.bool false)))]
@[go_sem] def q1qr1:List AIns:=[
 yI 3 (.fa 0 (.t 1)),
 yI 4 (.fa 0 (.t 3)),
 yI 5 (.load false 1 (.t 4)),
 yI 6 (.bin .geq .none (.t 5) (.v (.int .i64 0))),
 yM 7 6,
 yG 8 7 true (.fa 0 (.t 1)),
 yG 9 7 true (.fa 0 (.t 8)),
 yG 10 7 true (.load false 1 (.t 9)),
 yG 11 7 true (.bin .leq .none (.t 10) (.v (.int .i64 4096))),
 yI 12 (.pick (.t 7) (.t 11) (.v (.bool false))),
 yM 13 12,
 yG 14 13 true (.fa 33 (.t 1)),
 yG 15 13 true (.fa 0 (.t 14)),
 yG 16 13 true (.load false 1 (.t 15)),
 yG 17 13 true (.bin .geq .none (.t 16) (.v (.int .i64 0))),
 yI 18 (.pick (.t 13) (.t 17) (.v (.bool false))),
 yM 19 18,
 yG 20 19 true (.fa 33 (.t 1)),
 yG 21 19 true (.fa 0 (.t 20)),
 yG 22 19 true (.load false 1 (.t 21)),
 yG 23 19 true (.bin .leq .none (.t 22) (.v (.int .i64 7))),
 yI 24 (.pick (.t 19) (.t 23) (.v (.bool false))),
 yM 25 24,
 yG 26 25 true (.fa 33 (.t 1)),
 yG 27 25 true (.fa 1 (.t 26)),
 yG 28 25 true (.load false 1 (.t 27)),
 yG 29 25 true (.lenStr (.t 28)),
 yG 30 25 true (.bin .eql .none (.t 29) (.v (.int .i64 16384))),
 yI 31 (.pick (.t 25) (.t 30) (.v (.bool false))),
 yM 32 31,
 yG 33 32 true (.fa 33 (.t 1)),
 yG 34 32 true (.fa 2 (.t 33)),
 yG 35 32 true (.load false 1 (.t 34)),
 yG 36 32 true (.lenSl (.t 35)),
 yG 37 32 true (.bin .eql .none (.t 36) (.v (.int .i64 3))),
 yI 38 (.pick (.t 32) (.t 37) (.v (.bool false))),
 yM 2 38]
def q1qc2:ACode:= .seq (.reg q1qr1) .ret
def q1qc3:ACode:= .seq (.reg q1qr0) q1qc2
theorem q1qok:cFn TC 96=some (39,[.t 2],q1qc3):=by kernel_rfl
@[go_sem] def q1rr0:List AIns:=[
 yI 1 (.box (.t 0)),
 yI 2 (.alloc zZ0)]
@[go_sem] def q1rr1:List AIns:=[
 yI 3 (.fa 0 (.t 1)),
 ⟨some 4,none,.rd,.load false 1 (.t 3)⟩,
 yI 5 (.conv (.int .u64) (.t 4)),
 ⟨some 6,none,.ef,.call (.v (.fn 114 [])) [(.t 5),(.v (.int .i64 8))]⟩,
 yI 7 (.bin .add .none (.v (.str [5])) (.t 6)),
 yI 8 (.fa 1 (.t 1)),
 ⟨some 9,none,.rd,.load true 32 (.t 8)⟩,
 yI 10 (.call (.v (.fn 60 [])) [(.t 9)]),
 yI 11 (.bin .add .none (.t 7) (.t 10)),
 yI 12 (.call (.v (.fn 80 [])) [(.t 11)]),
 ⟨none,none,.no,.store 32 (.t 2) (.t 12)⟩]
def q1rc2:ACode:= .seq (.reg q1rr1) .ret
def q1rc3:ACode:= .seq (.reg q1rr0) q1rc2
theorem q1rok:cFn TC 92=some (13,[.c 2 true 32],q1rc3):=by kernel_rfl
end
section
attribute [local irreducible] ACallsTo ACallsP
def sgC(n:Int)(r:Hash)(i:Int)(s:List UInt8)(x:AV):List AV:= .int .i64 n::(hc r++ [.int .i64 i,.str s,x])
@[go_sem] theorem z8 (n:Int) (r:Hash) (i:Int) (s:List UInt8) (x:AV):(sgC n r i s x).length=36:=by simp [sgC,z6]
@[go_sem] theorem sgC_0 (n:Int) (r:Hash) (i:Int) (s:List UInt8) (x:AV):(sgC n r i s x)[0]? =some (.int .i64 n):=rfl
theorem ze6(n:Int)(r:Hash)(i:Int)(s:List UInt8)(x:AV)(k:Nat):(sgC n r i s x)[33+k]? =[AV.int .i64 i,.str s,x][k]?:=by
 rw [sgC,show 33+k=(32+k)+1 by omega,List.getElem?_cons_succ,List.getElem?_append_right (by rw [z6];omega),z6,Nat.add_sub_cancel_left]
@[go_sem] theorem sgC_33 (n:Int) (r:Hash) (i:Int) (s:List UInt8) (x:AV):(sgC n r i s x)[33]? =some (.int .i64 i):=ze6 n r i s x 0
@[go_sem] theorem sgC_34 (n:Int) (r:Hash) (i:Int) (s:List UInt8) (x:AV):(sgC n r i s x)[34]? =some (.str s):=ze6 n r i s x 1
@[go_sem] theorem sgC_35 (n:Int) (r:Hash) (i:Int) (s:List UInt8) (x:AV):(sgC n r i s x)[35]? =some x:=ze6 n r i s x 2
@[go_sem] theorem sgC_all (n:Int) (r:Hash) (i:Int) (s:List UInt8) (x:AV):(sgC n r i s x).take 36=sgC n r i s x:=List.take_of_length_le (by rw [z8];decide)
@[go_sem] theorem sgC_root (n:Int) (r:Hash) (i:Int) (s:List UInt8) (x:AV):((sgC n r i s x).drop 1).take 32=hc r:=by
 rw [sgC,List.drop_succ_cons,List.drop_zero,z6x]
@[go_sem] theorem z9h (n:Int) (r:Hash) (i:Int) (s:List UInt8) (x:AV):(sgC n r i s x).take 33= .int .i64 n::hc r:=by
 rw [sgC,List.take_succ_cons,z6x]
@[go_sem] theorem sgC_seal (n:Int) (r:Hash) (i:Int) (s:List UInt8) (x:AV):((sgC n r i s x).drop 33).take 3=[.int .i64 i,.str s,x]:=by
 rw [sgC,List.drop_succ_cons,z8z];rfl
def z63(n i:Int)(s:List UInt8)(l:List Hash):Bool:=decide (0<=n/\ n<=4096/\ 0<=i/\ i<=7/\ s.length=16384/\ l.length=3)
theorem zkn(J:Store)(n i:Int)(r:Hash)(s:List UInt8)(l:List Hash)(x:AV)(hx:RdSl J 32 (hr l) x):ACallsTo TC 90 [.agg (sgC n r i s x)] J (.bool (z63 n i s l)) J:=by
 refine ACallsTo.of_body q1nok (by simp) fun hw _=> ?_
 have r1:=hx.len
 rw [z7]at r1
 unfold z1h at r1
 unfold z63
 by_cases a1:n>=0
 ·by_cases a2:n<=4096
  ·by_cases a3:i>=0
   ·by_cases a4:i<8
    ·by_cases a5:(s.length:Int)=16384
     ·by_cases a6:(l.length:Int)=3
      ·rw [decide_eq_true (by omega)]
       repeat' (first|apply zs_|apply zb_|apply zc_|apply zt_ rfl|apply zf_ rfl|(refine zd_ rfl ?_ ?_<;>intro ht<;>try omega)|((first|apply zr_|apply zk_|apply ze_|apply zq_|(apply zG<;>intro ht));all_goals try simp (disch:=first|omega|(simp only [lens,z6,z7,lQr,zx,zm,lQd,z8];first|done|omega)) only [go_sem,a1,a2,a3,a4,a5,a6,r1]))
       exact DownV.pure hw z1v
      ·rw [decide_eq_false (by omega)]
       repeat' (first|apply zs_|apply zb_|apply zc_|apply zt_ rfl|apply zf_ rfl|(refine zd_ rfl ?_ ?_<;>intro ht<;>try omega)|((first|apply zr_|apply zk_|apply ze_|apply zq_|(apply zG<;>intro ht));all_goals try simp (disch:=first|omega|(simp only [lens,z6,z7,lQr,zx,zm,lQd,z8];first|done|omega)) only [go_sem,a1,a2,a3,a4,a5,a6,r1]))
       exact DownV.pure hw z1v
     ·rw [decide_eq_false (by omega)]
      repeat' (first|apply zs_|apply zb_|apply zc_|apply zt_ rfl|apply zf_ rfl|(refine zd_ rfl ?_ ?_<;>intro ht<;>try omega)|((first|apply zr_|apply zk_|apply ze_|apply zq_|(apply zG<;>intro ht));all_goals try simp (disch:=first|omega|(simp only [lens,z6,z7,lQr,zx,zm,lQd,z8];first|done|omega)) only [go_sem,a1,a2,a3,a4,a5,r1]))
      exact DownV.pure hw z1v
    ·rw [decide_eq_false (by omega)]
     repeat' (first|apply zs_|apply zb_|apply zc_|apply zt_ rfl|apply zf_ rfl|(refine zd_ rfl ?_ ?_<;>intro ht<;>try omega)|((first|apply zr_|apply zk_|apply ze_|apply zq_|(apply zG<;>intro ht));all_goals try simp (disch:=first|omega|(simp only [lens,z6,z7,lQr,zx,zm,lQd,z8];first|done|omega)) only [go_sem,a1,a2,a3,a4,r1]))
     exact DownV.pure hw z1v
   ·rw [decide_eq_false (by omega)]
    repeat' (first|apply zs_|apply zb_|apply zc_|apply zt_ rfl|apply zf_ rfl|(refine zd_ rfl ?_ ?_<;>intro ht<;>try omega)|((first|apply zr_|apply zk_|apply ze_|apply zq_|(apply zG<;>intro ht));all_goals try simp (disch:=first|omega|(simp only [lens,z6,z7,lQr,zx,zm,lQd,z8];first|done|omega)) only [go_sem,a1,a2,a3,r1]))
    exact DownV.pure hw z1v
  ·rw [decide_eq_false (by omega)]
   repeat' (first|apply zs_|apply zb_|apply zc_|apply zt_ rfl|apply zf_ rfl|(refine zd_ rfl ?_ ?_<;>intro ht<;>try omega)|((first|apply zr_|apply zk_|apply ze_|apply zq_|(apply zG<;>intro ht));all_goals try simp (disch:=first|omega|(simp only [lens,z6,z7,lQr,zx,zm,lQd,z8];first|done|omega)) only [go_sem,a1,a2,r1]))
   exact DownV.pure hw z1v
 ·rw [decide_eq_false (by omega)]
  repeat' (first|apply zs_|apply zb_|apply zc_|apply zt_ rfl|apply zf_ rfl|(refine zd_ rfl ?_ ?_<;>intro ht<;>try omega)|((first|apply zr_|apply zk_|apply ze_|apply zq_|(apply zG<;>intro ht));all_goals try simp (disch:=first|omega|(simp only [lens,z6,z7,lQr,zx,zm,lQd,z8];first|done|omega)) only [go_sem,a1,r1]))
  exact DownV.pure hw z1v
theorem zqr(J:Store)(n i:Int)(r:Hash)(s:List UInt8)(l:List Hash)(x:AV)(hx:RdSl J 32 (hr l) x):ACallsTo TC 96 [.agg (sgC n r i s x)] J (.bool (z63 n i s l)) J:=by
 refine ACallsTo.of_body q1qok (by simp) fun hw _=> ?_
 have r1:=hx.len
 rw [z7]at r1
 unfold z1h at r1
 unfold z63
 by_cases a1:n>=0
 ·by_cases a2:n<=4096
  ·by_cases a3:i>=0
   ·by_cases a4:i<=7
    ·by_cases a5:(s.length:Int)=16384
     ·by_cases a6:(l.length:Int)=3
      ·rw [decide_eq_true (by omega)]
       repeat' (first|apply zs_|apply zb_|apply zc_|apply zt_ rfl|apply zf_ rfl|(refine zd_ rfl ?_ ?_<;>intro ht<;>try omega)|((first|apply zr_|apply zk_|apply ze_|apply zq_|(apply zG<;>intro ht));all_goals try simp (disch:=first|omega|(simp only [lens,z6,z7,lQr,zx,zm,lQd,z8];first|done|omega)) only [go_sem,a1,a2,a3,a4,a5,a6,r1]))
       exact DownV.pure hw z1v
      ·rw [decide_eq_false (by omega)]
       repeat' (first|apply zs_|apply zb_|apply zc_|apply zt_ rfl|apply zf_ rfl|(refine zd_ rfl ?_ ?_<;>intro ht<;>try omega)|((first|apply zr_|apply zk_|apply ze_|apply zq_|(apply zG<;>intro ht));all_goals try simp (disch:=first|omega|(simp only [lens,z6,z7,lQr,zx,zm,lQd,z8];first|done|omega)) only [go_sem,a1,a2,a3,a4,a5,a6,r1]))
       exact DownV.pure hw z1v
     ·rw [decide_eq_false (by omega)]
      repeat' (first|apply zs_|apply zb_|apply zc_|apply zt_ rfl|apply zf_ rfl|(refine zd_ rfl ?_ ?_<;>intro ht<;>try omega)|((first|apply zr_|apply zk_|apply ze_|apply zq_|(apply zG<;>intro ht));all_goals try simp (disch:=first|omega|(simp only [lens,z6,z7,lQr,zx,zm,lQd,z8];first|done|omega)) only [go_sem,a1,a2,a3,a4,a5,r1]))
      exact DownV.pure hw z1v
    ·rw [decide_eq_false (by omega)]
     repeat' (first|apply zs_|apply zb_|apply zc_|apply zt_ rfl|apply zf_ rfl|(refine zd_ rfl ?_ ?_<;>intro ht<;>try omega)|((first|apply zr_|apply zk_|apply ze_|apply zq_|(apply zG<;>intro ht));all_goals try simp (disch:=first|omega|(simp only [lens,z6,z7,lQr,zx,zm,lQd,z8];first|done|omega)) only [go_sem,a1,a2,a3,a4,r1]))
     exact DownV.pure hw z1v
   ·rw [decide_eq_false (by omega)]
    repeat' (first|apply zs_|apply zb_|apply zc_|apply zt_ rfl|apply zf_ rfl|(refine zd_ rfl ?_ ?_<;>intro ht<;>try omega)|((first|apply zr_|apply zk_|apply ze_|apply zq_|(apply zG<;>intro ht));all_goals try simp (disch:=first|omega|(simp only [lens,z6,z7,lQr,zx,zm,lQd,z8];first|done|omega)) only [go_sem,a1,a2,a3,r1]))
    exact DownV.pure hw z1v
  ·rw [decide_eq_false (by omega)]
   repeat' (first|apply zs_|apply zb_|apply zc_|apply zt_ rfl|apply zf_ rfl|(refine zd_ rfl ?_ ?_<;>intro ht<;>try omega)|((first|apply zr_|apply zk_|apply ze_|apply zq_|(apply zG<;>intro ht));all_goals try simp (disch:=first|omega|(simp only [lens,z6,z7,lQr,zx,zm,lQd,z8];first|done|omega)) only [go_sem,a1,a2,r1]))
   exact DownV.pure hw z1v
 ·rw [decide_eq_false (by omega)]
  repeat' (first|apply zs_|apply zb_|apply zc_|apply zt_ rfl|apply zf_ rfl|(refine zd_ rfl ?_ ?_<;>intro ht<;>try omega)|((first|apply zr_|apply zk_|apply ze_|apply zq_|(apply zG<;>intro ht));all_goals try simp (disch:=first|omega|(simp only [lens,z6,z7,lQr,zx,zm,lQd,z8];first|done|omega)) only [go_sem,a1,r1]))
  exact DownV.pure hw z1v
end
section
attribute [local irreducible] ACallsTo ACallsP
end
section
attribute [local irreducible] ACallsTo ACallsP
structure Hd where
 n:Nat
 r:Hash
 i:Nat
 g:List UInt8
 l:List Hash
theorem rl_sg{k:Nat}{n i:Int}{r:Hash}{s:List UInt8}{x:AV}{e:Int}(h:RL k x):RL k (.tup [.agg (sgC n r i s x),.int .i64 e]):=by
 have h1:RLs k (sgC n r i s x):=by
  rw [sgC,RLs_iff]
  intro a ha
  simp only [List.mem_cons,List.mem_append,List.not_mem_nil,or_false]at ha
  rcases ha with rfl|ha|rfl|rfl|rfl
  ·exact z4f
  ·exact RLs_iff.1 (z6h r) a ha
  ·exact z4f
  ·exact z78
  ·exact h
 simp only [RL,RLs];exact⟨h1,trivial,trivial⟩
end
section

end
section

end
section
attribute [local irreducible] ACallsTo ACallsP
def rgC(n:Int)(r:Hash)(i:Int)(s:List UInt8)(m:Int)(x:AV):List AV:= .int .i64 n::(hc r++ [.int .i64 i,.str s,.int .i8 m,x])
@[go_sem] theorem rgC_len (n:Int) (r:Hash) (i:Int) (s:List UInt8) (m:Int) (x:AV):(rgC n r i s m x).length=37:=by simp [rgC,z6]
theorem zb5(n:Int)(r:Hash)(i:Int)(s:List UInt8)(m:Int)(x:AV)(k:Nat):(rgC n r i s m x)[33+k]? =[AV.int .i64 i,.str s,.int .i8 m,x][k]?:=by
 rw [rgC,show 33+k=(32+k)+1 by omega,List.getElem?_cons_succ,List.getElem?_append_right (by rw [z6];omega),z6,Nat.add_sub_cancel_left]
@[go_sem] theorem rgC_33 (n:Int) (r:Hash) (i:Int) (s:List UInt8) (m:Int) (x:AV):(rgC n r i s m x)[33]? =some (.int .i64 i):=zb5 n r i s m x 0
@[go_sem] theorem rgC_34 (n:Int) (r:Hash) (i:Int) (s:List UInt8) (m:Int) (x:AV):(rgC n r i s m x)[34]? =some (.str s):=zb5 n r i s m x 1
@[go_sem] theorem rgC_35 (n:Int) (r:Hash) (i:Int) (s:List UInt8) (m:Int) (x:AV):(rgC n r i s m x)[35]? =some (.int .i8 m):=zb5 n r i s m x 2
@[go_sem] theorem rgC_36 (n:Int) (r:Hash) (i:Int) (s:List UInt8) (m:Int) (x:AV):(rgC n r i s m x)[36]? =some x:=zb5 n r i s m x 3
@[go_sem] theorem rgC_head (n:Int) (r:Hash) (i:Int) (s:List UInt8) (m:Int) (x:AV):(rgC n r i s m x).take 33= .int .i64 n::hc r:=by
 rw [rgC,List.take_succ_cons,z6x]
end
section
attribute [local irreducible] ACallsTo ACallsP
@[go_sem] theorem sgC_tail (n:Int) (r:Hash) (i:Int) (s:List UInt8) (x:AV):(sgC n r i s x).drop 33=[.int .i64 i,.str s,x]:=by
 rw [sgC,List.drop_succ_cons,z8z]
theorem z9i(n m:Int)(a b:Hash):z23 (.int .i64 n::hc a) (.int .i64 m::hc b)=decide (n=m/\ a=b):=by
 rw [show z23 (.int .i64 n::hc a) (.int .i64 m::hc b)=(z6v (.int .i64 n) (.int .i64 m) && z23 (hc a) (hc b))from rfl,hc_eq,Bool.eq_iff_iff]
 simp [z6v]
end
section
attribute [local irreducible] ACallsTo ACallsP
theorem z9b{k:Nat}{n i:Int}{r:Hash}{s:List UInt8}{x:AV}(h:RL k x):RLs k (sgC n r i s x):=by
 have:=rl_sg (n:=n) (i:=i) (r:=r) (s:=s) (e:=0) h
 simp only [RL,RLs]at this
 exact this.1
end
section
attribute [local irreducible] ACallsTo ACallsP
end
section
attribute [local irreducible] ACallsTo ACallsP
end
section
attribute [local irreducible] ACallsTo ACallsP
end
section
attribute [local irreducible] ACallsTo ACallsP
end
section
attribute [local irreducible] ACallsTo ACallsP
theorem z9g(n:Int)(r:Hash)(i:Int)(s:List UInt8)(x:AV):(sgC n r i s x).drop 36=[]:=List.drop_of_length_le (by rw [z8];decide)
end
section
attribute [local irreducible] ACallsTo ACallsP
def strs(L:List (List UInt8)):List (List AV):=L.map fun s=>[.str s]
theorem zh(L:List (List UInt8)):(strs L).length=L.length:=by simp [strs]
theorem z9m{L:List (List UInt8)}{i:Nat}(h:i<L.length):(strs L)[i]? =some [.str (L.getD i [])]:=by
 simp [strs,List.getElem?_map,List.getElem?_eq_getElem h]
end
section
set_option maxRecDepth 10000
@[go_sem] def q1sr0:List AIns:=[
 yI 1 (.box (.t 0)),
 yI 2 (.alloc zZ0)]
@[go_sem] def q1sr1:List AIns:=[
 yI 3 (.fa 0 (.t 1)),
 ⟨some 4,none,.rd,.load false 1 (.t 3)⟩,
 yI 5 (.conv (.int .u64) (.t 4)),
 ⟨some 6,none,.ef,.call (.v (.fn 116 [])) [(.t 5),(.v (.int .i64 8))]⟩,
 yI 7 (.bin .add .none (.v (.str [5])) (.t 6)),
 yI 8 (.fa 1 (.t 1)),
 ⟨some 9,none,.rd,.load true 32 (.t 8)⟩,
 yI 10 (.call (.v (.fn 66 [])) [(.t 9)]),
 yI 11 (.bin .add .none (.t 7) (.t 10)),
 yI 12 (.call (.v (.fn 86 [])) [(.t 11)]),
 ⟨none,none,.no,.store 32 (.t 2) (.t 12)⟩]
def q1sc2:ACode:= .seq (.reg q1sr1) .ret
def q1sc3:ACode:= .seq (.reg q1sr0) q1sc2
theorem q1sok:cFn TC 84=some (13,[.c 2 true 32],q1sc3):=by kernel_rfl
@[go_sem] def q1tr0:List AIns:=[
 yI 2 (.box (.t 0)),
 yI 3 (.box (.t 1)),
 yI 4 (.mv (.v (.int .i64 0)))]
@[go_sem] def q1tr1:List AIns:=[
 yI 5 (.load true 36 (.t 3)),
 yI 6 (.call (.v (.fn 96 [])) [(.t 5)]),
 yI 7 (.un .not (.t 6))]
@[go_sem] def q1tr2:List AIns:=[
 yI 4 (.mv (.v (.int .i64 2)))]
def q1tc3:ACode:= .seq (.reg q1tr2) .ret
def q1tc4:ACode:= .cond (.t 7) q1tc3 .skip
def q1tc5:ACode:= .seq (.reg q1tr1) q1tc4
@[go_sem] def q1tr6:List AIns:=[
 ⟨some 8,none,.rd,.load true 32 (.t 2)⟩,
 yI 9 (.fa 0 (.t 3)),
 ⟨some 10,none,.rd,.load true 33 (.t 9)⟩,
 ⟨some 11,none,.ef,.call (.v (.fn 84 [])) [(.t 10)]⟩,
 yI 12 (.fa 33 (.t 3)),
 ⟨some 13,none,.rd,.load true 3 (.t 12)⟩,
 yI 14 (.call (.v (.fn 97 [])) [(.t 8),(.t 11),(.t 13)]),
 yI 15 (.bin .neq .none (.t 14) (.v (.int .i64 0)))]
@[go_sem] def q1tr7:List AIns:=[
 yI 4 (.mv (.v (.int .i64 81)))]
def q1tc8:ACode:= .seq (.reg q1tr7) .ret
def q1tc9:ACode:= .cond (.t 15) q1tc8 .skip
def q1tc10:ACode:= .seq (.reg q1tr6) q1tc9
@[go_sem] def q1tr11:List AIns:=[
 yI 4 (.mv (.v (.int .i64 0)))]
def q1tc12:ACode:= .seq (.reg q1tr11) .ret
def q1tc13:ACode:= .seq q1tc10 q1tc12
def q1tc14:ACode:= .seq q1tc5 q1tc13
def q1tc15:ACode:= .seq (.reg q1tr0) q1tc14
theorem q1tok:cFn TC 47=some (16,[.t 4],q1tc15):=by kernel_rfl
@[go_sem] def q1ur0:List AIns:=[
 yI 2 (.box (.t 0)),
 yI 3 (.box (.t 1)),
 yI 4 (.mv (.v (.bool false)))]
@[go_sem] def q1ur1:List AIns:=[
 yI 6 (.fa 0 (.t 2)),
 yI 7 (.load true 33 (.t 6)),
 yI 8 (.fa 0 (.t 3)),
 yI 9 (.load true 33 (.t 8)),
 yI 10 (.bin .neq (.agg ([(.i .i64)]++(List.replicate 32 (.i .u8)++ []))) (.t 7) (.t 9)),
 yM 11 10,
 yG 12 11 false (.fa 33 (.t 2)),
 yG 13 11 false (.fa 0 (.t 12)),
 yG 14 11 false (.load false 1 (.t 13)),
 yG 15 11 false (.fa 33 (.t 3)),
 yG 16 11 false (.fa 0 (.t 15)),
 yG 17 11 false (.load false 1 (.t 16)),
 yG 18 11 false (.bin .neq .none (.t 14) (.t 17)),
 yI 19 (.pick (.t 11) (.v (.bool true)) (.t 18)),
 yM 20 19,
 yG 21 20 false (.fa 33 (.t 2)),
 yG 22 20 false (.fa 1 (.t 21)),
 yG 23 20 false (.load false 1 (.t 22)),
 yG 24 20 false (.fa 33 (.t 3)),
 yG 25 20 false (.fa 1 (.t 24)),
 yG 26 20 false (.load false 1 (.t 25)),
 yG 27 20 false (.bin .neq .none (.t 23) (.t 26)),
 yI 28 (.pick (.t 20) (.v (.bool true)) (.t 27)),
 yM 29 28,
 yG 30 29 false (.fa 33 (.t 2)),
 yG 31 29 false (.fa 2 (.t 30)),
 yG 32 29 false (.load false 1 (.t 31)),
 yG 33 29 false (.lenSl (.t 32)),
 yG 34 29 false (.fa 33 (.t 3)),
 yG 35 29 false (.fa 2 (.t 34)),
 yG 36 29 false (.load false 1 (.t 35)),
 yG 37 29 false (.lenSl (.t 36)),
 yG 38 29 false (.bin .neq .none (.t 33) (.t 37)),
 yI 39 (.pick (.t 29) (.v (.bool true)) (.t 38))]
@[go_sem] def q1ur2:List AIns:=[
 yI 4 (.mv (.v (.bool false)))]
def q1uc3:ACode:= .seq (.reg q1ur2) .ret
def q1uc4:ACode:= .cond (.t 39) q1uc3 .skip
def q1uc5:ACode:= .seq (.reg q1ur1) q1uc4
@[go_sem] def q1ur6:List AIns:=[
 yI 5 (.mv (.v (.int .i64 0)))]
@[go_sem] def q1ur7:List AIns:=[
 yM 40 5,
 yI 41 (.fa 33 (.t 2)),
 yI 42 (.fa 2 (.t 41)),
 yI 43 (.load false 1 (.t 42)),
 yI 44 (.lenSl (.t 43)),
 yI 45 (.bin .lss .none (.t 40) (.t 44))]
def q1uc8:ACode:= .cond (.t 45) .skip (.exit 0)
def q1uc9:ACode:= .seq (.reg q1ur7) q1uc8
@[go_sem] def q1ur10:List AIns:=[
 yI 48 (.fa 33 (.t 2)),
 yI 49 (.fa 2 (.t 48)),
 ⟨some 50,none,.rd,.load false 1 (.t 49)⟩,
 yM 51 5,
 yI 52 (.iaSl 32 (.t 50) (.t 51)),
 ⟨some 53,none,.rd,.load true 32 (.t 52)⟩,
 yI 54 (.fa 33 (.t 3)),
 yI 55 (.fa 2 (.t 54)),
 ⟨some 56,none,.rd,.load false 1 (.t 55)⟩,
 yM 57 5,
 yI 58 (.iaSl 32 (.t 56) (.t 57)),
 ⟨some 59,none,.rd,.load true 32 (.t 58)⟩,
 yI 60 (.bin .neq (.agg (List.replicate 32 (.i .u8)++ [])) (.t 53) (.t 59))]
@[go_sem] def q1ur11:List AIns:=[
 yI 4 (.mv (.v (.bool false)))]
def q1uc12:ACode:= .seq (.reg q1ur11) .ret
def q1uc13:ACode:= .cond (.t 60) q1uc12 .skip
def q1uc14:ACode:= .seq (.reg q1ur10) q1uc13
@[go_sem] def q1ur15:List AIns:=[
 yM 46 5,
 yI 47 (.bin .add .none (.t 46) (.v (.int .i64 1))),
 yM 5 47]
def q1uc16:ACode:= .seq (.block 1 q1uc14) (.reg q1ur15)
def q1uc17:ACode:= .seq q1uc9 q1uc16
def q1uc18:ACode:= .loop q1uc17
def q1uc19:ACode:= .block 0 q1uc18
def q1uc20:ACode:= .seq (.reg q1ur6) q1uc19
@[go_sem] def q1ur21:List AIns:=[
 yI 4 (.mv (.v (.bool true)))]
def q1uc22:ACode:= .seq (.reg q1ur21) .ret
def q1uc23:ACode:= .seq q1uc20 q1uc22
def q1uc24:ACode:= .seq q1uc5 q1uc23
def q1uc25:ACode:= .seq (.reg q1ur0) q1uc24
theorem q1uok:cFn TC 20=some (61,[.t 4],q1uc25):=by kernel_rfl
end
end Am
end Go.Proofs.YtfldkpghggbdkaaGreatDoor
