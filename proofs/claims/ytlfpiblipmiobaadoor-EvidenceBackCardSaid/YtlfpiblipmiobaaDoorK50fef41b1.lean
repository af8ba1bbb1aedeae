import Derived.Test.YtlfpiblipmiobaaDoorK4c346cb8d
import Derived.Test.YtlfpiblipmiobaaDoorK219f0081f
import Derived.Test.YtlfpiblipmiobaaDoorRows
import Derived.Test.YtlfpiblipmiobaaDoorCards
import Derived.Test.YtlfpiblipmiobaaDoorTie
import Derived.ProofKit
import Derived.LaidMore
import Derived.OpenShut
import Derived.Stop.Joined
import Derived.SevenTiedAt
import Derived.MakeChecks
set_option linter.unusedSimpArgs false
set_option linter.unusedVariables false
open Nat (reduceEqDiff reduceAdd reduceMul reduceSub reduceLeDiff)
open Int (reduceToNat reducePow)
open Nat renaming reduceEqDiff -> nQ1, reduceBEq -> nQ2, reduceAdd -> nQ3, reduceMul -> nQ4, reduceSub -> nQ5, reduceLeDiff -> nQ6
open Int renaming reduceToNat -> nQ7, reducePow -> nQ8
open List renaming length_reverse -> lQr, length_map -> lQm, length_take -> lQt, length_drop -> lQd, length_set -> lQs
set_option maxHeartbeats 16000000
attribute [local go_sem_proc] Nat.reduceEqDiff Nat.reduceBEq Nat.reduceAdd Nat.reduceMul Nat.reduceSub Nat.reduceLeDiff Int.reduceToNat Int.reducePow
namespace Go.Proofs.YtlfpiblipmiobaaDoor
namespace Am
section
def zHd:Hdr:=⟨0,zeroH,0,[],[]⟩
def adS(key:Hash)(now:Option Hdr)(fd:AV):List AV:=adC key now.isSome (now.getD zHd).n (now.getD zHd).r (now.getD zHd).i (now.getD zHd).s (zm 32 (hr (now.getD zHd).p)) fd
def evC(k:Int)(a b:Hdr):List AV:=.int .i64 k::(hdrC a++(hdrC b++(hc zeroH++ [.nilsl])))
def FdAt(O:Store)(fv:AV)(fd:Option (Hdr × Hdr))(own:List Nat):Prop:=(fd=none/\ fv=.nilp/\ own=[]) \/ ∃a b q,fd=some (a,b)/\ fv=.ptr q 0 0/\ own=[q]/\ O[q]? =some (some [evC 1 a b])
theorem FdAt.keep{O O':Store}{fv:AV}{fd:Option (Hdr × Hdr)}{own:List Nat}(h:FdAt O fv fd own)(hk:∀j,j ∈ own->O'[j]? =O[j]?):FdAt O' fv fd own:=by
 rcases h with h| ⟨a,b,q,e1,e2,rfl,hg⟩
 ·exact .inl h
 ·exact .inr ⟨a,b,q,e1,e2,rfl,by rw [hk q (by simp)];exact hg⟩
theorem FdAt.lt{O:Store}{fv:AV}{fd:Option (Hdr × Hdr)}{own:List Nat}(h:FdAt O fv fd own){j:Nat}(hj:j ∈ own):j<O.length:=by
 rcases h with⟨_,_,rfl⟩| ⟨a,b,q,e1,e2,rfl,hg⟩
 ·cases hj
 ·simp only [List.mem_singleton]at hj;subst hj;exact slen hg
def AudIs(O:Store)(p:Nat)(key:Hash)(now:Option Hdr)(fd:Option (Hdr × Hdr))(own:List Nat):Prop:=
 ∃fv fo,own=p::fo/\ O[p]? =some (some [adS key now fv])/\ FdAt O fv fd fo
theorem AudIs.lt{O:Store}{p:Nat}{key:Hash}{now:Option Hdr}{fd:Option (Hdr × Hdr)}{own:List Nat}(h:AudIs O p key now fd own){j:Nat}(hj:j ∈ own):j<O.length:=by
 obtain⟨fv,fo,rfl,hg,hf⟩:=h
 rcases List.mem_cons.1 hj with rfl|hj
 ·exact slen hg
 ·exact hf.lt hj
theorem AudIs.keep{O O':Store}{p:Nat}{key:Hash}{now:Option Hdr}{fd:Option (Hdr × Hdr)}{own:List Nat}(h:AudIs O p key now fd own)(hk:∀j,j ∈ own->O'[j]? =O[j]?):AudIs O' p key now fd own:=by
 obtain⟨fv,fo,rfl,hg,hf⟩:=h
 exact⟨fv,fo,rfl,by rw [hk p (by simp)];exact hg,hf.keep fun j hj=>hk j (by simp [hj])⟩
theorem AudIs.ext{O O':Store}{p:Nat}{key:Hash}{now:Option Hdr}{fd:Option (Hdr × Hdr)}{own:List Nat}(h:AudIs O p key now fd own)(he:Ext O O'):AudIs O' p key now fd own:=by
 obtain⟨y,rfl⟩:=he
 exact h.keep fun j hj=>gapp (h.lt hj)
def adE(key:Hash)(now:Option Hdr)(s:Hdr)(pf:List Hash):Int:=
 if z4f key s.n s.i s.r s.s s.p ≠ 0 then 0 else match now with
  |none=>1
  |some w=>if ordI s.n w.n s.r w.r=1 then 3 else if ordI s.n w.n s.r w.r=3 then 6
   else if ordI s.n w.n s.r w.r=0 then(if chkH s.n w.n s.r w.r pf=0 then 4 else 5)
   else(if chkH w.n s.n w.r s.r pf=0 then 2 else 5)
def adN(key:Hash)(now:Option Hdr)(s:Hdr)(pf:List Hash):Option Hdr:=if adE key now s pf=1 \/adE key now s pf=2 then some s else now
def adF(key:Hash)(now:Option Hdr)(fd:Option (Hdr × Hdr))(s:Hdr)(pf:List Hash):Option (Hdr × Hdr):=if adE key now s pf=6 then some (fd.getD (now.getD zHd,s))else fd
def AHeadP(O:Store)(p:Nat)(key:Hash)(now:Option Hdr)(fd:Option (Hdr × Hdr))(own:List Nat)(s:Hdr)(pf:List Hash)(a:AV)(O':Store):Prop:=
 a=.int .i64 (adE key now s pf)/\ ∃own',Fr O O' own own'/\ AudIs O' p key (adN key now s pf) (adF key now fd s pf) own'
theorem AHeadP.ext{O O':Store}{p:Nat}{key:Hash}{now:Option Hdr}{fd:Option (Hdr × Hdr)}{own:List Nat}{s:Hdr}{pf:List Hash}{e:Int}(hT:AudIs O p key now fd own)(he:adE key now s pf=e)(h:e ≠ 1/\ e ≠ 2/\ e ≠ 6)(hx:Ext O O'):AHeadP O p key now fd own s pf (.int .i64 e) O':=by
 subst he
 refine⟨rfl,own,.ext hx,?_⟩
 unfold adN adF
 rw [if_neg (by omega),if_neg h.2.2]
 exact hT.ext hx
theorem zmw(key:Hash)(now:Option Hdr)(fd:AV):(adS key now fd).length=71:=zmt _ _ _ _ _ _ _ _
theorem zoc(k:Int)(a b:Hdr):(evC k a b).length=106:=by simp [evC,z3b,z6]
theorem FdAt.ne{O:Store}{p:Nat}{key:Hash}{now:Option Hdr}{fv fv':AV}{fd:Option (Hdr × Hdr)}{fo:List Nat}(h:FdAt O fv fd fo)(hg:O[p]? =some (some [adS key now fv'])):p ∉ fo:=by
 rcases h with⟨_,_,rfl⟩| ⟨a,b,q,e1,e2,rfl,hq⟩
 ·simp
 ·intro hm
  simp only [List.mem_singleton]at hm
  exact za0 hg hq (a:=adS key now fv') (b:=evC 1 a b) rfl rfl (by rw [zmw,zoc];omega) hm
theorem AHeadP.now{O O':Store}{p:Nat}{key:Hash}{now:Option Hdr}{fd:Option (Hdr × Hdr)}{fv:AV}{fo:List Nat}{s:Hdr}{pf:List Hash}{e:Int}(hg:O[p]? =some (some [adS key now fv]))(hf:FdAt O fv fd fo)(he:adE key now s pf=e)(h:e=1 \/e=2)
  (hg':O'[p]? =some (some [adS key (some s) fv])) (hle:O.length<=O'.length) (hst:∀j,j<O.length->j ≠ p->O'[j]? =O[j]?):AHeadP O p key now fd (p::fo) s pf (.int .i64 e) O':=by
 subst he
 have hp:=hf.ne hg
 refine⟨rfl,p::fo,⟨fun j hj hn=>hst j hj (fun e=>hn (by simp [e])),fun j hj=> .inl hj,hle⟩,fv,fo,rfl,?_,?_⟩
 ·unfold adN;rw [if_pos h];exact hg'
 ·unfold adF;rw [if_neg (by omega)]
  exact hf.keep fun j hj=>hst j (hf.lt hj) fun e=>hp (by rw [<-e];exact hj)
theorem AHeadP.fork{O O':Store}{p q:Nat}{key:Hash}{w s:Hdr}{pf:List Hash}(hg:O[p]? =some (some [adS key (some w) .nilp]))(he:adE key (some w) s pf=6)
  (hg':O'[p]? =some (some [adS key (some w) (.ptr q 0 0)])) (hq:O'[q]? =some (some [evC 1 w s])) (hqn:O.length<=q) (hle:O.length<=O'.length) (hst:∀j,j<O.length->j ≠ p->O'[j]? =O[j]?):AHeadP O p key (some w) none [p] s pf (.int .i64 6) O':=by
 refine⟨by rw [he],[p,q],⟨fun j hj hn=>hst j hj (fun e=>hn (by simp [e])),fun j hj=> ?_,hle⟩,.ptr q 0 0,[q],rfl,?_,?_⟩
 ·simp only [List.mem_cons,List.not_mem_nil,or_false]at hj ⊢
  rcases hj with h|h
  ·exact .inl h
  ·exact .inr (by omega)
 ·unfold adN;rw [he,if_neg (by omega)];exact hg'
 ·unfold adF;rw [he,if_pos rfl]
  exact .inr ⟨w,s,q,rfl,rfl,rfl,hq⟩
theorem AHeadP.forked{O O':Store}{p:Nat}{key:Hash}{now:Option Hdr}{fd:Option (Hdr × Hdr)}{own:List Nat}{s:Hdr}{pf:List Hash}(hT:AudIs O p key now fd own)(hfd:fd ≠ none)(he:adE key now s pf=6)(hx:Ext O O'):AHeadP O p key now fd own s pf (.int .i64 6) O':=by
 refine⟨by rw [he],own,.ext hx,?_⟩
 unfold adN adF
 rw [he,if_neg (by omega),if_pos rfl]
 cases fd with
 |none=>exact absurd rfl hfd
 |some f=>exact hT.ext hx
theorem AHeadP.is{O:Store}{p:Nat}{key:Hash}{now:Option Hdr}{fd:Option (Hdr × Hdr)}{own:List Nat}{s:Hdr}{pf:List Hash}(hT:AudIs O p key now fd own):∃a O',AHeadP O p key now fd own s pf a O':=by
 have hT':=hT
 obtain⟨fv,fo,rfl,hg,hf⟩:=hT
 have d:=slen hg
 by_cases h1:adE key now s pf=1 \/adE key now s pf=2
 ·exact⟨_,O.set p (some [adS key (some s) fv]),.now hg hf rfl h1 (z3a d) (by simp) fun j hj hjp=>z1d (fun e=>hjp e.symm)⟩
 ·by_cases h6:adE key now s pf=6
  ·rcases hf with⟨rfl,rfl,rfl⟩| ⟨a,b,q,rfl,_⟩
   ·cases now with
    |none=>unfold adE at h6;split at h6<;>simp at h6
    |some w=>
     refine⟨_,(O.set p (some [adS key (some w) (.ptr O.length 0 0)]))++ [some [evC 1 w s]],.fork (q:=O.length) hg h6 ?_ ?_ (Nat.le_refl _) (by simp) fun j hj hjp=> ?_⟩
     ·rw [gapp (by simpa using d),z3a d]
     ·rw [z2m (by simp)];simp
     ·rw [gapp (by simpa using hj),z1d (fun e=>hjp e.symm)]
   ·exact⟨_,O,.forked hT' (by simp) h6 (.refl _)⟩
  ·exact⟨_,O,.ext hT' rfl ⟨by omega,by omega,h6⟩ (.refl _)⟩
end
section
attribute [local irreducible] ACallsTo ACallsP
end
section
def logS:List UInt8:=[108,111,103]
attribute [local irreducible] ACallsTo ACallsP
theorem zmc(O:Store)(L:List (List (List UInt8)))(es:List (List AV))(ex:Bool):ACallsTo TC 12 [.vsl 1 es ex] O (.agg [.ptr (O.length+1) 0 0,.vsl 1 es ex]) (O++ [some [[.ptr (O.length+1) 0 0,.vsl 1 es ex]],some [z1l true logS (keyL logS)]]):=by
 have hN:=fun O=>zqm O logS (by simp [logS])
 rw [show logS=[108,111,103]from rfl]at*
 refine ACallsTo.of_body_keep q1sok (by simp) ?_
 repeat' (first|apply zs_|apply zb_|apply zc_|apply zt_ rfl|apply zf_ rfl|(apply zd_ rfl<;>intro ht<;>try omega)|((first|apply zr_|apply zk_|apply ze_|apply zq_|(apply callW.mk_pu;(first|exact(fun _=>hN _)))|(apply callW.za;(first|exact(hN _)))|(apply zG<;>intro ht));all_goals try simp (disch:=first|omega|(simp only [lens,z6,z7,lQr,lQm,lQt,lQd,z8,z1u,z3k,z3b];first|done|omega)) only [go_sem,z6h]))
theorem zmb(O:Store)(L:List (List UInt8))(y:AV)(hy:SlV 1 (strs L) y)(hL:∀s ∈ L,s.length<1000000)(hl:L.length<1000000):ACallsTo TC 13 [y] O (zm 32 (hr (lvs L))) O:=by
 have r1:=hy.len
 rw [z1u]at r1
 unfold z1j at r1
 refine ACallsTo.of_body q1uok (by simp) fun hw _=> ?_
 repeat' (first|apply zs_|apply zb_|apply zc_|apply zt_ rfl|apply zf_ rfl|(apply zd_ rfl<;>intro ht<;>try omega)|((first|apply zr_|apply zk_|apply ze_|apply zq_|(apply zG<;>intro ht));all_goals try simp (disch:=first|omega|(simp only [lens,z6,z7,lQr,lQm,lQt,lQd,z8,z1u,z3k,z3b];first|done|omega)) only [go_sem,r1]))
 refine zW.loop (fun m J O'=>∃(i:Nat) (v:AV),m+i=L.length/\ OwnN 32 O O' v (hr (lvs (L.take i)))/\ J 0=y/\ J 3=v/\ J 4=.int .i64 i) L.length ?_ ?_
 ·refine⟨0,.nilsl,by omega,?_,by simp (disch:=first|omega|(simp only [lens,z6,z7,lQr,lQm,lQt,lQd,z8,z1u,z3k,z3b];first|done|omega)) only [go_sem],by simp (disch:=first|omega|(simp only [lens,z6,z7,lQr,lQm,lQt,lQd,z8,z1u,z3k,z3b];first|done|omega)) only [go_sem],by simp (disch:=first|omega|(simp only [lens,z6,z7,lQr,lQm,lQt,lQd,z8,z1u,z3k,z3b];first|done|omega)) only [go_sem];rfl⟩
  exact⟨[],by simp,.inl ⟨by simp [lvs,hr],rfl⟩⟩
 ·rintro m J O' ⟨i,v,hm,hO,q0,q3,q4⟩
  by_cases hi:i<L.length
  ·obtain⟨ex,rfl⟩:=hy.vsl (by rw [z1u];omega)
   have hg:=zur hi
   have hLf:=fun O=>zt1 O (stD L i) (by have:=hL _ (zue hi);omega)
   obtain⟨v',O2,ha,hO2⟩:=hO.app (ys:=[hc (lfH (stD L i))]) (by simp) (by rw [z7,z3k,List.length_take];simp;omega)
   have hcat:hr (lvs (L.take i))++ [hc (lfH (stD L i))]=hr (lvs (L.take (i+1))):=by rw [zv0 hi];simp [lvs,hr]
   rw [hcat]at hO2
   rw [show L.getD i []=stD L i from rfl]at hg
   generalize stD L i=s at*
   repeat' (first|apply zs_|apply zb_|apply zc_|apply zt_ rfl|apply zf_ rfl|(apply zd_ rfl<;>intro ht<;>try omega)|((first|apply zr_|apply zk_|apply ze_|apply zq_|(apply callW.mk_pu;(first|exact(fun _=>hLf _)))|(apply callW.za;(first|exact(hLf _)))|(apply zG<;>intro ht));all_goals try simp (disch:=first|omega|(simp only [lens,z6,z7,lQr,lQm,lQt,lQd,z8,z1u,z3k,z3b];first|done|omega)) only [go_sem,q0,q3,q4,hg,r1,ha]))
   exact⟨m-1,by omega,i+1,v',by omega,hO2,by simp⟩
  ·obtain rfl:i=L.length:=by omega
   rw [List.take_of_length_le (Nat.le_refl _)]at hO
   repeat' (first|apply zs_|apply zb_|apply zc_|apply zt_ rfl|apply zf_ rfl|(apply zd_ rfl<;>intro ht<;>try omega)|((first|apply zr_|apply zk_|apply ze_|apply zq_|(apply zG<;>intro ht));all_goals try simp (disch:=first|omega|(simp only [lens,z6,z7,lQr,lQm,lQt,lQd,z8,z1u,z3k,z3b];first|done|omega)) only [go_sem,q0,q3,q4,r1]))
   exact hO.froze hw (z27 _)
theorem zg9(O:Store)(t:Nat)(seed:List UInt8)(L:List (List UInt8))(ex:Bool)(n k:Nat)(a:Int)(hk:z16 .and .i64 a 7=some (.int .i64 (k:Nat)))(hk8:k<8)(hn:n<=L.length)(ht:O[t]? =some (some [z1l true seed (keyL seed)]))(hs:seed.length<1000000)(hL:∀s ∈ L,s.length<1000000)(hl:L.length<1000000):
  ACallsTo TC 15 [.agg [.ptr t 0 0,.vsl 1 (strs L) ex],.int .i64 n,.int .i64 a] O (.agg (hdrC (mkH seed k (L.take n)))) O:=by
 have d:=slen ht
 have hLv:=fun O b=>zmb O (L.take n) (.vsl 1 (strs (L.take n)) b) (.inr ⟨b,rfl⟩) (fun s hs=>hL s (List.mem_of_mem_take hs)) (by rw [List.length_take];omega)
 have hRt:=fun O=>zt3 O (lvs (L.take n)) (zm 32 (hr (lvs (L.take n)))) (.of (z6u _ _)) (by rw [z3k,List.length_take];omega)
 have hD:=fun O=>zt0 O (n:Int) (z1b (lvs (L.take n)))
 have hS:=fun y=>zv6 (O++y) t seed (keyL seed) k (digH n (z1b (lvs (L.take n)))) (by rw [gapp d];exact ht) (z3j seed) hk8 hs
 have hm:hdrC (mkH seed k (L.take n))=sgC n (z1b (lvs (L.take n))) k (ksgS seed k (digH n (z1b (lvs (L.take n)))).1) (zm 32 (hr (z1o (keyL seed) k))):=by
  unfold mkH hdrC
  simp only [List.length_take,Nat.min_eq_left hn]
 rw [hm]
 have hrl:RLs O.length (sgC n (z1b (lvs (L.take n))) k (ksgS seed k (digH n (z1b (lvs (L.take n)))).1) (zm 32 (hr (z1o (keyL seed) k)))):=z6p (z7o (z27 _))
 unfold zex at hS
 generalize z1b (lvs (L.take n))=R at*
 generalize hsig:ksgS seed k (digH n R).1=sig at*
 generalize z1o (keyL seed) k=PH at*
 generalize digH n R=dg at*
 refine ACallsTo.of_body q1tok (by simp) fun hw _=> ?_
 repeat' (first|apply zs_|apply zb_|apply zc_|apply zt_ rfl|apply zf_ rfl|(apply zd_ rfl<;>intro ht<;>try omega)|((first|apply zr_|apply zk_|apply ze_|apply zq_|(apply callW.mk_pu;(first|exact(fun _=>hLv _ _)|exact(fun _=>hRt _)|exact(fun _=>hD _)))|(apply callW.za;(first|exact(hLv _ _)|exact(hRt _)|exact(hD _)))|(apply zG<;>intro ht));all_goals try simp (disch:=first|omega|(simp only [lens,z6,z7,lQr,lQm,lQt,lQd,z8,z1u,z3k,z3b];first|done|omega)) only [go_sem,hk,Int.toNat_natCast,zut,zf0]))
 refine callW.mk_pu2 (caps:=[]) (hS _) (fun h hh=>hh.elim) ?_
 simp (disch:=first|omega|(simp only [lens,z6,z7,lQr,lQm,lQt,lQd,z8,z1u,z3k,z3b];first|done|omega)) only [go_sem,hS,List.append_nil,zf0]
 repeat' (first|apply zs_|apply zb_|apply zc_|apply zt_ rfl|apply zf_ rfl|(apply zd_ rfl<;>intro ht<;>try omega)|((first|apply zr_|apply zk_|apply ze_|apply zq_|(apply zG<;>intro ht));all_goals try simp (disch:=first|omega|(simp only [lens,z6,z7,lQr,lQm,lQt,lQd,z8,z1u,z3k,z3b];first|done|omega)) only [go_sem,zf0]))
 have e:∀(Z:List AV),Z.length=36->sgC n R k sig (zm 32 (hr PH))++(List.drop 36 (sgC n R 0 [] AV.nilsl)++List.drop (36+(List.drop 36 (sgC n R 0 [] AV.nilsl)).length) Z)=sgC n R k sig (zm 32 (hr PH)):=by
  intro Z hZ
  rw [zkp,List.nil_append,List.drop_eq_nil_of_le (by simp [hZ]),List.append_nil]
 rw [e _ rfl]
 exact Ext.pure hw ⟨_,rfl⟩ (by simp only [RL];exact hrl)
end
section
def lgA:List (List UInt8):=[[97],[98]]
def hdA:Hdr:=mkH logS 0 [[97]]
def hdB:Hdr:=mkH logS 1 [[97],[98]]
def kyA:Hash:=z1b (keyL logS)
end
section
attribute [local irreducible] ACallsTo ACallsP kyA hdA hdB logS
end
section
set_option maxRecDepth 10000

end
section
set_option maxRecDepth 10000

end
section
set_option maxRecDepth 4000
def zad:Nat->Nat->Nat
 | 0,_=>33778799
 | 1,_=>1728053248
 | 2,l=>l%8*16777216+l/8/256%256*65536+l/8%256*256+128
 | 15,_=>88
 | _,_=>0
theorem z73:∀j l,zad j l<2^64:=by
 intro j l
 unfold zad
 split<;>omega
def secG(i k:Nat):List UInt8:=[2,3,108,111,103,0,0,0,UInt8.ofNat i,UInt8.ofNat (k/256),UInt8.ofNat k,128,0,0,0,0,0,0,0,0,0,0,0,0,0,0,0,0,0,0,0,0,0,0,0,0,0,0,0,0,0,0,0,0,0,0,0,0,0,0,0,0,0,0,0,0,0,0,0,0,0,0,0,88]
theorem zkl(i k:Nat)(hi:i<8):padS (secM [108,111,103] i k)=secG i k:=by
 have e0:secM [108,111,103] i k=[2,3,108,111,103,0,0,0,UInt8.ofNat i,UInt8.ofNat (k/256),UInt8.ofNat k]:=by
  unfold secM putS z1s
  rw [if_pos (by omega),if_pos (by omega),show (4:Int).toNat=4 from rfl,show (2:Int).toNat=2 from rfl,Int.toNat_natCast,Int.toNat_natCast,be4]
  have e1:i/16777216=0:=by omega
  have e2:i/65536=0:=by omega
  have e3:i/256=0:=by omega
  rw [e1,e2,e3]
  have e4:be 2 k=[UInt8.ofNat (k/256),UInt8.ofNat k]:=by simp [be]
  have e5:numS ([108,111,103]:List UInt8).length=[3]:=rfl
  rw [e4,e5]
  rfl
 rw [e0]
 unfold padS
 have e:[2,3,108,111,103,0,0,0,UInt8.ofNat i,UInt8.ofNat (k/256),UInt8.ofNat k].length=11:=rfl
 rw [e,show (119-11%64)%64=44 from rfl,show 11*8=88 from rfl,show List.replicate 44 (0:UInt8)++be 8 88=[0,0,0,0,0,0,0,0,0,0,0,0,0,0,0,0,0,0,0,0,0,0,0,0,0,0,0,0,0,0,0,0,0,0,0,0,0,0,0,0,0,0,0,0,0,0,0,0,0,0,0,88]from by decide+kernel]
 rfl
theorem z6q(l j:Nat)(hj:j<16):zx (padS (secM [108,111,103] ((l%8:Nat):Int) ((id (l/8):Nat):Int))) j=BitVec.ofNat 32 (zad j l):=by
  rw [zkl (l%8) (id (l/8)) (Nat.mod_lt _ (by omega))]
  change zx (secG (l%8) (l/8)) j=_
  match j,hj with
  | 2, _ => exact z2x _ 2 rfl (by
      have z128:(128:UInt8).toNat=128:=rfl
      have h1:(UInt8.ofNat (l%8)).toNat=l%8%2^8:=UInt8.toNat_ofNat'
      have h2:(UInt8.ofNat (l/8/256)).toNat=l/8/256%2^8:=UInt8.toNat_ofNat'
      have h3:(UInt8.ofNat (l/8)).toNat=l/8%2^8:=UInt8.toNat_ofNat'
      have h4:zad 2 l=l%8*16777216+l/8/256%256*65536+l/8%256*256+128:=rfl
      omega)
  | 0,_=>exact z2x _ 0 rfl rfl
  | 1,_=>exact z2x _ 1 rfl rfl
  | 3,_=>exact z2x _ 3 rfl rfl
  | 4,_=>exact z2x _ 4 rfl rfl
  | 5,_=>exact z2x _ 5 rfl rfl
  | 6,_=>exact z2x _ 6 rfl rfl
  | 7,_=>exact z2x _ 7 rfl rfl
  | 8,_=>exact z2x _ 8 rfl rfl
  | 9,_=>exact z2x _ 9 rfl rfl
  | 10,_=>exact z2x _ 10 rfl rfl
  | 11,_=>exact z2x _ 11 rfl rfl
  | 12,_=>exact z2x _ 12 rfl rfl
  | 13,_=>exact z2x _ 13 rfl rfl
  | 14,_=>exact z2x _ 14 rfl rfl
  | 15,_=>exact z2x _ 15 rfl rfl
  |j+16,h=>omega
set_option maxRecDepth 100000 in
theorem z6g:S8.beq (zbn zad) 1320835449206203866968076020261438702849544712518655694594726786435725497492055048555651861447073614291391284224593337609353361163864314234628065 2013796147878520090777087847541815710076959536117237416500479438883090368637474608574000615118968184963559477138501976632380654710688406745170962 764677164750291394651456146995311753182295554811497401143325479492167841979218991961787130411770669366995379369167074185438647288952392840850119 2820532317304250986185441863165357658723354557117661337876442221713392596583902174695393914508297141563107553324167067054064426302871453685465301 4288889241354956728289634705347294290886559619521404258259498530673754312111797092585911532674921074801148668119997317565658285810729428459978 1532455314960756290783695641016176468105767434538854070937505973105784005677135635410655906952828073783636638650614393447809143328208428770758431 2436926052602706423628281069676967468239015793754056925121058134370771685922224871690994533947280866332420918801877964605410961094719201329583076 2213900926502513227729612905972299321349082970510711465694822006630624413376917535197471595075019592482578544502151732206519080708072907146844930=true:=by decide+kernel
theorem z6l:z7v [108,111,103]:=fun i k hi=>by rw [zkl i k hi];rfl
theorem z6m(i:Nat):pubH [108,111,103] i=pubS [108,111,103] id i:=rfl
def kg0:List UInt8:=[112,245,103,225,125,0,196,18,184,195,42,199,35,239,64,213,83,188,33,202,136,167,143,31,228,76,147,228,13,48,219,2]
def kg1:List UInt8:=[135,101,180,93,79,81,114,205,119,129,56,115,255,106,191,177,241,221,151,178,170,61,192,111,235,227,83,106,178,100,238,83]
def kg2:List UInt8:=[10,102,171,250,54,84,240,188,26,112,123,104,235,24,77,171,169,91,78,253,147,180,146,24,140,209,58,6,197,52,216,59]
def kg3:List UInt8:=[103,180,156,23,49,165,161,209,222,241,72,94,32,115,93,137,123,165,248,108,215,211,204,216,96,200,101,74,209,228,161,226]
def kg4:List UInt8:=[47,166,43,133,212,89,81,134,209,2,48,127,187,208,93,204,118,132,84,137,196,197,80,214,239,159,209,154,85,6,60,89]
def kg5:List UInt8:=[138,196,10,114,0,35,196,139,35,160,27,92,49,58,62,159,68,188,20,150,191,169,158,67,75,8,179,43,254,242,170,207]
def kg6:List UInt8:=[64,186,91,239,47,232,114,61,67,27,206,134,187,119,47,75,215,152,249,219,54,141,80,65,46,53,43,110,228,165,46,238]
def kg7:List UInt8:=[108,80,199,32,165,36,90,108,62,181,37,42,231,76,117,85,0,90,9,200,125,171,99,245,199,215,69,216,181,141,57,182]
theorem lg0:(z22 (pubH [108,111,103] ((0:Nat):Int))).1=kg0:=by rw [z6m,z6i [108,111,103] id z6l z6q z73 z6g 0 (by omega)];decide+kernel
theorem lg1:(z22 (pubH [108,111,103] ((1:Nat):Int))).1=kg1:=by rw [z6m,z6i [108,111,103] id z6l z6q z73 z6g 1 (by omega)];decide+kernel
theorem lg2:(z22 (pubH [108,111,103] ((2:Nat):Int))).1=kg2:=by rw [z6m,z6i [108,111,103] id z6l z6q z73 z6g 2 (by omega)];decide+kernel
theorem lg3:(z22 (pubH [108,111,103] ((3:Nat):Int))).1=kg3:=by rw [z6m,z6i [108,111,103] id z6l z6q z73 z6g 3 (by omega)];decide+kernel
theorem lg4:(z22 (pubH [108,111,103] ((4:Nat):Int))).1=kg4:=by rw [z6m,z6i [108,111,103] id z6l z6q z73 z6g 4 (by omega)];decide+kernel
theorem lg5:(z22 (pubH [108,111,103] ((5:Nat):Int))).1=kg5:=by rw [z6m,z6i [108,111,103] id z6l z6q z73 z6g 5 (by omega)];decide+kernel
theorem lg6:(z22 (pubH [108,111,103] ((6:Nat):Int))).1=kg6:=by rw [z6m,z6i [108,111,103] id z6l z6q z73 z6g 6 (by omega)];decide+kernel
theorem lg7:(z22 (pubH [108,111,103] ((7:Nat):Int))).1=kg7:=by rw [z6m,z6i [108,111,103] id z6l z6q z73 z6g 7 (by omega)];decide+kernel
theorem rt_g:z1k (z1k (z1k kg0 kg1) (z1k kg2 kg3)) (z1k (z1k kg4 kg5) (z1k kg6 kg7)) ≠ 1::List.replicate 31 0:=by decide+kernel
theorem root_g(x:Hash)(hx:x.1=1::List.replicate 31 0):z1b (keyL [108,111,103]) ≠ x:=by
 obtain⟨a,b,c,d,e,f,g,h,hK,k0,k1,k2,k3,k4,k5,k6,k7⟩:∃a b c d e f g h:Hash,keyL [108,111,103]=[a,b,c,d,e,f,g,h]/\ a.1=kg0/\ b.1=kg1/\ c.1=kg2/\ d.1=kg3/\ e.1=kg4/\ f.1=kg5/\ g.1=kg6/\ h.1=kg7:=
  ⟨_,_,_,_,_,_,_,_,rfl,lg0,lg1,lg2,lg3,lg4,lg5,lg6,lg7⟩
 intro hh
 rw [hK,zet]at hh
 have h3:=congrArg Subtype.val hh
 simp only [z17]at h3
 rw [k0,k1,k2,k3,k4,k5,k6,k7,hx]at h3
 exact rt_g h3
end
section
structure Ev where
 k:Int
 a:Hdr
 b:Hdr
 r:Hash
 p:List Hash
def evZ0:Ev:=⟨0,zHd,zHd,zeroH,[]⟩
def sgX(h:Hdr)(x:AV):List AV:=sgC h.n h.r h.i h.s x
theorem zh(h:Hdr)(x:AV):(sgX h x).length=36:=z8 _ _ _ _ _
@[go_sem] theorem sgX_0 (h:Hdr) (x:AV):(sgX h x)[0]? =some (.int .i64 h.n):=rfl
@[go_sem] theorem sgX_35 (h:Hdr) (x:AV):(sgX h x)[35]? =some x:=sgC_35 _ _ _ _ _
@[go_sem] theorem sgX_all (h:Hdr) (x:AV):(sgX h x).take 36=sgX h x:=ztt _ _ _ _ _
@[go_sem] theorem zkr (h:Hdr) (x:AV):((sgX h x).drop 1).take 32=hc h.r:=ztu _ _ _ _ _
@[go_sem] theorem zkq (h:Hdr) (x:AV):(sgX h x).take 33=.int .i64 h.n::hc h.r:=zf1 _ _ _ _ _
theorem z2b(h:Hdr)(x:AV):(sgX h x).drop 36=[]:=List.drop_eq_nil_of_le (by rw [zh];omega)
def evX(e:Ev)(x y z:AV):List AV:=.int .i64 e.k::(sgX e.a x++(sgX e.b y++(hc e.r++ [z])))
def evO:List AV:=evX evZ0 .nilsl .nilsl .nilsl
theorem zi(e:Ev)(x y z:AV):(evX e x y z).length=106:=by simp [evX,zh,z6]
theorem zj:evO.length=106:=zi _ _ _ _
section
variable (e:Ev) (x y z:AV)
theorem zbc:(evX e x y z).drop 1=sgX e.a x++(sgX e.b y++(hc e.r++ [z])):=rfl
theorem evX_d2:(evX e x y z).drop 2=(sgX e.a x).drop 1++(sgX e.b y++(hc e.r++ [z])):=rfl
theorem z7c:(evX e x y z).drop 37=sgX e.b y++(hc e.r++ [z]):=by
 rw [show 37=1+36 from rfl,<-List.drop_drop,zbc,List.drop_left' (zh e.a x)]
theorem zog:(evX e x y z).drop 38=(sgX e.b y).drop 1++(hc e.r++ [z]):=by
 rw [show 38=37+1 from rfl,<-List.drop_drop,z7c];rfl
theorem zdk:(evX e x y z).drop 73=hc e.r++ [z]:=by
 rw [show 73=37+36 from rfl,<-List.drop_drop,z7c,List.drop_left' (zh e.b y)]
theorem zht:(evX e x y z).drop 105=[z]:=by
 rw [show 105=73+32 from rfl,<-List.drop_drop,zdk,z7d]
theorem zof:(evX e x y z).drop 36=x::(sgX e.b y++(hc e.r++ [z])):=by
 rw [show 36=1+35 from rfl,<-List.drop_drop,zbc];unfold sgX sgC
 rw [List.cons_append,List.drop_succ_cons,List.append_assoc,show 34=32+2 from rfl,<-List.drop_drop,z7d];rfl
theorem zoh:(evX e x y z).drop 72=y::(hc e.r++ [z]):=by
 rw [show 72=37+35 from rfl,<-List.drop_drop,z7c];unfold sgX sgC
 rw [List.cons_append,List.drop_succ_cons,List.append_assoc,show 34=32+2 from rfl,<-List.drop_drop,z7d];rfl
@[go_sem] theorem evX_0:(evX e x y z)[0]? =some (.int .i64 e.k):=rfl
@[go_sem] theorem evX_1:(evX e x y z)[1]? =some (.int .i64 e.a.n):=rfl
@[go_sem] theorem evX_36:(evX e x y z)[36]? =some x:=z6c (zof e x y z)
@[go_sem] theorem evX_37:(evX e x y z)[37]? =some (.int .i64 e.b.n):=z6c (z7c e x y z)
@[go_sem] theorem evX_72:(evX e x y z)[72]? =some y:=z6c (zoh e x y z)
@[go_sem] theorem evX_105:(evX e x y z)[105]? =some z:=z6c (zht e x y z)
@[go_sem] theorem evX_all:(evX e x y z).take 106=evX e x y z:=List.take_of_length_le (by rw [zi];omega)
theorem z1t:(evX e x y z).drop 106=[]:=List.drop_eq_nil_of_le (by rw [zi];omega)
@[go_sem] theorem evX_old:((evX e x y z).drop 1).take 36=sgX e.a x:=by rw [zbc,List.take_left' (zh e.a x)]
@[go_sem] theorem evX_new:((evX e x y z).drop 37).take 36=sgX e.b y:=by rw [z7c,List.take_left' (zh e.b y)]
@[go_sem] theorem evX_oldh:((evX e x y z).drop 1).take 33=.int .i64 e.a.n::hc e.a.r:=by
 rw [zbc,List.take_append_of_le_length (by rw [zh];omega),zkq]
@[go_sem] theorem evX_newh:((evX e x y z).drop 37).take 33=.int .i64 e.b.n::hc e.b.r:=by
 rw [z7c,List.take_append_of_le_length (by rw [zh];omega),zkq]
@[go_sem] theorem evX_oldr:((evX e x y z).drop 2).take 32=hc e.a.r:=by
 rw [evX_d2,List.take_append_of_le_length (by rw [List.length_drop,zh];omega),zkr]
@[go_sem] theorem evX_newr:((evX e x y z).drop 38).take 32=hc e.b.r:=by
 rw [zog,List.take_append_of_le_length (by rw [List.length_drop,zh];omega),zkr]
@[go_sem] theorem evX_root:((evX e x y z).drop 73).take 32=hc e.r:=by rw [zdk,z7e]
@[go_sem] theorem evX_pk (k:Int): .int .i64 k::(evX e x y z).drop 1=evX ⟨k,e.a,e.b,e.r,e.p⟩ x y z:=rfl
theorem zod:evX e x y z=(.int .i64 e.k::sgX e.a x)++(sgX e.b y++(hc e.r++ [z])):=rfl
theorem zoe:evX e x y z=(.int .i64 e.k::sgX e.a x++sgX e.b y)++(hc e.r++ [z]):=by simp [evX]
theorem zhs:evX e x y z=(.int .i64 e.k::sgX e.a x++sgX e.b y++hc e.r)++ [z]:=by simp [evX]
@[go_sem] theorem evX_sold (h:Hdr) (v:AV):(evX e x y z).take 1++(sgX h v++(evX e x y z).drop 37)=evX ⟨e.k,h,e.b,e.r,e.p⟩ v y z:=by
 rw [z7c];rfl
@[go_sem] theorem evX_snew (h:Hdr) (v:AV):(evX e x y z).take 37++(sgX h v++(evX e x y z).drop 73)=evX ⟨e.k,e.a,h,e.r,e.p⟩ x v z:=by
 rw [zdk,zod,List.take_left' (by simp [zh])];rfl
@[go_sem] theorem evX_sroot (r:Hash):(evX e x y z).take 73++(hc r++(evX e x y z).drop 105)=evX ⟨e.k,e.a,e.b,r,e.p⟩ x y z:=by
 rw [zht,zoe,List.take_left' (by simp [zh])];simp [evX]
theorem zoi(v:AV):(evX e x y z).set 105 v=evX e x y v:=by
 rw [zhs,List.set_append_right _ _ (by simp [zh,z6]),zhs];simp [zh,z6]
theorem zks(h:Hdr)(x v:AV):(sgX h x).set 35 v=sgX h v:=by
 unfold sgX sgC
 rw [List.set_cons_succ,List.set_append_right _ _ (by rw [z6];omega),z6];rfl
theorem zoj(v:AV):(evX e x y z).set 36 v=evX e v y z:=by
 unfold evX
 rw [List.set_cons_succ,List.set_append_left _ _ (by rw [zh];omega),zks]
theorem zok(v:AV):(evX e x y z).set 72 v=evX e x v z:=by
 unfold evX
 rw [List.set_cons_succ,List.set_append_right _ _ (by rw [zh];omega),zh,List.set_append_left _ _ (by rw [zh];omega),zks]
theorem zey{l:List AV}{k:Nat}{v:AV}(h:k<l.length):l.take k++v::l.drop (k+1)=l.set k v:=by
 rw [List.set_eq_take_append_cons_drop,if_pos h]
@[go_sem] theorem evX_p36 (v:AV):(evX e x y z).take 36++v::(evX e x y z).drop 37=evX e v y z:=by rw [zey (by rw [zi];omega),zoj]
@[go_sem] theorem evX_p72 (v:AV):(evX e x y z).take 72++v::(evX e x y z).drop 73=evX e x v z:=by rw [zey (by rw [zi];omega),zok]
@[go_sem] theorem zbd (v:AV):(evX e x y z).take 105++v::(evX e x y z).drop 106=evX e x y v:=by rw [zey (by rw [zi];omega),zoi]
theorem zby{n:Nat}(hx:RL n x)(hy:RL n y)(hz:RL n z):RLs n (evX e x y z):=by
 have app:∀(A B:List AV),RLs n A->RLs n B->RLs n (A++B):=by
  intro A B
  induction A with
  |nil=>intro _ h;exact h
  |cons a A ih=>intro h1 h2;simp only [List.cons_append,RLs]at h1 ⊢;exact⟨h1.1,ih h1.2 h2⟩
 unfold evX
 simp only [RLs]
 exact⟨by simp [RL],app _ _ (z6p hx) (app _ _ (z6p hy) (app _ _ (zbx _) ⟨hz,by simp [RLs]⟩))⟩
end
def evL(e:Ev):List AV:=evX e (zm 32 (hr e.a.p)) (zm 32 (hr e.b.p)) (zm 32 (hr e.p))
end
section
def za3(h:Hd):Hdr:=⟨h.n,h.r,h.i,h.g,h.l⟩
def valH(h:Hdr):Bool:=z1r h.n h.i h.s h.p
def z2f(h:Hdr):List UInt8:=putH h.n.toNat h.r h.i.toNat h.s h.p
def z7j(e:Ev):Bool:=if e.k=1 then decide (e.a.n=e.b.n/\ e.a.r ≠ e.b.r/\ e.r=zeroH/\ e.p=[])else decide (e.k=2/\ e.a.n<e.b.n/\ e.r ≠ e.a.r)
def mayB(e:Ev):Bool:=valH e.a && valH e.b && decide (e.p.length<=64) && z7j e
theorem ze3{e:Ev}(h:mayB e=true):valH e.a=true/\ valH e.b=true/\ e.p.length<=64/\ z7j e=true:=by
 unfold mayB at h
 simp only [Bool.and_eq_true,decide_eq_true_eq]at h
 exact⟨h.1.1.1,h.1.1.2,h.1.2,h.2⟩
theorem ziw{e:Ev}(h:z7j e=true):(e.k=1/\ e.r=zeroH/\ e.p=[]) \/(e.k=2):=by
 unfold z7j at h
 split at h
 ·rename_i hk
  have h:=of_decide_eq_true h
  exact .inl ⟨hk,h.2.2⟩
 ·exact .inr (of_decide_eq_true h).1
def z1p(e:Ev):List UInt8:=numS e.k.toNat++(z1s (z2f e.a)++(z1s (z2f e.b)++(if e.k=2 then e.r.1++z30 e.p else [])))
def sgnS(s:List UInt8):Option (Hdr × List UInt8):=(cutS s).bind fun x=>(getH x.1).map fun h=>(za3 h,x.2)
def z7k(s:List UInt8):Option (Ev × List UInt8):=
 (z1q s).bind fun x=>(sgnS x.2).bind fun y=>(sgnS y.2).bind fun z=>
  if x.1=1 then some (⟨1,y.1,z.1,zeroH,[]⟩,z.2)else if x.1=2 then(unS z.2).bind fun u=>(unsS u.2).map fun v=>(⟨2,y.1,z.1,u.1,v.1⟩,v.2)else none
def getE(s:List UInt8):Option Ev:=(z7k s).bind fun x=>if x.2=[]/\ mayB x.1=true then some x.1 else none
theorem val_of{h:Hdr}(hv:valH h=true):∃d:Hd,h=za3 d/\ z1r d.n d.i d.g d.l=true/\ z2f h=putH d.n d.r d.i d.g d.l:=by
 obtain⟨N,I,e1,e2,_⟩:=zab hv
 refine⟨⟨N,h.r,I,h.s,h.p⟩,?_,?_,?_⟩
 ·cases h;simp only [za3]at*;subst e1;subst e2;rfl
 ·unfold valH at hv;rw [<-e1,<-e2];exact hv
 ·unfold z2f;rw [e1,e2];rfl
theorem z8k{h:Hdr}(hv:valH h=true):(z2f h).length<1000000:=by
 obtain⟨N,I,e1,e2,b1,b2,b3,b4⟩:=zab hv
 have h1:=z2u h.n.toNat
 have h2:=z2u h.i.toNat
 have h3:=z2u h.s.length
 have h4:=zbf (l:=h.p)
 have h5:=h.r.2
 unfold z2f putH z1s
 simp only [List.length_append]
 omega
theorem zkt{h:Hdr}(hv:valH h=true)(t:List UInt8):sgnS (z1s (z2f h)++t)=some (h,t):=by
 have hl:=z8k hv
 obtain⟨d,rfl,hd,he⟩:=val_of hv
 unfold sgnS
 rw [zhj (by omega),Option.bind_some,he]
 have:=zpd hd []
 rw [List.append_nil,if_pos rfl]at this
 rw [this];rfl
theorem zku{s r:List UInt8}{h:Hdr}(e:sgnS s=some (h,r)):s=z1s (z2f h)++r/\ valH h=true:=by
 unfold sgnS at e
 cases e1:cutS s with
 |none=>rw [e1]at e;simp at e
 |some x=>
 rw [e1,Option.bind_some]at e
 cases e2:getH x.1 with
 |none=>rw [e2]at e;simp at e
 |some d=>
 rw [e2,Option.map_some]at e
 simp only [Option.some.injEq,Prod.mk.injEq]at e
 obtain⟨rfl,rfl⟩:=e
 have s1:=zdb (g:=x.1) (r:=x.2) e1
 obtain⟨s2,s3⟩:=zpe e2
 refine⟨?_,s3⟩
 rw [s1,s2]
 unfold z2f za3
 simp only [Int.toNat_natCast]
theorem zee{e:Ev}(h:mayB e=true)(t:List UInt8):z7k (z1p e++t)=some (e,t):=by
 obtain⟨h1,h2,h3,h4⟩:=ze3 h
 have hk:=ziw h4
 unfold z7k z1p
 simp only [List.append_assoc]
 rw [z9y (by omega),Option.bind_some,zkt h1,Option.bind_some,zkt h2,Option.bind_some]
 obtain⟨k,a,b,r,p⟩:=e
 rcases hk with⟨hk,hr,hp⟩|hk
 ·simp only at hk hr hp
  subst hk;subst hr;subst hp
  rfl
 ·simp only at hk h3
  subst hk
  dsimp only
  rw [if_neg (show ¬(2:Int).toNat=1 by decide),if_pos (show (2:Int).toNat=2 from rfl),if_pos rfl]
  simp only [List.append_assoc]
  rw [zlm,Option.bind_some,zlp h3,Option.map_some]
theorem zsk{s t:List UInt8}{e:Ev}(h:z7k s=some (e,t)):s=z1p e++t:=by
 unfold z7k at h
 cases e1:z1q s with
 |none=>rw [e1]at h;simp at h
 |some x=>
 rw [e1,Option.bind_some]at h
 cases e2:sgnS x.2 with
 |none=>rw [e2]at h;simp at h
 |some y=>
 rw [e2,Option.bind_some]at h
 cases e3:sgnS y.2 with
 |none=>rw [e3]at h;simp at h
 |some z=>
 rw [e3,Option.bind_some]at h
 have s1:=(z8n (n:=x.1) (rest:=x.2) e1).2
 have s2:=(zku (h:=y.1) (r:=y.2) e2).1
 have s3:=(zku (h:=z.1) (r:=z.2) e3).1
 by_cases k1:x.1=1
 ·rw [if_pos k1]at h
  simp only [Option.some.injEq,Prod.mk.injEq]at h
  obtain⟨rfl,rfl⟩:=h
  unfold z1p
  rw [s1,s2,s3,k1]
  simp [List.append_assoc]
 ·rw [if_neg k1]at h
  by_cases k2:x.1=2
  ·rw [if_pos k2]at h
   cases e4:unS z.2 with
   |none=>rw [e4]at h;simp at h
   |some u=>
   rw [e4,Option.bind_some]at h
   cases e5:unsS u.2 with
   |none=>rw [e5]at h;simp at h
   |some v=>
   rw [e5,Option.map_some]at h
   simp only [Option.some.injEq,Prod.mk.injEq]at h
   obtain⟨rfl,rfl⟩:=h
   have s4:=zfm (h:=u.1) (r:=u.2) e4
   have s5:=zlq (l:=v.1) (r:=v.2) e5
   unfold z1p
   rw [s1,s2,s3,s4,s5,k2]
   simp [List.append_assoc]
  ·rw [if_neg k2]at h;cases h
theorem zia{e:Ev}(h:mayB e=true)(t:List UInt8):getE (z1p e++t)=if t=[]then some e else none:=by
 unfold getE
 rw [zee h,Option.bind_some]
 by_cases ht:t=[]
 ·rw [if_pos ⟨ht,h⟩,if_pos ht]
 ·rw [if_neg (fun e=>ht e.1),if_neg ht]
theorem zpc{s:List UInt8}{e:Ev}(h:getE s=some e):s=z1p e/\ mayB e=true:=by
 unfold getE at h
 cases hp:z7k s with
 |none=>rw [hp]at h;simp at h
 |some x=>
  obtain⟨e',t⟩:=x
  have hs:=zsk hp
  rw [hp,Option.bind_some]at h
  split at h
  ·rename_i hc
   simp only [Option.some.injEq]at h
   subst h
   obtain⟨rfl,hv⟩:=hc
   exact⟨by simpa using hs,hv⟩
  ·cases h
theorem zpb{e:Ev}(h:mayB e=true){k:Nat}(hk:k<(z1p e).length):getE ((z1p e).take k)=none:=by
 cases h':getE ((z1p e).take k)with
 |none=>rfl
 |some e'=>
  exfalso
  obtain⟨e1,hv'⟩:=zpc h'
  have h1:=zee h []
  rw [List.append_nil,<-List.take_append_drop k (z1p e),e1,zee hv']at h1
  simp only [Option.some.injEq,Prod.mk.injEq]at h1
  have:=congrArg List.length h1.2
  rw [List.length_drop,List.length_nil]at this
  omega
theorem znf{e:Ev}(h:mayB e=true):(z1p e).length<10000000/\ 0<(z1p e).length:=by
 obtain⟨h1,h2,h3,_⟩:=ze3 h
 have l1:=z8k h1
 have l2:=z8k h2
 have l3:=z2u e.k.toNat
 have l4:=z2u (z2f e.a).length
 have l5:=z2u (z2f e.b).length
 have l6:=zbf (l:=e.p)
 have l7:=e.r.2
 have l8:=List.length_pos_iff.2 (zjd e.k.toNat)
 unfold z1p z1s
 simp only [List.length_append]
 split
 ·simp only [List.length_append];omega
 ·simp only [List.length_nil];omega
def rdD(s:List UInt8):Nat × List UInt8:=(z1q s).getD (0,[])
def cutD(s:List UInt8):List UInt8 × List UInt8:=(cutS s).getD ([],[])
def unD(s:List UInt8):Hash × List UInt8:=(unS s).getD (zeroH,[])
def unsD(s:List UInt8):List Hash × List UInt8:=(unsS s).getD ([],[])
def z4d(s:List UInt8):Hdr:=((getH s).map za3).getD zHd
theorem sgn_D{s r:List UInt8}{h:Hdr}(e:sgnS s=some (h,r)):z4d (cutD s).1=h/\ (cutD s).2=r:=by
 unfold sgnS at e
 cases e1:cutS s with
 |none=>rw [e1]at e;simp at e
 |some x=>
 rw [e1,Option.bind_some]at e
 unfold cutD
 rw [e1,Option.getD_some]
 cases e2:getH x.1 with
 |none=>rw [e2]at e;simp at e
 |some d=>
 rw [e2,Option.map_some]at e
 simp only [Option.some.injEq,Prod.mk.injEq]at e
 unfold z4d
 rw [e2]
 exact e
end
section
set_option maxRecDepth 10000
def q1vr0:yW:=[
 yI 1 (.box (.t 0)),
 yI 2 (.mv (.v (.bool false)))]
def q1vr1:yW:=[
 yF 3 1 1,
 yL 4 true 37 3,
 yC 5 20 4,
 yM 6 5,
 yT 7 6 false 38 1,
 yU 8 6 false true 37 7,
 yG 9 6 false (.call (.v (.fn 20 [])) [(.t 8)]),
 yP 10 6 9,
 yM 11 10,
 yT 12 11 false 107 1,
 yU 13 11 false false 1 12,
 yG 14 11 false (.lenSl (.t 13)),
 yG 15 11 false (.bin .gtr .none (.t 14) (.v (.int .i64 70))),
 yP 16 11 15,
 yM 2 16]
def q1vc2:yX:=yq q1vr1 .ret
def q1vc3:yX:=yq q1vr0 q1vc2
attribute [go_sem] q1vr0 q1vr1
theorem q1vok:cFn TC 37=some (17,[.t 2],q1vc3):=by kernel_rfl
def q1wr0:yW:=[
 yI 0 (.mv (.v (.bool false)))]
def q1wr1:yW:=[
 yI 8 (.call (.v (.fn 22 [])) [(.v .nilsl),(.v .nilsl)]),
 yM 7 8,
 yE 9 0 7,
 yE 10 1 7,
 yI 1 (.alloc evO),
 yS 106 1 9,
 yM 2 10]
def q1wr2:yW:=[
 yI 11 (.lit 1 [(.v (.str [97])),(.v (.str [98]))]),
 yC 12 12 11,
 yI 3 (.alloc [.nilp,.nilsl]),
 yS 2 3 12]
def q1wr3:yW:=[
 yF 13 0 3,
 yL 14 false 1 13,
 yI 15 (.lit 1 [(.v (.str [97])),(.v (.str [99]))]),
 yI 16 (.build [.nilp,.nilsl] [(0,1,(.t 14)),(1,1,(.t 15))]),
 yI 4 (.alloc [.nilp,.nilsl]),
 yS 2 4 16]
def q1wr4:yW:=[
 ⟨some 18,none,.rd,.load true 2 (.t 3)⟩,
 ⟨some 19,none,.pu,.call (.v (.fn 15 [])) [(.t 18),(.v (.int .i64 2)),(.v (.int .i64 0))]⟩,
 ⟨some 20,none,.rd,.load true 2 (.t 4)⟩,
 ⟨some 21,none,.pu,.call (.v (.fn 15 [])) [(.t 20),(.v (.int .i64 2)),(.v (.int .i64 0))]⟩,
 yI 22 (.lit 36 [(.t 19),(.t 21)]),
 ⟨some 23,none,.pu,.call (.v (.fn 22 [])) [(.t 22),(.v .nilsl)]⟩,
 yM 17 23,
 yE 24 0 17,
 yE 25 1 17,
 ⟨some 5,none,.ef,.alloc evO⟩,
 yS 106 5 24,
 yM 6 25]
def q1wr5:yW:=[
 yM 26 2,
 yI 27 (.un .not (.t 26)),
 yM 28 27,
 yV 29 28 true 6,
 yQ 30 28 29,
 yM 31 30,
 yT 32 31 true 0 5,
 yU 33 31 true false 1 32,
 yG 34 31 true (.bin .eql .none (.t 33) (.v (.int .i64 1))),
 yQ 35 31 34,
 yM 36 35,
 yT 37 36 true 0 3,
 ⟨some 38,some (36,true),.rd,.load false 1 (.t 37)⟩,
 ⟨some 39,some (36,true),.ef,.call (.v (.fn 18 [])) [(.t 38)]⟩,
 ⟨some 40,some (36,true),.rd,.load true 106 (.t 5)⟩,
 yG 41 36 true (.call (.v (.fn 17 [])) [(.t 39),(.t 40)]),
 yG 42 36 true (.bin .eql .none (.t 41) (.v (.int .i64 0))),
 yQ 43 36 42,
 yM 44 43,
 yG 45 44 true (.build zZ0 [(0,1,(.v (.int .u8 1)))]),
 yU 46 44 true true 106 5,
 yG 47 44 true (.call (.v (.fn 17 [])) [(.t 45),(.t 46)]),
 yG 48 44 true (.bin .eql .none (.t 47) (.v (.int .i64 81))),
 yQ 49 44 48,
 yM 50 49,
 yT 51 50 true 0 3,
 yU 52 50 true false 1 51,
 yG 53 50 true (.call (.v (.fn 18 [])) [(.t 52)]),
 yG 54 50 true (.build evO []),
 yG 55 50 true (.call (.v (.fn 17 [])) [(.t 53),(.t 54)]),
 yG 56 50 true (.bin .eql .none (.t 55) (.v (.int .i64 2))),
 yQ 57 50 56,
 yM 0 57]
def q1wc6:yX:=yq q1wr5 .ret
def zeh:ACode:=.seq (.reg q1wr4) q1wc6
def q1wc8:yX:=yq q1wr3 zeh
def q1wc9:yX:=yq q1wr2 q1wc8
def q1wc10:yX:=yq q1wr1 q1wc9
def q1wc11:yX:=yq q1wr0 q1wc10
attribute [go_sem] q1wr0 q1wr1 q1wr2 q1wr3 q1wr4 q1wr5
theorem q1wok:cFn TC 11=some (58,[.t 0],q1wc11):=by kernel_rfl
def q1xr0:yW:=[
 yI 1 (.box (.t 0)),
 yI 2 (.alloc evO)]
def q1xr1:yW:=[
 yF 3 0 1,
 ⟨some 4,none,.rd,.load false 1 (.t 3)⟩,
 yF 5 1 1,
 ⟨some 6,none,.rd,.load true 37 (.t 5)⟩,
 ⟨some 7,none,.ef,.call (.v (.fn 21 [])) [(.t 6)]⟩,
 yF 8 38 1,
 ⟨some 9,none,.rd,.load true 37 (.t 8)⟩,
 ⟨some 10,none,.ef,.call (.v (.fn 21 [])) [(.t 9)]⟩,
 yF 11 75 1,
 ⟨some 12,none,.rd,.load true 32 (.t 11)⟩,
 yF 13 107 1,
 ⟨some 14,none,.rd,.load false 1 (.t 13)⟩,
 yI 15 (.build evO [(0,1,(.t 4)),(1,36,(.t 7)),(37,36,(.t 10)),(73,32,(.t 12)),(105,1,(.t 14))]),
 yS 106 2 15]
def q1xc2:yX:=yq q1xr1 .ret
def q1xc3:yX:=yq q1xr0 q1xc2
attribute [go_sem] q1xr0 q1xr1
theorem q1xok:cFn TC 39=some (16,[.c 2 true 106],q1xc3):=by kernel_rfl
def q1yr0:yW:=[
 yI 1 (.box (.t 0)),
 yI 2 (.mv (.v (.str []))),
 yK 3 .i64 0]
def q1yr1:yW:=[
 yL 9 true 106 1,
 yC 10 49 9,
 yI 11 (.un .not (.t 10))]
def q1yr2:yW:=[
 yI 2 (.mv (.v (.str []))),
 yK 3 .i64 2]
def q1yc3:yX:=yq q1yr2 .ret
def q1yc4:yX:=.cond (.t 11) q1yc3 .skip
def q1yc5:yX:=yq q1yr1 q1yc4
def q1yr6:yW:=[
 yF 13 1 1,
 yL 14 true 36 13,
 yC 15 73 14,
 yM 12 15,
 yE 16 0 12,
 yE 17 1 12,
 yM 4 16,
 yM 5 17]
def q1yr7:yW:=[
 yF 19 37 1,
 yL 20 true 36 19,
 yC 21 73 20,
 yM 18 21,
 yE 22 0 18,
 yE 23 1 18,
 yM 6 22,
 yM 7 23]
def q1yr8:yW:=[
 yF 24 0 1,
 yL 25 false 1 24,
 yI 26 (.conv (.int .u64) (.t 25)),
 yC 27 74 26,
 yM 28 4,
 yC 29 75 28,
 yB 30 .add 27 29,
 yM 31 6,
 yC 32 75 31,
 yB 33 .add 30 32,
 yM 8 33]
def q1yr9:yW:=[
 yF 34 0 1,
 yL 35 false 1 34,
 yJ 36 .eql 35 .i64 2]
def q1yr10:yW:=[
 yM 37 8,
 yF 38 73 1,
 ⟨some 39,none,.rd,.load true 32 (.t 38)⟩,
 ⟨some 40,none,.ef,.call (.v (.fn 76 [])) [(.t 39)]⟩,
 yF 41 105 1,
 ⟨some 42,none,.rd,.load false 1 (.t 41)⟩,
 yC 43 77 42,
 yB 44 .add 40 43,
 yB 45 .add 37 44,
 yM 8 45]
def q1yc11:yX:=.cond (.t 36) (.reg q1yr10) .skip
def q1yc12:yX:=yq q1yr9 q1yc11
def q1yr13:yW:=[
 yM 46 8,
 yM 2 46,
 yK 3 .i64 0]
def q1yc14:yX:=yq q1yr13 .ret
def q1yc15:yX:=.seq q1yc12 q1yc14
def q1yc16:yX:=yq q1yr8 q1yc15
def q1yc17:yX:=yq q1yr7 q1yc16
def q1yc18:yX:=yq q1yr6 q1yc17
def q1yc19:yX:=.seq q1yc5 q1yc18
def q1yc20:yX:=yq q1yr0 q1yc19
attribute [go_sem] q1yr0 q1yr1 q1yr2 q1yr6 q1yr7 q1yr8 q1yr9 q1yr10 q1yr13
theorem q1yok:cFn TC 38=some (47,[.t 2,.t 3],q1yc20):=by kernel_rfl
def q1zr0:yW:=[
 yI 2 (.box (.t 0)),
 yI 3 (.box (.t 1)),
 yK 4 .i64 0]
def q1zr1:yW:=[
 yF 7 1 3,
 yF 8 0 7,
 ⟨some 9,none,.rd,.load true 33 (.t 8)⟩,
 yF 10 37 3,
 yF 11 0 10,
 ⟨some 12,none,.rd,.load true 33 (.t 11)⟩,
 ⟨some 5,none,.ef,.alloc ((.int .i64 0)::zZ0)⟩,
 ⟨some 6,none,.ef,.alloc ((.int .i64 0)::zZ0)⟩,
 ⟨none,none,.ef,.store 33 (.t 5) (.t 9)⟩,
 yS 33 6 12]
def q1zr2:yW:=[
 yF 7 1 3,
 yF 8 0 7,
 ⟨some 9,none,.rd,.load true 33 (.t 8)⟩,
 yF 10 37 3,
 yF 11 0 10,
 ⟨some 12,none,.rd,.load true 33 (.t 11)⟩,
 ⟨some 6,none,.ef,.alloc ((.int .i64 0)::zZ0)⟩,
 ⟨some 5,none,.ef,.alloc ((.int .i64 0)::zZ0)⟩,
 ⟨none,none,.ef,.store 33 (.t 5) (.t 9)⟩,
 yS 33 6 12]
def q1zr3:yW:=[
 yL 14 true 106 3,
 yC 15 49 14,
 yI 16 (.un .not (.t 15)),
 yM 13 16]
def q1zr4:yW:=[
 yK 4 .i64 2]
def q1zc5:yX:=yq q1zr4 .ret
def q1zr6:yW:=[
 yL 18 true 32 2,
 yF 19 1 3,
 yL 20 true 36 19,
 yD 21 50 18 20,
 yJ 22 .neq 21 .i64 0,
 yM 17 22]
def q1zr7:yW:=[
 yL 23 true 32 2,
 yF 24 37 3,
 yL 25 true 36 24,
 yD 26 50 23 25,
 yJ 27 .neq 26 .i64 0,
 yM 17 27]
def q1zc8:yX:=.cond (.t 17) .skip (.reg q1zr7)
def q1zc9:yX:=yq q1zr6 q1zc8
def q1zr10:yW:=[
 yK 4 .i64 81]
def q1zc11:yX:=yq q1zr10 .ret
def q1zr12:yW:=[
 yF 29 0 3,
 yL 30 false 1 29,
 yJ 31 .eql 30 .i64 2,
 yM 32 31,
 yT 33 32 true 0 5,
 yU 34 32 true false 1 33,
 yT 35 32 true 0 6,
 yU 36 32 true false 1 35,
 yT 37 32 true 73 3,
 yU 38 32 true true 32 37,
 yT 39 32 true 1 6,
 yU 40 32 true true 32 39,
 yT 41 32 true 105 3,
 yU 42 32 true false 1 41,
 yG 43 32 true (.call (.v (.fn 51 [])) [(.t 34),(.t 36),(.t 38),(.t 40),(.t 42)]),
 yG 44 32 true (.bin .neq .none (.t 43) (.v (.int .i64 0))),
 yQ 45 32 44,
 yM 28 45]
def q1zr13:yW:=[
 yK 4 .i64 80]
def q1zc14:yX:=yq q1zr13 .ret
def q1zc15:yX:=.cond (.t 28) q1zc14 .skip
def q1zc16:yX:=yq q1zr12 q1zc15
def q1zc17:yX:=.cond (.t 17) q1zc11 q1zc16
def q1zc18:yX:=.seq q1zc9 q1zc17
def q1zc19:yX:=.cond (.t 13) q1zc5 q1zc18
def q1zc20:yX:=yq q1zr3 q1zc19
def q1zr21:yW:=[
 yK 4 .i64 0]
def q1zc22:yX:=yq q1zr21 .ret
def q1zc23:yX:=.seq (.block 0 q1zc20) q1zc22
def q1zc24:yX:=.seq (.reg2 q1zr1 q1zr2) q1zc23
def q1zc25:yX:=yq q1zr0 q1zc24
attribute [go_sem] q1zr0 q1zr1 q1zr2 q1zr3 q1zr4 q1zr6 q1zr7 q1zr10 q1zr12 q1zr13 q1zr21
theorem q1zok:cFn TC 17=some (46,[.t 4],q1zc25):=by kernel_rfl
def q20r0:yW:=[
 yI 2 (.box (.t 0)),
 yI 3 (.box (.t 1)),
 yI 4 (.mv (.v (.bool false)))]
def q20r1:yW:=[
 yF 5 0 2,
 yL 6 false 1 5,
 yF 7 0 3,
 yL 8 false 1 7,
 yB 9 .eql 6 8,
 yM 10 9,
 yT 11 10 true 1 2,
 yU 12 10 true true 36 11,
 yT 13 10 true 1 3,
 yU 14 10 true true 36 13,
 yG 15 10 true (.call (.v (.fn 82 [])) [(.t 12),(.t 14)]),
 yQ 16 10 15,
 yM 17 16,
 yT 18 17 true 37 2,
 yU 19 17 true true 36 18,
 yT 20 17 true 37 3,
 yU 21 17 true true 36 20,
 yG 22 17 true (.call (.v (.fn 82 [])) [(.t 19),(.t 21)]),
 yQ 23 17 22,
 yM 24 23,
 yT 25 24 true 73 2,
 yU 26 24 true true 32 25,
 yT 27 24 true 73 3,
 yU 28 24 true true 32 27,
 yG 29 24 true (.bin .eql (.agg (List.replicate 32 (.i .u8)++ [])) (.t 26) (.t 28)),
 yQ 30 24 29,
 yM 31 30,
 yT 32 31 true 105 2,
 yU 33 31 true false 1 32,
 yT 34 31 true 105 3,
 yU 35 31 true false 1 34,
 yG 36 31 true (.call (.v (.fn 83 [])) [(.t 33),(.t 35)]),
 yQ 37 31 36,
 yM 4 37]
def q20c2:yX:=yq q20r1 .ret
def q20c3:yX:=yq q20r0 q20c2
attribute [go_sem] q20r0 q20r1
theorem q20ok:cFn TC 41=some (38,[.t 4],q20c3):=by kernel_rfl
def q21r0:yW:=[
 yI 2 (.alloc evO),
 yK 3 .i64 0]
def q21r1:yW:=[
 yI 4 (.alloc evO)]
def q21r2:yW:=[
 yM 13 0,
 yC 14 78 13,
 yM 12 14,
 yE 15 0 12,
 yE 16 1 12,
 yE 17 2 12,
 yM 5 15,
 yM 6 16,
 yM 7 17]
def q21r3:yW:=[
 yM 19 6,
 yC 20 79 19,
 yM 18 20,
 yE 21 0 18,
 yE 22 1 18,
 yE 23 2 18,
 yI 8 (.alloc sgZ),
 yS 36 8 21,
 yM 6 22,
 yM 9 23]
def q21r4:yW:=[
 yM 25 6,
 yC 26 79 25,
 yM 24 26,
 yE 27 0 24,
 yE 28 1 24,
 yE 29 2 24,
 yI 10 (.alloc sgZ),
 yS 36 10 27,
 yM 6 28,
 yM 11 29]
def q21r5:yW:=[
 yM 30 7,
 yI 31 (.un .not (.t 30)),
 yM 32 31,
 yV 33 32 false 9,
 yG 34 32 false (.un .not (.t 33)),
 yP 35 32 34,
 yM 36 35,
 yV 37 36 false 11,
 yG 38 36 false (.un .not (.t 37)),
 yP 39 36 38,
 yM 40 39,
 yV 41 40 false 5,
 yG 42 40 false (.bin .neq .none (.t 41) (.v (.int .u64 1))),
 yV 43 40 false 42,
 yV 44 43 true 5,
 yG 45 43 true (.bin .neq .none (.t 44) (.v (.int .u64 2))),
 yG 46 40 false (.pick (.t 43) (.t 45) (.v (.bool false))),
 yP 47 40 46]
def q21r6:yW:=[
 yI 48 (.build evO []),
 yS 106 2 48,
 yK 3 .i64 10]
def q21c7:yX:=yq q21r6 .ret
def q21c8:yX:=.cond (.t 47) q21c7 .skip
def q21c9:yX:=yq q21r5 q21c8
def q21r10:yW:=[
 yM 49 5,
 yI 50 (.conv (.int .i64) (.t 49)),
 ⟨some 51,none,.rd,.load true 36 (.t 8)⟩,
 ⟨some 52,none,.rd2,.load true 36 (.t 10)⟩,
 yF 53 0 4,
 ⟨none,none,.ef,.store 1 (.t 53) (.t 50)⟩,
 yF 54 1 4,
 ⟨none,none,.ef2,.store 36 (.t 54) (.t 51)⟩,
 yF 55 37 4,
 yS 36 55 52]
def q21r11:yW:=[
 yM 56 5,
 yJ 57 .eql 56 .u64 2]
def q21r12:yW:=[
 yM 59 6,
 yC 60 80 59,
 yM 58 60,
 yE 61 0 58,
 yE 62 1 58,
 yE 63 2 58,
 yF 64 73 4,
 yS 32 64 61,
 yM 6 62,
 yM 7 63]
def q21r13:yW:=[
 yM 66 6,
 yC 67 81 66,
 yM 65 67,
 yE 68 0 65,
 yE 69 1 65,
 yE 70 2 65,
 yF 71 105 4,
 yS 1 71 68,
 yM 6 69,
 yM 9 70]
def q21c14:yX:=yq q21r12 (.reg q21r13)
def q21c15:yX:=.cond (.t 57) q21c14 .skip
def q21c16:yX:=yq q21r11 q21c15
def q21r17:yW:=[
 yM 72 7,
 yI 73 (.un .not (.t 72)),
 yM 74 73,
 yV 75 74 false 9,
 yG 76 74 false (.un .not (.t 75)),
 yP 77 74 76,
 yM 78 77,
 yV 79 78 false 6,
 yG 80 78 false (.bin .neq .none (.t 79) (.v (.str []))),
 yP 81 78 80,
 yM 82 81,
 yU 83 82 false true 106 4,
 yG 84 82 false (.call (.v (.fn 49 [])) [(.t 83)]),
 yG 85 82 false (.un .not (.t 84)),
 yP 86 82 85]
def q21r18:yW:=[
 yI 87 (.build evO []),
 yS 106 2 87,
 yK 3 .i64 10]
def q21c19:yX:=yq q21r18 .ret
def q21c20:yX:=.cond (.t 86) q21c19 .skip
def q21c21:yX:=yq q21r17 q21c20
def q21r22:yW:=[
 yL 88 true 106 4,
 yS 106 2 88,
 yK 3 .i64 0]
def q21c23:yX:=yq q21r22 .ret
def q21c24:yX:=.seq q21c21 q21c23
def q21c25:yX:=.seq q21c16 q21c24
def q21c26:yX:=yq q21r10 q21c25
def q21c27:yX:=.seq q21c9 q21c26
def q21c28:yX:=yq q21r4 q21c27
def q21c29:yX:=yq q21r3 q21c28
def q21c30:yX:=yq q21r2 q21c29
def q21c31:yX:=yq q21r1 q21c30
def q21c32:yX:=yq q21r0 q21c31
attribute [go_sem] q21r0 q21r1 q21r2 q21r3 q21r4 q21r5 q21r6 q21r10 q21r11 q21r12 q21r13 q21r17 q21r18 q21r22
theorem q21ok:cFn TC 40=some (89,[.c 2 true 106,.t 3],q21c32):=by kernel_rfl
def q22r0:yW:=[
 yI 4 (.alloc evO),
 yI 5 (.mv (.v (.bool false)))]
def q22r1:yW:=[
 yM 16 0,
 yC 17 56 16,
 yM 15 17,
 yE 18 0 15,
 yE 19 1 15,
 yI 6 (.alloc evO),
 yS 106 6 18,
 yM 7 19]
def q22r2:yW:=[
 yM 20 7]
def q22r3:yW:=[
 yL 21 true 106 6,
 yC 22 57 21,
 yS 106 4 22,
 yI 5 (.mv (.v (.bool true)))]
def q22c4:yX:=yq q22r3 .ret
def q22c5:yX:=.cond (.t 20) q22c4 .skip
def q22c6:yX:=yq q22r2 q22c5
def q22c7:yX:=yq q22r1 q22c6
def q22r8:yW:=[
 yM 24 0,
 yM 25 1,
 yD 26 58 24 25,
 yM 23 26,
 yE 27 0 23,
 yE 28 1 23,
 yI 8 (.alloc sgZ),
 yS 36 8 27,
 yM 9 28]
def q22r9:yW:=[
 yM 29 9,
 yI 30 (.un .not (.t 29))]
def q22r10:yW:=[
 yI 31 (.build evO []),
 yS 106 4 31,
 yI 5 (.mv (.v (.bool false)))]
def q22c11:yX:=yq q22r10 .ret
def q22c12:yX:=.cond (.t 30) q22c11 .skip
def q22c13:yX:=yq q22r9 q22c12
def q22r14:yW:=[
 yM 32 0,
 yI 33 (.lenSl (.t 32)),
 yK 34 .i64 0]
def q22r15:yW:=[
 yB 35 .lss 34 33]
def q22r16:yW:=[
 yI 36 (.iaSl 36 (.t 32) (.t 34)),
 yL 37 true 36 36,
 yI 11 (.alloc sgZ),
 yS 36 11 37]
def q22r17:yW:=[
 yL 38 true 36 11,
 yC 39 59 38,
 yI 40 (.un .not (.t 39)),
 yM 41 40,
 yT 42 41 false 0 11,
 yT 43 41 false 0 42,
 yU 44 41 false false 1 43,
 yT 45 41 false 0 8,
 yT 46 41 false 0 45,
 yU 47 41 false false 1 46,
 yG 48 41 false (.bin .geq .none (.t 44) (.t 47)),
 yP 49 41 48]
def q22c18:yX:=.cond (.t 49) (.exit 1) .skip
def q22c19:yX:=yq q22r17 q22c18
def q22r20:yW:=[
 yM 50 1,
 yF 51 0 11,
 yF 52 0 51,
 yL 53 false 1 52,
 yI 54 (.slice (.sl 32) (.t 50) none (some (.t 53)) none),
 yC 55 52 54,
 yI 12 (.alloc zZ0),
 yS 32 12 55]
def q22r21:yW:=[
 yL 56 true 32 12,
 yF 57 0 11,
 yF 58 1 57,
 yL 59 true 32 58,
 yI 60 (.bin .neq (.agg (List.replicate 32 (.i .u8)++ [])) (.t 56) (.t 59))]
def q22r22:yW:=[
 yM 62 1,
 yF 63 0 8,
 yF 64 0 63,
 ⟨some 65,none,.rd,.load false 1 (.t 64)⟩,
 yI 66 (.slice (.sl 32) (.t 62) none (some (.t 65)) none),
 yF 67 0 11,
 yF 68 0 67,
 ⟨some 69,none,.rd,.load false 1 (.t 68)⟩,
 yD 70 60 66 69,
 yM 61 70,
 yE 71 0 61,
 yE 72 1 61,
 yM 13 71,
 yM 14 72]
def q22r23:yW:=[
 yL 73 true 36 11,
 yL 74 true 36 8,
 yL 75 true 32 12,
 yM 76 13,
 yI 77 (.build evO [(0,1,(.v (.int .i64 2))),(1,36,(.t 73)),(37,36,(.t 74)),(73,32,(.t 75)),(105,1,(.t 76))]),
 yC 78 57 77,
 yS 106 4 78,
 yI 5 (.mv (.v (.bool true)))]
def q22c24:yX:=yq q22r23 .ret
def q22c25:yX:=yq q22r22 q22c24
def q22c26:yX:=.cond (.t 60) q22c25 .skip
def q22c27:yX:=yq q22r21 q22c26
def q22c28:yX:=yq q22r20 q22c27
def q22c29:yX:=.seq q22c19 q22c28
def q22c30:yX:=yq q22r16 q22c29
def q22r31:yW:=[
 yJ 79 .add 34 .i64 1,
 yM 34 79]
def q22c32:yX:=.seq (.block 1 q22c30) (.reg q22r31)
def q22c33:yX:=.seq (.cond (.t 35) .skip (.exit 0)) q22c32
def q22c34:yX:=yq q22r15 q22c33
def q22c35:yX:=.loop q22c34
def q22c36:yX:=.block 0 q22c35
def q22c37:yX:=yq q22r14 q22c36
def q22r38:yW:=[
 yI 80 (.build evO []),
 yS 106 4 80,
 yI 5 (.mv (.v (.bool false)))]
def q22c39:yX:=yq q22r38 .ret
def q22c40:yX:=.seq q22c37 q22c39
def q22c41:yX:=.seq q22c13 q22c40
def q22c42:yX:=yq q22r8 q22c41
def q22c43:yX:=.seq q22c7 q22c42
def q22c44:yX:=yq q22r0 q22c43
attribute [go_sem] q22r0 q22r1 q22r2 q22r3 q22r8 q22r9 q22r10 q22r14 q22r15 q22r16 q22r17 q22r20 q22r21 q22r22 q22r23 q22r31 q22r38
theorem q22ok:cFn TC 22=some (81,[.c 4 true 106,.t 5],q22c44):=by kernel_rfl
def q23r0:yW:=[
 yI 1 (.box (.t 0)),
 yI 2 (.mv (.v (.bool false)))]
def q23r1:yW:=[
 yF 4 1 1,
 yL 5 true 36 4,
 yC 6 59 5,
 yI 7 (.un .not (.t 6)),
 yM 8 7,
 yT 9 8 false 37 1,
 yU 10 8 false true 36 9,
 yG 11 8 false (.call (.v (.fn 59 [])) [(.t 10)]),
 yG 12 8 false (.un .not (.t 11)),
 yP 13 8 12,
 yM 14 13,
 yT 15 14 false 105 1,
 yU 16 14 false false 1 15,
 yG 17 14 false (.lenSl (.t 16)),
 yG 18 14 false (.bin .gtr .none (.t 17) (.v (.int .i64 64))),
 yP 19 14 18]
def q23r2:yW:=[
 yI 2 (.mv (.v (.bool false)))]
def q23c3:yX:=yq q23r2 .ret
def q23c4:yX:=.cond (.t 19) q23c3 .skip
def q23c5:yX:=yq q23r1 q23c4
def q23r6:yW:=[
 yF 20 1 1,
 yF 21 0 20,
 yL 22 true 33 21,
 yF 23 37 1,
 yF 24 0 23,
 yL 25 true 33 24,
 yD 26 90 22 25,
 yM 3 26]
def q23r7:yW:=[
 yF 27 0 1,
 yL 28 false 1 27]
def q23r8:yW:=[
 yJ 30 .eql 28 .i64 1,
 yM 29 30]
def q23r9:yW:=[
 yM 31 3,
 yJ 32 .eql 31 .i64 3,
 yM 33 32,
 yT 34 33 true 73 1,
 yU 35 33 true true 32 34,
 yG 36 33 true (.build zZ0 []),
 yG 37 33 true (.bin .eql (.agg (List.replicate 32 (.i .u8)++ [])) (.t 35) (.t 36)),
 yQ 38 33 37,
 yM 39 38,
 yT 40 39 true 105 1,
 yU 41 39 true false 1 40,
 yG 42 39 true (.lenSl (.t 41)),
 yG 43 39 true (.bin .eql .none (.t 42) (.v (.int .i64 0))),
 yQ 44 39 43,
 yM 2 44]
def q23c10:yX:=yq q23r9 .ret
def q23r11:yW:=[
 yJ 46 .eql 28 .i64 2,
 yM 45 46]
def q23r12:yW:=[
 yM 47 3,
 yJ 48 .eql 47 .i64 0,
 yM 49 48,
 yT 50 49 true 73 1,
 yU 51 49 true true 32 50,
 yT 52 49 true 1 1,
 yT 53 49 true 0 52,
 yT 54 49 true 1 53,
 yU 55 49 true true 32 54,
 yG 56 49 true (.bin .neq (.agg (List.replicate 32 (.i .u8)++ [])) (.t 51) (.t 55)),
 yQ 57 49 56,
 yM 2 57]
def q23c13:yX:=yq q23r12 .ret
def q23c14:yX:=.cond (.t 45) q23c13 .skip
def q23c15:yX:=yq q23r11 q23c14
def q23c16:yX:=.cond (.t 29) q23c10 q23c15
def q23c17:yX:=yq q23r8 q23c16
def q23c18:yX:=.block 0 q23c17
def q23c19:yX:=yq q23r7 q23c18
def q23r20:yW:=[
 yI 2 (.mv (.v (.bool false)))]
def q23c21:yX:=yq q23r20 .ret
def q23c22:yX:=.seq q23c19 q23c21
def q23c23:yX:=yq q23r6 q23c22
def q23c24:yX:=.seq q23c5 q23c23
def q23c25:yX:=yq q23r0 q23c24
attribute [go_sem] q23r0 q23r1 q23r2 q23r6 q23r7 q23r8 q23r9 q23r11 q23r12 q23r20
theorem q23ok:cFn TC 49=some (58,[.t 2],q23c25):=by kernel_rfl
def q24r0:yW:=[
 yI 2 (.alloc sgZ),
 yI 3 (.mv (.v (.str []))),
 yI 4 (.mv (.v (.bool false)))]
def q24r1:yW:=[
 yM 8 0,
 yC 9 113 8,
 yM 7 9,
 yE 10 0 7,
 yE 11 1 7,
 yE 12 2 7,
 yM 5 10,
 yM 3 11,
 yM 4 12]
def q24r2:yW:=[
 yM 14 5,
 yC 15 114 14,
 yM 13 15,
 yE 16 0 13,
 yE 17 1 13,
 yS 36 2 16,
 yM 6 17]
def q24r3:yW:=[
 yL 18 true 36 2,
 yM 19 3,
 yM 20 4,
 yM 21 20,
 yV 22 21 true 6,
 yG 23 21 true (.bin .eql .none (.t 22) (.v (.int .i64 0))),
 yQ 24 21 23,
 yS 36 2 18,
 yM 3 19,
 yM 4 24]
def q24c4:yX:=yq q24r3 .ret
def q24c5:yX:=yq q24r2 q24c4
def q24c6:yX:=yq q24r1 q24c5
def q24c7:yX:=yq q24r0 q24c6
attribute [go_sem] q24r0 q24r1 q24r2 q24r3
theorem q24ok:cFn TC 79=some (25,[.c 2 true 36,.t 3,.t 4],q24c7):=by kernel_rfl
def q25r0:yW:=[
 yI 2 (.alloc evO),
 yI 3 (.mv (.v (.bool false)))]
def q25r1:yW:=[
 yM 8 0,
 yI 9 (.lenSl (.t 8)),
 yK 10 .i64 0]
def q25r2:yW:=[
 yB 11 .lss 10 9]
def q25r3:yW:=[
 yM 12 10,
 yI 13 (.iaSl 36 (.t 8) (.t 10)),
 yL 14 true 36 13,
 yI 5 (.alloc sgZ),
 yM 4 12,
 yS 36 5 14]
def q25r4:yW:=[
 yM 15 0,
 yM 16 4,
 yJ 17 .add 16 .i64 1,
 yI 18 (.slice (.sl 36) (.t 15) (some (.t 17)) none none),
 yI 19 (.lenSl (.t 18)),
 yK 20 .i64 0]
def q25r5:yW:=[
 yB 21 .lss 20 19]
def q25r6:yW:=[
 yI 22 (.iaSl 36 (.t 18) (.t 20)),
 yL 23 true 36 22,
 yI 7 (.alloc sgZ),
 yS 36 7 23]
def q25r7:yW:=[
 yL 24 true 36 5,
 yC 25 59 24,
 yM 26 25,
 yU 27 26 true true 36 7,
 yG 28 26 true (.call (.v (.fn 59 [])) [(.t 27)]),
 yQ 29 26 28,
 yM 30 29,
 yT 31 30 true 0 5,
 yU 32 30 true true 33 31,
 yT 33 30 true 0 7,
 yU 34 30 true true 33 33,
 yG 35 30 true (.call (.v (.fn 90 [])) [(.t 32),(.t 34)]),
 yG 36 30 true (.bin .eql .none (.t 35) (.v (.int .i64 3))),
 yQ 37 30 36]
def q25r8:yW:=[
 yL 38 true 36 5,
 yL 39 true 36 7,
 yI 40 (.build evO [(0,1,(.v (.int .i64 1))),(1,36,(.t 38)),(37,36,(.t 39))]),
 yS 106 2 40,
 yI 3 (.mv (.v (.bool true)))]
def q25c9:yX:=yq q25r8 .ret
def q25c10:yX:=.cond (.t 37) q25c9 .skip
def q25c11:yX:=yq q25r7 q25c10
def q25c12:yX:=yq q25r6 q25c11
def q25r13:yW:=[
 yJ 41 .add 20 .i64 1,
 yM 20 41]
def q25c14:yX:=.seq (.block 3 q25c12) (.reg q25r13)
def q25c15:yX:=.seq (.cond (.t 21) .skip (.exit 2)) q25c14
def q25c16:yX:=yq q25r5 q25c15
def q25c17:yX:=.loop q25c16
def q25c18:yX:=.block 2 q25c17
def q25c19:yX:=yq q25r4 q25c18
def q25c20:yX:=yq q25r3 q25c19
def q25r21:yW:=[
 yJ 42 .add 10 .i64 1,
 yM 10 42]
def q25c22:yX:=.seq (.block 1 q25c20) (.reg q25r21)
def q25c23:yX:=.seq (.cond (.t 11) .skip (.exit 0)) q25c22
def q25c24:yX:=yq q25r2 q25c23
def q25c25:yX:=.loop q25c24
def q25c26:yX:=.block 0 q25c25
def q25c27:yX:=yq q25r1 q25c26
def q25r28:yW:=[
 yI 43 (.build evO []),
 yS 106 2 43,
 yI 3 (.mv (.v (.bool false)))]
def q25c29:yX:=yq q25r28 .ret
def q25c30:yX:=.seq q25c27 q25c29
def q25c31:yX:=yq q25r0 q25c30
attribute [go_sem] q25r0 q25r1 q25r2 q25r3 q25r4 q25r5 q25r6 q25r7 q25r8 q25r13 q25r21 q25r28
theorem q25ok:cFn TC 56=some (44,[.c 2 true 106,.t 3],q25c31):=by kernel_rfl
def q26r0:yW:=[
 yI 1 (.box (.t 0)),
 yI 2 (.alloc evO)]
def q26r1:yW:=[
 yF 3 1 1,
 yF 4 33 3,
 yF 5 2 4,
 yL 6 false 1 5,
 yC 7 101 6,
 yF 8 1 1,
 yF 9 33 8,
 yF 10 2 9,
 yS 1 10 7]
def q26r2:yW:=[
 yF 11 37 1,
 yF 12 33 11,
 yF 13 2 12,
 yL 14 false 1 13,
 yC 15 101 14,
 yF 16 37 1,
 yF 17 33 16,
 yF 18 2 17,
 yS 1 18 15]
def q26r3:yW:=[
 yL 19 true 106 1,
 yS 106 2 19]
def q26c4:yX:=yq q26r3 .ret
def q26c5:yX:=yq q26r2 q26c4
def q26c6:yX:=yq q26r1 q26c5
def q26c7:yX:=yq q26r0 q26c6
attribute [go_sem] q26r0 q26r1 q26r2 q26r3
theorem q26ok:cFn TC 57=some (20,[.c 2 true 106],q26c7):=by kernel_rfl
def q27r0:yW:=[
 yI 4 (.alloc sgZ),
 yI 5 (.mv (.v (.bool false)))]
def q27r1:yW:=[
 yI 6 (.alloc sgZ)]
def q27r2:yW:=[
 yI 7 (.mv (.v (.bool false)))]
def q27r3:yW:=[
 yM 11 0,
 yI 12 (.lenSl (.t 11)),
 yK 13 .i64 0]
def q27r4:yW:=[
 yB 14 .lss 13 12]
def q27r5:yW:=[
 yI 15 (.iaSl 36 (.t 11) (.t 13)),
 yL 16 true 36 15,
 yI 9 (.alloc sgZ),
 yS 36 9 16]
def q27r6:yW:=[
 yF 17 0 9,
 yF 18 0 17,
 yL 19 false 1 18,
 yM 10 19]
def q27r7:yW:=[
 yL 20 true 36 9,
 yC 21 59 20,
 yM 22 21,
 yV 23 22 true 10,
 yV 24 22 true 1,
 yG 25 22 true (.lenSl (.t 24)),
 yG 26 22 true (.bin .leq .none (.t 23) (.t 25)),
 yQ 27 22 26,
 yM 28 27,
 yV 29 28 true 7,
 yG 30 28 true (.un .not (.t 29)),
 yV 31 28 true 30,
 yV 32 31 false 10,
 yT 33 31 false 0 6,
 yT 34 31 false 0 33,
 yU 35 31 false false 1 34,
 yG 36 31 false (.bin .gtr .none (.t 32) (.t 35)),
 yG 37 28 true (.pick (.t 31) (.v (.bool true)) (.t 36)),
 yQ 38 28 37,
 yM 39 38,
 yV 40 39 true 1,
 yV 41 39 true 10,
 yG 42 39 true (.slice (.sl 32) (.t 40) none (some (.t 41)) none),
 ⟨some 43,some (39,true),.ef,.call (.v (.fn 52 [])) [(.t 42)]⟩,
 yT 44 39 true 0 9,
 yT 45 39 true 1 44,
 ⟨some 46,some (39,true),.rd,.load true 32 (.t 45)⟩,
 yG 47 39 true (.bin .eql (.agg (List.replicate 32 (.i .u8)++ [])) (.t 43) (.t 46)),
 yQ 48 39 47]
def q27r8:yW:=[
 yL 49 true 36 9,
 yS 36 6 49,
 yI 7 (.mv (.v (.bool true)))]
def q27c9:yX:=.cond (.t 48) (.reg q27r8) .skip
def q27c10:yX:=yq q27r7 q27c9
def q27c11:yX:=yq q27r6 q27c10
def q27c12:yX:=yq q27r5 q27c11
def q27r13:yW:=[
 yJ 50 .add 13 .i64 1,
 yM 13 50]
def q27c14:yX:=.seq (.block 1 q27c12) (.reg q27r13)
def q27c15:yX:=.seq (.cond (.t 14) .skip (.exit 0)) q27c14
def q27c16:yX:=yq q27r4 q27c15
def q27c17:yX:=.loop q27c16
def q27c18:yX:=.block 0 q27c17
def q27c19:yX:=yq q27r3 q27c18
def q27r20:yW:=[
 yL 51 true 36 6,
 yM 52 7,
 yS 36 4 51,
 yM 5 52]
def q27c21:yX:=yq q27r20 .ret
def q27c22:yX:=.seq q27c19 q27c21
def q27c23:yX:=yq q27r2 q27c22
def q27c24:yX:=yq q27r1 q27c23
def q27c25:yX:=yq q27r0 q27c24
attribute [go_sem] q27r0 q27r1 q27r2 q27r3 q27r4 q27r5 q27r6 q27r7 q27r8 q27r13 q27r20
theorem q27ok:cFn TC 58=some (53,[.c 4 true 36,.t 5],q27c25):=by kernel_rfl
end
section
theorem ord3(n m:Int)(a b:Hash):ordI n m a b=3 ↔ (n=m/\ a ≠ b):=by
 unfold ordI
 by_cases h:n=m
 ·subst h
  by_cases h2:a=b
  ·simp [h2]
  ·simp [h2]
 ·rw [if_pos h]
  constructor
  ·intro e;split at e<;>omega
  ·exact fun e=>absurd e.1 h
theorem ord0(n m:Int)(a b:Hash):ordI n m a b=0 ↔ n<m:=by
 unfold ordI
 by_cases h:n=m
 ·subst h
  by_cases h2:a=b
  ·simp [h2]
  ·simp [h2]
 ·rw [if_pos h]
  constructor
  ·intro e;split at e<;>omega
  ·intro e;rw [if_pos e]
theorem zr9{l:List Hash}(h:(l.length:Int)=0):l=[]:=List.eq_nil_of_length_eq_zero (by omega)
attribute [local irreducible] ACallsTo ACallsP
theorem zc8(O:Store)(e:Ev)(x y z:AV)(hx:RdSl O 32 (hr e.a.p) x)(hy:RdSl O 32 (hr e.b.p) y)(hz:RdSl O 32 (hr e.p) z):
  ACallsTo TC 49 [.agg (evX e x y z)] O (.bool (mayB e)) O:=by
 have hVa:=fun t=>z4a (O++t) e.a.n e.a.i e.a.r e.a.s e.a.p x hx.app
 have hVb:=fun t=>z4a (O++t) e.b.n e.b.i e.b.r e.b.s e.b.p y hy.app
 have hO:=fun O=>zfy O e.a.n e.b.n e.a.r e.b.r
 have o3:=ord3 e.a.n e.b.n e.a.r e.b.r
 have o0:=ord0 e.a.n e.b.n e.a.r e.b.r
 have z1:=hz.len
 rw [z7]at z1
 unfold z1j at z1
 have hm:mayB e=(z1r e.a.n e.a.i e.a.s e.a.p && z1r e.b.n e.b.i e.b.s e.b.p && decide (e.p.length<=64) && z7j e):=rfl
 rw [hm]
 generalize z1r e.a.n e.a.i e.a.s e.a.p=va at*
 generalize z1r e.b.n e.b.i e.b.s e.b.p=vb at*
 generalize ordI e.a.n e.b.n e.a.r e.b.r=o at*
 refine ACallsTo.of_body q23ok (by simp) fun hw _=> ?_
 cases va with
 |false=>
  repeat' (first|apply zs_|apply zb_|apply zc_|apply zt_ rfl|apply zf_ rfl|(apply zd_ rfl<;>intro ht<;>try omega)|((first|apply zr_|apply zk_|apply ze_|apply zq_|(apply callW.mk_pu;(first|exact(fun _=>hVa _)))|(apply callW.za;(first|exact(hVa _)))|(apply zG<;>intro ht));all_goals try simp (disch:=first|omega|(simp only [lens,z6,z7,lQr,lQm,lQt,lQd,z8,zh,zi,zj];first|done|omega)) only [go_sem,z1]))
  exact DownV.pure hw z1h
 |true=>
 cases vb with
 |false=>
  repeat' (first|apply zs_|apply zb_|apply zc_|apply zt_ rfl|apply zf_ rfl|(apply zd_ rfl<;>intro ht<;>try omega)|((first|apply zr_|apply zk_|apply ze_|apply zq_|(apply callW.mk_pu;(first|exact(fun _=>hVa _)|exact(fun _=>hVb _)))|(apply callW.za;(first|exact(hVa _)|exact(hVb _)))|(apply zG<;>intro ht));all_goals try simp (disch:=first|omega|(simp only [lens,z6,z7,lQr,lQm,lQt,lQd,z8,zh,zi,zj];first|done|omega)) only [go_sem,z1]))
  exact DownV.pure hw z1h
 |true=>
 by_cases h64:e.p.length<=64
 ·have h64':¬(e.p.length:Int)>64:=by omega
  rw [decide_eq_true h64]
  unfold z7j
  by_cases k1:e.k=1
  ·rw [if_pos k1]
   by_cases c1:o=3
   ·by_cases c2:e.r=zeroH
    ·by_cases c3:(e.p.length:Int)=0
     ·rw [decide_eq_true ⟨(o3.1 c1).1,(o3.1 c1).2,c2,zr9 c3⟩]
      repeat' (first|apply zs_|apply zb_|apply zc_|apply zt_ rfl|apply zf_ rfl|(apply zd_ rfl<;>intro ht<;>try omega)|((first|apply zr_|apply zk_|apply ze_|apply zq_|(apply callW.mk_pu;(first|exact(fun _=>hVa _)|exact(fun _=>hVb _)|exact(fun _=>hO _)))|(apply callW.za;(first|exact(hVa _)|exact(hVb _)|exact(hO _)))|(apply zG<;>intro ht));all_goals try simp (disch:=first|omega|(simp only [lens,z6,z7,lQr,lQm,lQt,lQd,z8,zh,zi,zj];first|done|omega)) only [go_sem,z1,h64',k1,c1,c2,c3,<-z7f]))
      exact DownV.pure hw z1h
     ·rw [decide_eq_false (fun h=>c3 (by rw [h.2.2.2];rfl))]
      repeat' (first|apply zs_|apply zb_|apply zc_|apply zt_ rfl|apply zf_ rfl|(apply zd_ rfl<;>intro ht<;>try omega)|((first|apply zr_|apply zk_|apply ze_|apply zq_|(apply callW.mk_pu;(first|exact(fun _=>hVa _)|exact(fun _=>hVb _)|exact(fun _=>hO _)))|(apply callW.za;(first|exact(hVa _)|exact(hVb _)|exact(hO _)))|(apply zG<;>intro ht));all_goals try simp (disch:=first|omega|(simp only [lens,z6,z7,lQr,lQm,lQt,lQd,z8,zh,zi,zj];first|done|omega)) only [go_sem,z1,h64',k1,c1,c2,c3,<-z7f]))
      exact DownV.pure hw z1h
    ·rw [decide_eq_false (fun h=>c2 h.2.2.1)]
     repeat' (first|apply zs_|apply zb_|apply zc_|apply zt_ rfl|apply zf_ rfl|(apply zd_ rfl<;>intro ht<;>try omega)|((first|apply zr_|apply zk_|apply ze_|apply zq_|(apply callW.mk_pu;(first|exact(fun _=>hVa _)|exact(fun _=>hVb _)|exact(fun _=>hO _)))|(apply callW.za;(first|exact(hVa _)|exact(hVb _)|exact(hO _)))|(apply zG<;>intro ht));all_goals try simp (disch:=first|omega|(simp only [lens,z6,z7,lQr,lQm,lQt,lQd,z8,zh,zi,zj];first|done|omega)) only [go_sem,z1,h64',k1,c1,c2,<-z7f]))
     exact DownV.pure hw z1h
   ·rw [decide_eq_false (fun h=>c1 (o3.2 ⟨h.1,h.2.1⟩))]
    repeat' (first|apply zs_|apply zb_|apply zc_|apply zt_ rfl|apply zf_ rfl|(apply zd_ rfl<;>intro ht<;>try omega)|((first|apply zr_|apply zk_|apply ze_|apply zq_|(apply callW.mk_pu;(first|exact(fun _=>hVa _)|exact(fun _=>hVb _)|exact(fun _=>hO _)))|(apply callW.za;(first|exact(hVa _)|exact(hVb _)|exact(hO _)))|(apply zG<;>intro ht));all_goals try simp (disch:=first|omega|(simp only [lens,z6,z7,lQr,lQm,lQt,lQd,z8,zh,zi,zj];first|done|omega)) only [go_sem,z1,h64',k1,c1]))
    exact DownV.pure hw z1h
  ·rw [if_neg k1]
   by_cases k2:e.k=2
   ·by_cases c1:o=0
    ·by_cases c2:e.r=e.a.r
     ·rw [decide_eq_false (fun h=>h.2.2 c2)]
      repeat' (first|apply zs_|apply zb_|apply zc_|apply zt_ rfl|apply zf_ rfl|(apply zd_ rfl<;>intro ht<;>try omega)|((first|apply zr_|apply zk_|apply ze_|apply zq_|(apply callW.mk_pu;(first|exact(fun _=>hVa _)|exact(fun _=>hVb _)|exact(fun _=>hO _)))|(apply callW.za;(first|exact(hVa _)|exact(hVb _)|exact(hO _)))|(apply zG<;>intro ht));all_goals try simp (disch:=first|omega|(simp only [lens,z6,z7,lQr,lQm,lQt,lQd,z8,zh,zi,zj];first|done|omega)) only [go_sem,z1,h64',k1,k2,c1,c2]))
      exact DownV.pure hw z1h
     ·rw [decide_eq_true ⟨k2,o0.1 c1,c2⟩]
      repeat' (first|apply zs_|apply zb_|apply zc_|apply zt_ rfl|apply zf_ rfl|(apply zd_ rfl<;>intro ht<;>try omega)|((first|apply zr_|apply zk_|apply ze_|apply zq_|(apply callW.mk_pu;(first|exact(fun _=>hVa _)|exact(fun _=>hVb _)|exact(fun _=>hO _)))|(apply callW.za;(first|exact(hVa _)|exact(hVb _)|exact(hO _)))|(apply zG<;>intro ht));all_goals try simp (disch:=first|omega|(simp only [lens,z6,z7,lQr,lQm,lQt,lQd,z8,zh,zi,zj];first|done|omega)) only [go_sem,z1,h64',k1,k2,c1,c2]))
      exact DownV.pure hw z1h
    ·rw [decide_eq_false (fun h=>c1 (o0.2 h.2.1))]
     repeat' (first|apply zs_|apply zb_|apply zc_|apply zt_ rfl|apply zf_ rfl|(apply zd_ rfl<;>intro ht<;>try omega)|((first|apply zr_|apply zk_|apply ze_|apply zq_|(apply callW.mk_pu;(first|exact(fun _=>hVa _)|exact(fun _=>hVb _)|exact(fun _=>hO _)))|(apply callW.za;(first|exact(hVa _)|exact(hVb _)|exact(hO _)))|(apply zG<;>intro ht));all_goals try simp (disch:=first|omega|(simp only [lens,z6,z7,lQr,lQm,lQt,lQd,z8,zh,zi,zj];first|done|omega)) only [go_sem,z1,h64',k1,k2,c1]))
     exact DownV.pure hw z1h
   ·rw [decide_eq_false (fun h=>k2 h.1)]
    repeat' (first|apply zs_|apply zb_|apply zc_|apply zt_ rfl|apply zf_ rfl|(apply zd_ rfl<;>intro ht<;>try omega)|((first|apply zr_|apply zk_|apply ze_|apply zq_|(apply callW.mk_pu;(first|exact(fun _=>hVa _)|exact(fun _=>hVb _)|exact(fun _=>hO _)))|(apply callW.za;(first|exact(hVa _)|exact(hVb _)|exact(hO _)))|(apply zG<;>intro ht));all_goals try simp (disch:=first|omega|(simp only [lens,z6,z7,lQr,lQm,lQt,lQd,z8,zh,zi,zj];first|done|omega)) only [go_sem,z1,h64',k1,k2]))
    exact DownV.pure hw z1h
 ·have h64':(e.p.length:Int)>64:=by omega
  rw [decide_eq_false h64]
  repeat' (first|apply zs_|apply zb_|apply zc_|apply zt_ rfl|apply zf_ rfl|(apply zd_ rfl<;>intro ht<;>try omega)|((first|apply zr_|apply zk_|apply ze_|apply zq_|(apply callW.mk_pu;(first|exact(fun _=>hVa _)|exact(fun _=>hVb _)))|(apply callW.za;(first|exact(hVa _)|exact(hVb _)))|(apply zG<;>intro ht));all_goals try simp (disch:=first|omega|(simp only [lens,z6,z7,lQr,lQm,lQt,lQd,z8,zh,zi,zj];first|done|omega)) only [go_sem,z1,h64']))
  exact DownV.pure hw z1h
end
section
def z3x(key:Hash)(e:Ev):Int:=
 if mayB e=false then 2 else if z4f key e.a.n e.a.i e.a.r e.a.s e.a.p ≠ 0 \/z4f key e.b.n e.b.i e.b.r e.b.s e.b.p ≠ 0 then 81 else if e.k=2/\ chkH e.a.n e.b.n e.r e.b.r e.p ≠ 0 then 80 else 0
def zdh(e:Ev):AV:=if mayB e=true then .tup [.str (z1p e),.int .i64 0]else .tup [.str [],.int .i64 2]
def zba(e f:Ev):Bool:=decide (e.k=f.k) && z7h e.a.n f.a.n e.a.i f.a.i e.a.r f.a.r e.a.s f.a.s e.a.p f.a.p && z7h e.b.n f.b.n e.b.i f.b.i e.b.r f.b.r e.b.s f.b.s e.b.p f.b.p && decide (e.r=f.r) && decide (e.p=f.p)
def EvOk(e:Ev):Prop:=e.a.p.length<1000000/\ e.b.p.length<1000000/\ e.p.length<1000000
theorem zjw{h:Hdr}(hv:valH h=true):putV h.n h.i h.r h.s h.p=.tup [.str (z2f h),.int .i64 0]:=by
 unfold putV
 rw [if_pos (show z1r h.n h.i h.s h.p=true from hv)]
 rfl
theorem rlS2{n:Nat}(s:List UInt8)(k:Int):RL n (.tup [.str s,.int .i64 k]):=by simp [RL,RLs]
attribute [local irreducible] ACallsTo ACallsP
theorem zcs(O:Store)(key:Hash)(e:Ev)(x y z:AV)(hx:RdSl O 32 (hr e.a.p) x)(hy:RdSl O 32 (hr e.b.p) y)(hz:RdSl O 32 (hr e.p) z)(hl:EvOk e):
  ACallsTo TC 17 [.agg (hc key),.agg (evX e x y z)] O (.int .i64 (z3x key e)) O:=by
 have hS:=fun t=>zc8 (O++t) e x y z hx.app hy.app hz.app
 have hA:=fun t=>zfw (O++t) key e.a.n e.a.i e.a.r e.a.s e.a.p x hx.app
 have hB:=fun t=>zfw (O++t) key e.b.n e.b.i e.b.r e.b.s e.b.p y hy.app
 have hP:=fun t=>zsj (O++t) e.a.n e.b.n e.r e.b.r z e.p hz.app hl.2.2
 unfold z3x
 generalize z4f key e.a.n e.a.i e.a.r e.a.s e.a.p=ca at*
 generalize z4f key e.b.n e.b.i e.b.r e.b.s e.b.p=cb at*
 generalize chkH e.a.n e.b.n e.r e.b.r e.p=cp at*
 generalize mayB e=mb at*
 refine ACallsTo.of_body q1zok (by simp) fun hw _=> ?_
 repeat' (first|apply zs_|apply zb_|apply zc_|apply zt_ rfl|apply zf_ rfl|(apply zd_ rfl<;>intro ht<;>try omega)|((first|apply zr_|apply zk_|apply ze_|apply zq_|(apply zG<;>intro ht));all_goals try simp (disch:=first|omega|(simp only [lens,z6,z7,lQr,lQm,lQt,lQd,z8,zh,zi,zj];first|done|omega)) only [go_sem]))
 refine zW.reg2 ?_ ?_
 all_goals
  simp (disch:=first|omega|(simp only [lens,z6,z7,lQr,lQm,lQt,lQd,z8,zh,zi,zj];first|done|omega)) only [go_sem]
  cases mb with
  |false=>
   repeat' (first|apply zs_|apply zb_|apply zc_|apply zt_ rfl|apply zf_ rfl|(apply zd_ rfl<;>intro ht<;>try omega)|((first|apply zr_|apply zk_|apply ze_|apply zq_|(apply callW.mk_pu;(first|exact(fun _=>hS _)))|(apply callW.za;(first|exact(hS _)))|(apply zG<;>intro ht));all_goals try simp (disch:=first|omega|(simp only [lens,z6,z7,lQr,lQm,lQt,lQd,z8,zh,zi,zj];first|done|omega)) only [go_sem]))
   exact DownV.pure hw z3e
  |true=>
   rw [if_neg (by simp)]
   by_cases h1:ca=0
   ·by_cases h2:cb=0
    ·rw [if_neg (by omega)]
     by_cases k2:e.k=2
     ·by_cases h3:cp=0
      ·rw [if_neg (by omega)]
       repeat' (first|apply zs_|apply zb_|apply zc_|apply zt_ rfl|apply zf_ rfl|(apply zd_ rfl<;>intro ht<;>try omega)|((first|apply zr_|apply zk_|apply ze_|apply zq_|(apply callW.mk_pu;(first|exact(fun _=>hS _)|exact(fun _=>hA _)|exact(fun _=>hB _)|exact(fun _=>hP _)))|(apply callW.za;(first|exact(hS _)|exact(hA _)|exact(hB _)|exact(hP _)))|(apply zG<;>intro ht));all_goals try simp (disch:=first|omega|(simp only [lens,z6,z7,lQr,lQm,lQt,lQd,z8,zh,zi,zj];first|done|omega)) only [go_sem,h1,h2,k2,h3]))
       exact DownV.pure hw z3e
      ·rw [if_pos ⟨k2,h3⟩]
       repeat' (first|apply zs_|apply zb_|apply zc_|apply zt_ rfl|apply zf_ rfl|(apply zd_ rfl<;>intro ht<;>try omega)|((first|apply zr_|apply zk_|apply ze_|apply zq_|(apply callW.mk_pu;(first|exact(fun _=>hS _)|exact(fun _=>hA _)|exact(fun _=>hB _)|exact(fun _=>hP _)))|(apply callW.za;(first|exact(hS _)|exact(hA _)|exact(hB _)|exact(hP _)))|(apply zG<;>intro ht));all_goals try simp (disch:=first|omega|(simp only [lens,z6,z7,lQr,lQm,lQt,lQd,z8,zh,zi,zj];first|done|omega)) only [go_sem,h1,h2,k2,h3]))
       exact DownV.pure hw z3e
     ·rw [if_neg (by omega)]
      repeat' (first|apply zs_|apply zb_|apply zc_|apply zt_ rfl|apply zf_ rfl|(apply zd_ rfl<;>intro ht<;>try omega)|((first|apply zr_|apply zk_|apply ze_|apply zq_|(apply callW.mk_pu;(first|exact(fun _=>hS _)|exact(fun _=>hA _)|exact(fun _=>hB _)|exact(fun _=>hP _)))|(apply callW.za;(first|exact(hS _)|exact(hA _)|exact(hB _)|exact(hP _)))|(apply zG<;>intro ht));all_goals try simp (disch:=first|omega|(simp only [lens,z6,z7,lQr,lQm,lQt,lQd,z8,zh,zi,zj];first|done|omega)) only [go_sem,h1,h2,k2]))
      exact DownV.pure hw z3e
    ·rw [if_pos (.inr h2)]
     repeat' (first|apply zs_|apply zb_|apply zc_|apply zt_ rfl|apply zf_ rfl|(apply zd_ rfl<;>intro ht<;>try omega)|((first|apply zr_|apply zk_|apply ze_|apply zq_|(apply callW.mk_pu;(first|exact(fun _=>hS _)|exact(fun _=>hA _)|exact(fun _=>hB _)))|(apply callW.za;(first|exact(hS _)|exact(hA _)|exact(hB _)))|(apply zG<;>intro ht));all_goals try simp (disch:=first|omega|(simp only [lens,z6,z7,lQr,lQm,lQt,lQd,z8,zh,zi,zj];first|done|omega)) only [go_sem,h1,h2]))
     exact DownV.pure hw z3e
   ·rw [if_pos (.inl h1)]
    repeat' (first|apply zs_|apply zb_|apply zc_|apply zt_ rfl|apply zf_ rfl|(apply zd_ rfl<;>intro ht<;>try omega)|((first|apply zr_|apply zk_|apply ze_|apply zq_|(apply callW.mk_pu;(first|exact(fun _=>hS _)|exact(fun _=>hA _)))|(apply callW.za;(first|exact(hS _)|exact(hA _)))|(apply zG<;>intro ht));all_goals try simp (disch:=first|omega|(simp only [lens,z6,z7,lQr,lQm,lQt,lQd,z8,zh,zi,zj];first|done|omega)) only [go_sem,h1]))
    exact DownV.pure hw z3e
end
section
theorem zlg{h:Hdr}(hv:valH h=true):(z1s (z2f h)).length<2000000:=by
 have h1:=z8k hv
 have h2:=z2u (z2f h).length
 unfold z1s
 rw [List.length_append];omega
attribute [local irreducible] ACallsTo ACallsP
theorem zm7(O:Store)(e:Ev)(x y z:AV)(hx:RdSl O 32 (hr e.a.p) x)(hy:RdSl O 32 (hr e.b.p) y)(hz:RdSl O 32 (hr e.p) z)(hl:EvOk e):
  ACallsTo TC 38 [.agg (evX e x y z)] O (zdh e) O:=by
 have hS:=fun t=>zc8 (O++t) e x y z hx.app hy.app hz.app
 refine ACallsTo.of_body q1yok (by simp) fun hw _=> ?_
 unfold zdh
 by_cases hm:mayB e=true
 ·obtain⟨va,vb,h64,hk⟩:=ze3 hm
  rw [if_pos hm]
  rw [hm]at hS
  have hA:=fun t=>zge (O++t) e.a.n e.a.i e.a.r e.a.s e.a.p x hx.app
  have hB:=fun t=>zge (O++t) e.b.n e.b.i e.b.r e.b.s e.b.p y hy.app
  rw [zjw va]at hA
  rw [zjw vb]at hB
  have hTa:=fun O=>zb7 O (z2f e.a) (by have:=z8k va;omega)
  have hTb:=fun O=>zb7 O (z2f e.b) (by have:=z8k vb;omega)
  have hH:=fun O=>z4t O e.r
  have hHs:=fun t=>zhh (O++t) e.p z hz.app hl.2.2
  have b1:=zlg va
  have b2:=zlg vb
  have b3:=z2u 1
  have b4:=z2u 2
  have b5:=e.r.2
  have b6:=zbf (l:=e.p)
  rcases ziw hk with⟨k1,_,_⟩|k2
  ·have hN:∀O,ACallsTo TC 74 [.int .u64 1] O (.str (numS 1)) O:=fun O=>z84 O 1 (by omega)
   have he:z1p e=numS 1++z1s (z2f e.a)++z1s (z2f e.b):=by
    unfold z1p
    rw [k1,if_neg (by omega)];simp
   rw [he]
   repeat' (first|apply zs_|apply zb_|apply zc_|apply zt_ rfl|apply zf_ rfl|(apply zd_ rfl<;>intro ht<;>try omega)|((first|apply zr_|apply zk_|apply ze_|apply zq_|(apply callW.mk_pu;(first|exact(fun _=>hS _)|exact(fun _=>hA _)|exact(fun _=>hB _)|exact(fun _=>hN _)|exact(fun _=>hTa _)|exact(fun _=>hTb _)))|(apply callW.za;(first|exact(hS _)|exact(hA _)|exact(hB _)|exact(hN _)|exact(hTa _)|exact(hTb _)))|(apply zG<;>intro ht));all_goals try simp (disch:=first|omega|(simp only [lens,z6,z7,lQr,lQm,lQt,lQd,z8,zh,zi,zj];first|done|omega)) only [go_sem,k1]))
   exact DownV.pure hw (rlS2 _ _)
  ·have hN:∀O,ACallsTo TC 74 [.int .u64 2] O (.str (numS 2)) O:=fun O=>z84 O 2 (by omega)
   have he:z1p e=numS 2++z1s (z2f e.a)++z1s (z2f e.b)++(e.r.1++z30 e.p):=by
    unfold z1p
    rw [k2,if_pos (by omega)];simp
   rw [he]
   repeat' (first|apply zs_|apply zb_|apply zc_|apply zt_ rfl|apply zf_ rfl|(apply zd_ rfl<;>intro ht<;>try omega)|((first|apply zr_|apply zk_|apply ze_|apply zq_|(apply callW.mk_pu;(first|exact(fun _=>hS _)|exact(fun _=>hA _)|exact(fun _=>hB _)|exact(fun _=>hN _)|exact(fun _=>hTa _)|exact(fun _=>hTb _)|exact(fun _=>hH _)|exact(fun _=>hHs _)))|(apply callW.za;(first|exact(hS _)|exact(hA _)|exact(hB _)|exact(hN _)|exact(hTa _)|exact(hTb _)|exact(hH _)|exact(hHs _)))|(apply zG<;>intro ht));all_goals try simp (disch:=first|omega|(simp only [lens,z6,z7,lQr,lQm,lQt,lQd,z8,zh,zi,zj];first|done|omega)) only [go_sem,k2]))
   exact DownV.pure hw (rlS2 _ _)
 ·rw [if_neg hm]
  rw [show mayB e=false by simpa using hm]at hS
  repeat' (first|apply zs_|apply zb_|apply zc_|apply zt_ rfl|apply zf_ rfl|(apply zd_ rfl<;>intro ht<;>try omega)|((first|apply zr_|apply zk_|apply ze_|apply zq_|(apply callW.mk_pu;(first|exact(fun _=>hS _)))|(apply callW.za;(first|exact(hS _)))|(apply zG<;>intro ht));all_goals try simp (disch:=first|omega|(simp only [lens,z6,z7,lQr,lQm,lQt,lQd,z8,zh,zi,zj];first|done|omega)) only [go_sem]))
  exact DownV.pure hw (rlS2 _ _)
end
section
attribute [local irreducible] ACallsTo ACallsP
theorem zm8(O:Store)(e f:Ev)(x y z x2 y2 z2:AV)(hx:RdSl O 32 (hr e.a.p) x)(hy:RdSl O 32 (hr e.b.p) y)(hz:RdSl O 32 (hr e.p) z)(hl:EvOk e)
  (hx2:RdSl O 32 (hr f.a.p) x2) (hy2:RdSl O 32 (hr f.b.p) y2) (hz2:RdSl O 32 (hr f.p) z2) (hl2:EvOk f):
  ACallsTo TC 41 [.agg (evX e x y z),.agg (evX f x2 y2 z2)] O (.bool (zba e f)) O:=by
 have hA:=fun t=>zfz (O++t) e.a.n f.a.n e.a.i f.a.i e.a.r f.a.r e.a.s f.a.s e.a.p f.a.p x x2 hx.app hx2.app hl.1 hl2.1
 have hB:=fun t=>zfz (O++t) e.b.n f.b.n e.b.i f.b.i e.b.r f.b.r e.b.s f.b.s e.b.p f.b.p y y2 hy.app hy2.app hl.2.1 hl2.2.1
 have hE:=fun t=>zfu (O++t) e.p f.p z z2 hz.app hz2.app (by have:=hl.2.2;omega) (by have:=hl2.2.2;omega)
 unfold zba
 generalize z7h e.a.n f.a.n e.a.i f.a.i e.a.r f.a.r e.a.s f.a.s e.a.p f.a.p=ba at*
 generalize z7h e.b.n f.b.n e.b.i f.b.i e.b.r f.b.r e.b.s f.b.s e.b.p f.b.p=bb at*
 generalize decide (e.p=f.p)=bp at*
 refine ACallsTo.of_body q20ok (by simp) fun hw _=> ?_
 by_cases h1:e.k=f.k
 ·rw [decide_eq_true h1]
  cases ba with
  |false=>
   repeat' (first|apply zs_|apply zb_|apply zc_|apply zt_ rfl|apply zf_ rfl|(apply zd_ rfl<;>intro ht<;>try omega)|((first|apply zr_|apply zk_|apply ze_|apply zq_|(apply callW.mk_pu;(first|exact(fun _=>hA _)))|(apply callW.za;(first|exact(hA _)))|(apply zG<;>intro ht));all_goals try simp (disch:=first|omega|(simp only [lens,z6,z7,lQr,lQm,lQt,lQd,z8,zh,zi,zj];first|done|omega)) only [go_sem,h1]))
   exact DownV.pure hw z1h
  |true=>
  cases bb with
  |false=>
   repeat' (first|apply zs_|apply zb_|apply zc_|apply zt_ rfl|apply zf_ rfl|(apply zd_ rfl<;>intro ht<;>try omega)|((first|apply zr_|apply zk_|apply ze_|apply zq_|(apply callW.mk_pu;(first|exact(fun _=>hA _)|exact(fun _=>hB _)))|(apply callW.za;(first|exact(hA _)|exact(hB _)))|(apply zG<;>intro ht));all_goals try simp (disch:=first|omega|(simp only [lens,z6,z7,lQr,lQm,lQt,lQd,z8,zh,zi,zj];first|done|omega)) only [go_sem,h1]))
   exact DownV.pure hw z1h
  |true=>
  by_cases h2:e.r=f.r
  ·rw [decide_eq_true h2]
   repeat' (first|apply zs_|apply zb_|apply zc_|apply zt_ rfl|apply zf_ rfl|(apply zd_ rfl<;>intro ht<;>try omega)|((first|apply zr_|apply zk_|apply ze_|apply zq_|(apply callW.mk_pu;(first|exact(fun _=>hA _)|exact(fun _=>hB _)|exact(fun _=>hE _)))|(apply callW.za;(first|exact(hA _)|exact(hB _)|exact(hE _)))|(apply zG<;>intro ht));all_goals try simp (disch:=first|omega|(simp only [lens,z6,z7,lQr,lQm,lQt,lQd,z8,zh,zi,zj];first|done|omega)) only [go_sem,h1,h2]))
   exact DownV.pure hw z1h
  ·rw [decide_eq_false h2]
   repeat' (first|apply zs_|apply zb_|apply zc_|apply zt_ rfl|apply zf_ rfl|(apply zd_ rfl<;>intro ht<;>try omega)|((first|apply zr_|apply zk_|apply ze_|apply zq_|(apply callW.mk_pu;(first|exact(fun _=>hA _)|exact(fun _=>hB _)))|(apply callW.za;(first|exact(hA _)|exact(hB _)))|(apply zG<;>intro ht));all_goals try simp (disch:=first|omega|(simp only [lens,z6,z7,lQr,lQm,lQt,lQd,z8,zh,zi,zj];first|done|omega)) only [go_sem,h1,h2]))
   exact DownV.pure hw z1h
 ·rw [decide_eq_false h1]
  repeat' (first|apply zs_|apply zb_|apply zc_|apply zt_ rfl|apply zf_ rfl|(apply zd_ rfl<;>intro ht<;>try omega)|((first|apply zr_|apply zk_|apply ze_|apply zq_|(apply zG<;>intro ht));all_goals try simp (disch:=first|omega|(simp only [lens,z6,z7,lQr,lQm,lQt,lQd,z8,zh,zi,zj];first|done|omega)) only [go_sem,h1]))
  exact DownV.pure hw z1h
end
section
def sgV(h:Hdr):AV:=.agg (sgX h (zm 32 (hr h.p)))
def z88:Option Ev->AV
 |none=> .tup [.agg evO,.int .i64 10]
 |some e=> .tup [.agg (evL e),.int .i64 0]
theorem rdV_D(s:List UInt8):rdV (z1q s)=.tup [.int .u64 ((rdD s).1:Nat),.str (rdD s).2,.bool (z1q s).isSome]:=by
 unfold rdD;cases z1q s<;>rfl
theorem stV_D(s:List UInt8):stV (cutS s)=.tup [.str (cutD s).1,.str (cutD s).2,.bool (cutS s).isSome]:=by
 unfold cutD;cases cutS s<;>rfl
theorem unV_D(s:List UInt8):unV (unS s)=.tup [.agg (hc (unD s).1),.str (unD s).2,.bool (unS s).isSome]:=by
 unfold unD;cases unS s<;>rfl
theorem unsV_D(s:List UInt8):unsV (unsS s)=.tup [zm 32 (hr (unsD s).1),.str (unsD s).2,.bool (unsS s).isSome]:=by
 unfold unsD;cases unsS s<;>rfl
theorem getV_D(s:List UInt8):getV (getH s)=.tup [sgV (z4d s),.int .i64 (if (getH s).isSome=true then 0 else 10)]:=by
 unfold z4d;cases getH s<;>rfl
theorem sgnS_D(s:List UInt8):(sgnS s).isSome=((cutS s).isSome && (getH (cutD s).1).isSome):=by
 unfold sgnS cutD
 cases cutS s with
 |none=>rfl
 |some x=>simp
theorem zda(s:List UInt8):(cutD s).1.length<=s.length/\ (cutD s).2.length<=s.length:=by
 unfold cutD
 cases h:cutS s with
 |none=>simp
 |some x=>
  have:=zdb (g:=x.1) (r:=x.2) h
  have:=congrArg List.length this
  unfold z1s at this
  simp only [List.length_append]at this
  simp only [Option.getD_some]
  omega
theorem rdD_le(s:List UInt8):(rdD s).2.length<=s.length:=by
 unfold rdD
 cases h:z1q s with
 |none=>simp
 |some x=>
  have:=(z7n (n:=x.1) (r:=x.2) h).2
  simp only [Option.getD_some]
  omega
theorem rdD_lt(s:List UInt8):(rdD s).1<18446744073709551616:=by
 unfold rdD
 cases h:z1q s with
 |none=>simp
 |some x=>exact(z7n (n:=x.1) (r:=x.2) h).1
theorem unD_le(s:List UInt8):(unD s).2.length<=s.length:=by
 unfold unD
 cases h:unS s with
 |none=>simp
 |some x=>
  have:=congrArg List.length (zfm (h:=x.1) (r:=x.2) h)
  rw [List.length_append]at this
  simp only [Option.getD_some]
  omega
def gE(b1:Bool)(n:Nat)(b2:Bool)(A:Hdr)(b3:Bool)(B:Hdr)(t:List UInt8)(b4:Bool)(r:Hash)(b5:Bool)(p:List Hash)(u:List UInt8):Option Ev:=
 if b1=true/\ b2=true/\ b3=true then
  if n=1 then(if t=[]/\ mayB ⟨1,A,B,zeroH,[]⟩=true then some ⟨1,A,B,zeroH,[]⟩else none)
  else if n=2 then(if b4=true/\ b5=true/\ u=[]/\ mayB ⟨2,A,B,r,p⟩=true then some ⟨2,A,B,r,p⟩else none)else none
 else none
theorem getE_D(s:List UInt8):getE s=gE (z1q s).isSome (rdD s).1 (sgnS (rdD s).2).isSome (z4d (cutD (rdD s).2).1) (sgnS (cutD (rdD s).2).2).isSome (z4d (cutD (cutD (rdD s).2).2).1) (cutD (cutD (rdD s).2).2).2
  (unS (cutD (cutD (rdD s).2).2).2).isSome (unD (cutD (cutD (rdD s).2).2).2).1 (unsS (unD (cutD (cutD (rdD s).2).2).2).2).isSome (unsD (unD (cutD (cutD (rdD s).2).2).2).2).1 (unsD (unD (cutD (cutD (rdD s).2).2).2).2).2:=by
 unfold getE z7k gE
 cases e1:z1q s with
 |none=>rfl
 |some x=>
 have hr:rdD s=x:=by unfold rdD;rw [e1];rfl
 rw [hr,Option.bind_some]
 cases e2:sgnS x.2 with
 |none=>rw [if_neg (by simp)];rfl
 |some y=>
 obtain⟨a1,a2⟩:=sgn_D (h:=y.1) (r:=y.2) e2
 rw [a1,a2,Option.bind_some]
 cases e3:sgnS y.2 with
 |none=>rw [if_neg (by simp)];rfl
 |some z=>
 obtain⟨b1,b2⟩:=sgn_D (h:=z.1) (r:=z.2) e3
 have e0:(some x).isSome=true/\ (some y).isSome=true/\ (some z).isSome=true:=⟨rfl,rfl,rfl⟩
 rw [b1,b2,Option.bind_some,if_pos e0]
 by_cases k1:x.1=1
 ·rw [if_pos k1,if_pos k1,Option.bind_some]
 ·rw [if_neg k1,if_neg k1]
  by_cases k2:x.1=2
  ·rw [if_pos k2,if_pos k2]
   cases e4:unS z.2 with
   |none=>rw [if_neg (by simp)];rfl
   |some u=>
   have hu:unD z.2=u:=by unfold unD;rw [e4];rfl
   rw [Option.bind_some,hu]
   cases e5:unsS u.2 with
   |none=>rw [if_neg (by simp)];rfl
   |some v=>
   have hv:unsD u.2=v:=by unfold unsD;rw [e5];rfl
   rw [Option.map_some,Option.bind_some,hv]
   by_cases hc:v.2=[]/\ mayB ⟨2,y.1,z.1,u.1,v.1⟩=true
   ·rw [if_pos hc,if_pos ⟨rfl,rfl,hc⟩]
   ·rw [if_neg hc,if_neg (fun h=>hc h.2.2)]
  ·rw [if_neg k2,if_neg k2];rfl
theorem rl3{n:Nat}(h:Hdr)(s:List UInt8)(b:Bool):RL n (.tup [.agg (sgX h (zm 32 (hr h.p))),.str s,.bool b]):=by
 simp only [RL,RLs]
 exact⟨z6p (z7o (z27 _)),trivial,trivial,trivial⟩
theorem rlN{n:Nat}:RL n .nilsl:=by simp [RL]
theorem rlI{n:Nat}{k:IntKind}{i:Int}:RL n (.int k i):=by simp [RL]
attribute [local irreducible] ACallsTo ACallsP
theorem zl5(O:Store)(s:List UInt8)(hs:s.length<1000000000):ACallsTo TC 79 [.str s] O (.tup [sgV (z4d (cutD s).1),.str (cutD s).2,.bool (sgnS s).isSome]) O:=by
 have hC:=fun O=>zd7 O s hs
 have hG:=fun O=>Get_to O (cutD s).1 (by have:=(zda s).1;omega)
 have hn:∀i:Int,(cutS s).isSome=false->(getH (cutD s).1).isSome=false:=fun _ h=>by
  unfold cutD
  cases e:cutS s with
  |none=>rfl
  |some x=>rw [e]at h;cases h
 rw [stV_D]at hC
 rw [getV_D]at hG
 rw [sgnS_D]
 generalize (cutS s).isSome=b at*
 generalize (getH (cutD s).1).isSome=c at*
 generalize (cutD s).1=t at*
 generalize (cutD s).2=u at*
 unfold sgV at*
 generalize z4d t=h at*
 have hsl:=zh h (zm 32 (hr h.p))
 have hzl:sgZ.length=36:=zh zHd .nilsl
 have hzd:sgZ.drop 36=[]:=z2b zHd .nilsl
 refine ACallsTo.of_body q24ok (by simp) fun hw _=> ?_
 cases b with
 |false=>
  rw [hn 0 rfl]at*
  repeat' (first|apply zs_|apply zb_|apply zc_|apply zt_ rfl|apply zf_ rfl|(apply zd_ rfl<;>intro ht<;>try omega)|((first|apply zr_|apply zk_|apply ze_|apply zq_|(apply callW.mk_pu;(first|exact(fun _=>hC _)|exact(fun _=>hG _)))|(apply callW.za;(first|exact(hC _)|exact(hG _)))|(apply zG<;>intro ht));all_goals try simp (disch:=first|omega|(simp only [lens,z6,z7,lQr,lQm,lQt,lQd,z8,zh,zi,zj];first|done|omega)) only [go_sem,hsl,hzl,hzd,List.append_nil,z2b]))
  exact DownV.pure hw (rl3 _ _ _)
 |true=>
  cases c with
  |false=>
   repeat' (first|apply zs_|apply zb_|apply zc_|apply zt_ rfl|apply zf_ rfl|(apply zd_ rfl<;>intro ht<;>try omega)|((first|apply zr_|apply zk_|apply ze_|apply zq_|(apply callW.mk_pu;(first|exact(fun _=>hC _)|exact(fun _=>hG _)))|(apply callW.za;(first|exact(hC _)|exact(hG _)))|(apply zG<;>intro ht));all_goals try simp (disch:=first|omega|(simp only [lens,z6,z7,lQr,lQm,lQt,lQd,z8,zh,zi,zj];first|done|omega)) only [go_sem,hsl,hzl,hzd,List.append_nil,z2b]))
   exact DownV.pure hw (rl3 _ _ _)
  |true=>
   repeat' (first|apply zs_|apply zb_|apply zc_|apply zt_ rfl|apply zf_ rfl|(apply zd_ rfl<;>intro ht<;>try omega)|((first|apply zr_|apply zk_|apply ze_|apply zq_|(apply callW.mk_pu;(first|exact(fun _=>hC _)|exact(fun _=>hG _)))|(apply callW.za;(first|exact(hC _)|exact(hG _)))|(apply zG<;>intro ht));all_goals try simp (disch:=first|omega|(simp only [lens,z6,z7,lQr,lQm,lQt,lQd,z8,zh,zi,zj];first|done|omega)) only [go_sem,hsl,hzl,hzd,List.append_nil,z2b]))
   exact DownV.pure hw (rl3 _ _ _)
theorem rlE{n:Nat}(e:Ev){x y z w:AV}(hx:RL n x)(hy:RL n y)(hz:RL n z)(hw:RL n w):RL n (.tup [.agg (evX e x y z),w]):=by
 simp only [RL,RLs]
 exact⟨zby e x y z hx hy hz,hw,trivial⟩
theorem rlO{n:Nat}{w:AV}(hw:RL n w):RL n (.tup [.agg evO,w]):=rlE evZ0 rlN rlN rlN hw
theorem zct(O:Store)(s:List UInt8)(hs:s.length<1000000000):ACallsTo TC 40 [.str s] O (z88 (getE s)) O:=by
 have l1:=rdD_le s
 have l2:=(zda (rdD s).2).2
 have l3:=(zda (cutD (rdD s).2).2).2
 have l4:=unD_le (cutD (cutD (rdD s).2).2).2
 have hR:=fun O=>z85 O s hs
 have hA:=fun O=>zl5 O (rdD s).2 (by omega)
 have hB:=fun O=>zl5 O (cutD (rdD s).2).2 (by omega)
 have hU:=fun O=>z86 O (cutD (cutD (rdD s).2).2).2 (by omega)
 have hUs:=fun O=>zd8 O (unD (cutD (cutD (rdD s).2).2).2).2 (by omega)
 have hlt:=rdD_lt s
 simp only [rdV_D,unV_D,unsV_D]at hR hU hUs
 rw [getE_D]
 clear l1 l2 l3 l4
 generalize (z1q s).isSome=b1 at*
 generalize (rdD s).1=n at*
 generalize (rdD s).2=t1 at*
 generalize (sgnS t1).isSome=b2 at*
 generalize z4d (cutD t1).1=A at*
 generalize (cutD t1).2=t2 at*
 generalize (sgnS t2).isSome=b3 at*
 generalize z4d (cutD t2).1=B at*
 generalize (cutD t2).2=t3 at*
 generalize (unS t3).isSome=b4 at*
 generalize (unD t3).1=r at*
 generalize (unD t3).2=t4 at*
 generalize (unsS t4).isSome=b5 at*
 generalize (unsD t4).1=p at*
 generalize (unsD t4).2=u at*
 unfold sgV at*
 have hS1:=fun t=>zc8 (O++t) ⟨1,A,B,zeroH,[]⟩ (zm 32 (hr A.p)) (zm 32 (hr B.p)) .nilsl z4o z4o (.of (.inl ⟨rfl,rfl⟩))
 have hS2:=fun t=>zc8 (O++t) ⟨2,A,B,r,p⟩ (zm 32 (hr A.p)) (zm 32 (hr B.p)) (zm 32 (hr p)) z4o z4o z4o
 have rA:∀k,RL k (zm 32 (hr A.p)):=fun k=>z7o (z27 _)
 have rB:∀k,RL k (zm 32 (hr B.p)):=fun k=>z7o (z27 _)
 have rP:∀k,RL k (zm 32 (hr p)):=fun k=>z7o (z27 _)
 have cP:cellsOf (zm 32 (hr p))=some [zm 32 (hr p)]:=zf8
 have hv1:z88 (some ⟨1,A,B,zeroH,[]⟩)=.tup [.agg (evX ⟨1,A,B,zeroH,[]⟩ (zm 32 (hr A.p)) (zm 32 (hr B.p)) .nilsl),.int .i64 0]:=rfl
 have hv2:z88 (some ⟨2,A,B,r,p⟩)=.tup [.agg (evX ⟨2,A,B,r,p⟩ (zm 32 (hr A.p)) (zm 32 (hr B.p)) (zm 32 (hr p))),.int .i64 0]:=rfl
 have hv0:z88 none=.tup [.agg evO,.int .i64 10]:=rfl
 have hzl:sgZ.length=36:=zh zHd .nilsl
 have hzd:sgZ.drop 36=[]:=z2b zHd .nilsl
 have pX:∀(e:Ev) (x y z v:AV),(evX e x y z).take 105++ [v]=evX e x y v:=fun e x y z v=>by have:=zbd e x y z v;rwa [z1t]at this
 have hO:evO=evX ⟨0,zHd,zHd,zeroH,[]⟩ .nilsl .nilsl .nilsl:=rfl
 unfold cellsOf at cP
 generalize zm 32 (hr A.p)=xA at*
 generalize zm 32 (hr B.p)=xB at*
 generalize zm 32 (hr p)=xP at*
 unfold gE
 refine ACallsTo.of_body q21ok (by simp) fun hw _=> ?_
 cases b1 with
 |false=>
  rw [if_neg (by simp),hv0]
  repeat' (first|apply zs_|apply zb_|apply zc_|apply zt_ rfl|apply zf_ rfl|(apply zd_ rfl<;>intro ht<;>try omega)|((first|apply zr_|apply zk_|apply ze_|apply zq_|(apply callW.mk_pu;(first|exact(fun _=>hR _)|exact(fun _=>hA _)|exact(fun _=>hB _)))|(apply callW.za;(first|exact(hR _)|exact(hA _)|exact(hB _)))|(apply zG<;>intro ht));all_goals try simp (disch:=first|omega|(simp only [lens,z6,z7,lQr,lQm,lQt,lQd,z8,zh,zi,zj];first|done|omega)) only [go_sem,hzl,hzd,zh,zi,zj,z1t,List.append_nil,z2b]))
  exact DownV.pure hw (rlO rlI)
 |true=>
 cases b2 with
 |false=>
  rw [if_neg (by simp),hv0]
  repeat' (first|apply zs_|apply zb_|apply zc_|apply zt_ rfl|apply zf_ rfl|(apply zd_ rfl<;>intro ht<;>try omega)|((first|apply zr_|apply zk_|apply ze_|apply zq_|(apply callW.mk_pu;(first|exact(fun _=>hR _)|exact(fun _=>hA _)|exact(fun _=>hB _)))|(apply callW.za;(first|exact(hR _)|exact(hA _)|exact(hB _)))|(apply zG<;>intro ht));all_goals try simp (disch:=first|omega|(simp only [lens,z6,z7,lQr,lQm,lQt,lQd,z8,zh,zi,zj];first|done|omega)) only [go_sem,hzl,hzd,zh,zi,zj,z1t,List.append_nil,z2b]))
  exact DownV.pure hw (rlO rlI)
 |true=>
 cases b3 with
 |false=>
  rw [if_neg (by simp),hv0]
  repeat' (first|apply zs_|apply zb_|apply zc_|apply zt_ rfl|apply zf_ rfl|(apply zd_ rfl<;>intro ht<;>try omega)|((first|apply zr_|apply zk_|apply ze_|apply zq_|(apply callW.mk_pu;(first|exact(fun _=>hR _)|exact(fun _=>hA _)|exact(fun _=>hB _)))|(apply callW.za;(first|exact(hR _)|exact(hA _)|exact(hB _)))|(apply zG<;>intro ht));all_goals try simp (disch:=first|omega|(simp only [lens,z6,z7,lQr,lQm,lQt,lQd,z8,zh,zi,zj];first|done|omega)) only [go_sem,hzl,hzd,zh,zi,zj,z1t,List.append_nil,z2b]))
  exact DownV.pure hw (rlO rlI)
 |true=>
 rw [if_pos ⟨rfl,rfl,rfl⟩]
 by_cases n1:n=1
 ·have e1:(n:Int)=1:=by omega
  rw [if_pos n1]
  by_cases h3:t3=[]
  ·subst h3
   generalize mayB ⟨1,A,B,zeroH,[]⟩=m1 at*
   cases m1 with
   |false=>
    rw [if_neg (by simp),hv0]
    repeat' (first|apply zs_|apply zb_|apply zc_|apply zt_ rfl|apply zf_ rfl|(apply zd_ rfl<;>intro ht<;>try omega)|((first|apply zr_|apply zk_|apply ze_|apply zq_|(apply callW.mk_pu;(first|exact(fun _=>hR _)|exact(fun _=>hA _)|exact(fun _=>hB _)|exact(fun _=>hS1 _)))|(apply callW.za;(first|exact(hR _)|exact(hA _)|exact(hB _)|exact(hS1 _)))|(apply zG<;>intro ht));all_goals try simp (disch:=first|omega|(simp only [lens,z6,z7,lQr,lQm,lQt,lQd,z8,zh,zi,zj];first|done|omega)) only [go_sem,hzl,hzd,zh,zi,zj,z1t,List.append_nil,z2b,e1,pX,hO]))
    exact DownV.pure hw (rlO rlI)
   |true=>
    rw [if_pos ⟨rfl,rfl⟩,hv1]
    repeat' (first|apply zs_|apply zb_|apply zc_|apply zt_ rfl|apply zf_ rfl|(apply zd_ rfl<;>intro ht<;>try omega)|((first|apply zr_|apply zk_|apply ze_|apply zq_|(apply callW.mk_pu;(first|exact(fun _=>hR _)|exact(fun _=>hA _)|exact(fun _=>hB _)|exact(fun _=>hS1 _)))|(apply callW.za;(first|exact(hR _)|exact(hA _)|exact(hB _)|exact(hS1 _)))|(apply zG<;>intro ht));all_goals try simp (disch:=first|omega|(simp only [lens,z6,z7,lQr,lQm,lQt,lQd,z8,zh,zi,zj];first|done|omega)) only [go_sem,hzl,hzd,zh,zi,zj,z1t,List.append_nil,z2b,e1,pX,hO]))
    exact DownV.pure hw (rlE _ (rA _) (rB _) rlN rlI)
  ·rw [if_neg (fun h=>h3 h.1),hv0]
   have h3':(t3==[])=false:=by simpa using h3
   repeat' (first|apply zs_|apply zb_|apply zc_|apply zt_ rfl|apply zf_ rfl|(apply zd_ rfl<;>intro ht<;>try omega)|((first|apply zr_|apply zk_|apply ze_|apply zq_|(apply callW.mk_pu;(first|exact(fun _=>hR _)|exact(fun _=>hA _)|exact(fun _=>hB _)))|(apply callW.za;(first|exact(hR _)|exact(hA _)|exact(hB _)))|(apply zG<;>intro ht));all_goals try simp (disch:=first|omega|(simp only [lens,z6,z7,lQr,lQm,lQt,lQd,z8,zh,zi,zj];first|done|omega)) only [go_sem,hzl,hzd,zh,zi,zj,z1t,List.append_nil,z2b,e1,pX,hO,h3,h3']))
   exact DownV.pure hw (rlO rlI)
 ·rw [if_neg n1]
  have n1':¬(n:Int)=1:=by omega
  by_cases n2:n=2
  ·have e1:(n:Int)=2:=by omega
   rw [if_pos n2]
   generalize mayB ⟨2,A,B,r,p⟩=m2 at*
   cases b4 with
   |false=>
    rw [if_neg (by simp),hv0]
    repeat' (first|apply zs_|apply zb_|apply zc_|apply zt_ rfl|apply zf_ rfl|(apply zd_ rfl<;>intro ht<;>try omega)|((first|apply zr_|apply zk_|apply ze_|apply zq_|(apply callW.mk_pu;(first|exact(fun _=>hR _)|exact(fun _=>hA _)|exact(fun _=>hB _)|exact(fun _=>hU _)|exact(fun _=>hUs _)))|(apply callW.za;(first|exact(hR _)|exact(hA _)|exact(hB _)|exact(hU _)|exact(hUs _)))|(apply zG<;>intro ht));all_goals try simp (disch:=first|omega|(simp only [lens,z6,z7,lQr,lQm,lQt,lQd,z8,zh,zi,zj];first|done|omega)) only [go_sem,hzl,hzd,zh,zi,zj,z1t,List.append_nil,z2b,e1,pX,hO,cP]))
    exact DownV.pure hw (rlO rlI)
   |true=>
   cases b5 with
   |false=>
    rw [if_neg (by simp),hv0]
    repeat' (first|apply zs_|apply zb_|apply zc_|apply zt_ rfl|apply zf_ rfl|(apply zd_ rfl<;>intro ht<;>try omega)|((first|apply zr_|apply zk_|apply ze_|apply zq_|(apply callW.mk_pu;(first|exact(fun _=>hR _)|exact(fun _=>hA _)|exact(fun _=>hB _)|exact(fun _=>hU _)|exact(fun _=>hUs _)))|(apply callW.za;(first|exact(hR _)|exact(hA _)|exact(hB _)|exact(hU _)|exact(hUs _)))|(apply zG<;>intro ht));all_goals try simp (disch:=first|omega|(simp only [lens,z6,z7,lQr,lQm,lQt,lQd,z8,zh,zi,zj];first|done|omega)) only [go_sem,hzl,hzd,zh,zi,zj,z1t,List.append_nil,z2b,e1,pX,hO,cP]))
    exact DownV.pure hw (rlO rlI)
   |true=>
   by_cases h3:u=[]
   ·subst h3
    cases m2 with
    |false=>
     rw [if_neg (by simp),hv0]
     repeat' (first|apply zs_|apply zb_|apply zc_|apply zt_ rfl|apply zf_ rfl|(apply zd_ rfl<;>intro ht<;>try omega)|((first|apply zr_|apply zk_|apply ze_|apply zq_|(apply callW.mk_pu;(first|exact(fun _=>hR _)|exact(fun _=>hA _)|exact(fun _=>hB _)|exact(fun _=>hU _)|exact(fun _=>hUs _)|exact(fun _=>hS2 _)))|(apply callW.za;(first|exact(hR _)|exact(hA _)|exact(hB _)|exact(hU _)|exact(hUs _)|exact(hS2 _)))|(apply zG<;>intro ht));all_goals try simp (disch:=first|omega|(simp only [lens,z6,z7,lQr,lQm,lQt,lQd,z8,zh,zi,zj];first|done|omega)) only [go_sem,hzl,hzd,zh,zi,zj,z1t,List.append_nil,z2b,e1,pX,hO,cP]))
     exact DownV.pure hw (rlO rlI)
    |true=>
     rw [if_pos ⟨rfl,rfl,rfl,rfl⟩,hv2]
     repeat' (first|apply zs_|apply zb_|apply zc_|apply zt_ rfl|apply zf_ rfl|(apply zd_ rfl<;>intro ht<;>try omega)|((first|apply zr_|apply zk_|apply ze_|apply zq_|(apply callW.mk_pu;(first|exact(fun _=>hR _)|exact(fun _=>hA _)|exact(fun _=>hB _)|exact(fun _=>hU _)|exact(fun _=>hUs _)|exact(fun _=>hS2 _)))|(apply callW.za;(first|exact(hR _)|exact(hA _)|exact(hB _)|exact(hU _)|exact(hUs _)|exact(hS2 _)))|(apply zG<;>intro ht));all_goals try simp (disch:=first|omega|(simp only [lens,z6,z7,lQr,lQm,lQt,lQd,z8,zh,zi,zj];first|done|omega)) only [go_sem,hzl,hzd,zh,zi,zj,z1t,List.append_nil,z2b,e1,pX,hO,cP]))
     exact DownV.pure hw (rlE _ (rA _) (rB _) (rP _) rlI)
   ·rw [if_neg (fun h=>h3 h.2.2.1),hv0]
    have h3':(u==[])=false:=by simpa using h3
    repeat' (first|apply zs_|apply zb_|apply zc_|apply zt_ rfl|apply zf_ rfl|(apply zd_ rfl<;>intro ht<;>try omega)|((first|apply zr_|apply zk_|apply ze_|apply zq_|(apply callW.mk_pu;(first|exact(fun _=>hR _)|exact(fun _=>hA _)|exact(fun _=>hB _)|exact(fun _=>hU _)|exact(fun _=>hUs _)))|(apply callW.za;(first|exact(hR _)|exact(hA _)|exact(hB _)|exact(hU _)|exact(hUs _)))|(apply zG<;>intro ht));all_goals try simp (disch:=first|omega|(simp only [lens,z6,z7,lQr,lQm,lQt,lQd,z8,zh,zi,zj];first|done|omega)) only [go_sem,hzl,hzd,zh,zi,zj,z1t,List.append_nil,z2b,e1,pX,hO,cP,h3,h3']))
    exact DownV.pure hw (rlO rlI)
  ·rw [if_neg n2,hv0]
   have n2':¬(n:Int)=2:=by omega
   repeat' (first|apply zs_|apply zb_|apply zc_|apply zt_ rfl|apply zf_ rfl|(apply zd_ rfl<;>intro ht<;>try omega)|((first|apply zr_|apply zk_|apply ze_|apply zq_|(apply callW.mk_pu;(first|exact(fun _=>hR _)|exact(fun _=>hA _)|exact(fun _=>hB _)))|(apply callW.za;(first|exact(hR _)|exact(hA _)|exact(hB _)))|(apply zG<;>intro ht));all_goals try simp (disch:=first|omega|(simp only [lens,z6,z7,lQr,lQm,lQt,lQd,z8,zh,zi,zj];first|done|omega)) only [go_sem,hzl,hzd,zh,zi,zj,z1t,List.append_nil,z2b,n1',n2']))
   exact DownV.pure hw (rlO rlI)
end
section
abbrev HV:=Hdr × AV
def hrw(P:List HV):List (List AV):=P.map fun p=>sgX p.1 p.2
theorem z11(P:List HV):(hrw P).length=P.length:=by simp [hrw]
theorem zbi{P:List HV}{i:Nat}(h:i<P.length):(hrw P)[i]? =some (sgX P[i].1 P[i].2):=by
 simp [hrw,List.getElem?_eq_getElem h]
theorem zpz(P:List HV)(i:Nat):(hrw P).drop i=hrw (P.drop i):=by simp [hrw,List.map_drop]
theorem zq0(P:List HV):(hrw P).take P.length=hrw P:=List.take_of_length_le (by rw [z11];exact Nat.le_refl _)
def HOk(P:List HV):Prop:=∀p ∈ P,SlV 32 (hr p.1.p) p.2
theorem HOk.drop{P:List HV}(h:HOk P)(i:Nat):HOk (P.drop i):=fun p hp=>h p (List.mem_of_mem_drop hp)
theorem HOk.at{P:List HV}(h:HOk P){i:Nat}(hi:i<P.length):SlV 32 (hr P[i].1.p) P[i].2:=h _ (List.getElem_mem hi)
def z3i(a b:HV):Bool:=valH a.1 && valH b.1 && decide (ordI a.1.n b.1.n a.1.r b.1.r=3)
def z2r:List HV->Option (HV × HV)
 | []=>none
 |p::P=>match P.find? (z3i p)with
  |some q=>some (p,q)
  |none=>z2r P
theorem zp8{P:List HV}{i:Nat}(hi:i<P.length):z2r (P.drop i)=match (P.drop (i+1)).find? (z3i P[i])with|some q=>some (P[i],q)|none=>z2r (P.drop (i+1)):=by
 rw [List.drop_eq_getElem_cons hi];rfl
theorem zp9{P:List HV}:z2r (P.drop P.length)=none:=by rw [List.drop_length];rfl
theorem zhw{P:List HV}{f:HV->Bool}{j:Nat}(hj:j<P.length):(P.drop j).find? f=if f P[j]=true then some P[j]else(P.drop (j+1)).find? f:=by
 rw [List.drop_eq_getElem_cons hj,List.find?_cons]
 cases f P[j]<;>rfl
def zdr:Option (HV × HV)->AV
 |none=> .tup [.agg evO,.bool false]
 |some (p,q)=> .tup [.agg (evX ⟨1,p.1,q.1,zeroH,[]⟩ p.2 q.2 .nilsl),.bool true]
theorem rlE'{n:Nat}(e:Ev){x y z w:AV}(hx:RL n x)(hy:RL n y)(hz:RL n z)(hw:RL n w):RL n (.tup [.agg (evX e x y z),w]):=by
 simp only [RL,RLs]
 exact⟨zby e x y z hx hy hz,hw,trivial⟩
attribute [local irreducible] ACallsTo ACallsP
theorem zjm(O:Store)(e:Ev)(x y z:AV)(hx:SlV 32 (hr e.a.p) x)(hy:SlV 32 (hr e.b.p) y)(hz:RL O.length z)(ha:e.a.p ≠ [])(hb:e.b.p ≠ [])(hla:e.a.p.length<1000000)(hlb:e.b.p.length<1000000):
  ACallsTo TC 57 [.agg (evX e x y z)] O (.agg (evX e (zm 32 (hr e.a.p)) (zm 32 (hr e.b.p)) z)) O:=by
 have h1:=fun O=>zfs O e.a.p x (.of hx) hla
 have h2:=fun O=>zfs O e.b.p y (.of hy) hlb
 have ne:∀(l:List Hash) (v:AV),l ≠ []->SlV 32 (hr l) v->v ≠ .nilsl:=by
  rintro l v h0 (⟨_,h⟩| ⟨ex,rfl⟩)
  ·exact absurd (hr_nil_iff.1 h) h0
  ·exact nofun
 have e0:∀l:List Hash,l ≠ []->zm 32 (hr l)=.vsl 32 (hr l) false:=fun l h0=>by unfold zm;rw [if_neg fun e=>h0 (hr_nil_iff.1 e)]
 rw [zdx (ne _ _ ha hx)]at h1
 rw [zdx (ne _ _ hb hy)]at h2
 rw [e0 _ ha,e0 _ hb]
 have hel:=zi e (.vsl 32 (hr e.a.p) false) (.vsl 32 (hr e.b.p) false) z
 have hO6:evO.drop 106=[]:=z1t _ _ _ _
 refine ACallsTo.of_body q26ok (by simp) fun hw _=> ?_
 repeat' (first|apply zs_|apply zb_|apply zc_|apply zt_ rfl|apply zf_ rfl|(apply zd_ rfl<;>intro ht<;>try omega)|((first|apply zr_|apply zk_|apply ze_|apply zq_|(apply callW.mk_pu;(first|exact(fun _=>h1 _)|exact(fun _=>h2 _)))|(apply callW.za;(first|exact(h1 _)|exact(h2 _)))|(apply zG<;>intro ht));all_goals try simp (disch:=first|omega|(simp only [lens,z6,z7,lQr,lQm,lQt,lQd,z8,zh,zi,zj,z11];first|done|omega)) only [go_sem,hel,hO6,List.append_nil]))
 have rv:∀(l:List Hash) (b:Bool),RL O.length (.vsl 32 (hr l) b):=fun l b=>by simp only [RL];exact z27 l
 have hev:RL O.length (.agg (evX e (.vsl 32 (hr e.a.p) false) (.vsl 32 (hr e.b.p) false) z)):=by
  simp only [RL]
  exact zby e _ _ _ (rv _ _) (rv _ _) hz
 exact DownV.pure hw hev
theorem zpa(O:Store)(P:List HV)(v:AV)(hv:SlV 36 (hrw P) v)(hP:HOk P)(hl:P.length<1000000):ACallsTo TC 56 [v] O (zdr (z2r P)) O:=by
 have r1:=hv.len
 rw [z11]at r1
 unfold z1j at r1
 refine ACallsTo.of_body q25ok (by simp) fun hw _=> ?_
 repeat' (first|apply zs_|apply zb_|apply zc_|apply zt_ rfl|apply zf_ rfl|(apply zd_ rfl<;>intro ht<;>try omega)|((first|apply zr_|apply zk_|apply ze_|apply zq_|(apply zG<;>intro ht));all_goals try simp (disch:=first|omega|(simp only [lens,z6,z7,lQr,lQm,lQt,lQd,z8,zh,zi,zj,z11];first|done|omega)) only [go_sem,r1]))
 refine zW.loop (fun m J O'=>∃(i:Nat) (y:Store),m+i=P.length/\ O'=O++(some [evO]::y)/\ z2r P=z2r (P.drop i)/\ J 0=v/\ J 2=.ptr O.length 0 0/\ J 8=v/\ J 9=.int .i64 P.length/\ J 10=.int .i64 i) P.length ?_ ?_
 ·exact⟨0,[],by omega,rfl,rfl,by simp (disch:=first|omega|(simp only [lens,z6,z7,lQr,lQm,lQt,lQd,z8,zh,zi,zj,z11];first|done|omega)) only [go_sem],by simp (disch:=first|omega|(simp only [lens,z6,z7,lQr,lQm,lQt,lQd,z8,zh,zi,zj,z11];first|done|omega)) only [go_sem],by simp (disch:=first|omega|(simp only [lens,z6,z7,lQr,lQm,lQt,lQd,z8,zh,zi,zj,z11];first|done|omega)) only [go_sem],by simp (disch:=first|omega|(simp only [lens,z6,z7,lQr,lQm,lQt,lQd,z8,zh,zi,zj,z11];first|done|omega)) only [go_sem],by simp (disch:=first|omega|(simp only [lens,z6,z7,lQr,lQm,lQt,lQd,z8,zh,zi,zj,z11];first|done|omega)) only [go_sem];rfl⟩
 ·rintro m J O' ⟨i,y,hm,rfl,hF,q0,q2,q8,q9,q10⟩
  by_cases hi:i<P.length
  ·have hi':(i:Int)<P.length:=by omega
   obtain⟨ex,rfl⟩:=hv.vsl (by rw [z11];omega)
   have hgi:=zbi hi
   have hp:=hP.at hi
   have hst:=zp8 hi
   have hdr:=zpz P (i+1)
   have htk:=zq0 P
   have hpl:=z11 P
   have hPD:=hP.drop (i+1)
   have hDl:(P.drop (i+1)).length=P.length-(i+1):=List.length_drop
   have hDe:z2r (P.drop (i+1))=z2r (P.drop (i+1)):=rfl
   generalize hDD:P.drop (i+1)=D at hdr hPD hDl hst
   rw [hst]at hF
   generalize P[i]=p at*
   have hi1:((i:Int)+1).toNat=i+1:=by omega
   have hsl:=zh p.1 p.2
   have hzl:sgZ.length=36:=zh zHd .nilsl
   have hzd:sgZ.drop 36=[]:=z2b zHd .nilsl
   have hdl:=z11 D
   have hVa:=fun O=>z4a O p.1.n p.1.i p.1.r p.1.s p.1.p p.2 (.of hp)
   repeat' (first|apply zs_|apply zb_|apply zc_|apply zt_ rfl|apply zf_ rfl|(apply zd_ rfl<;>intro ht<;>try omega)|((first|apply zr_|apply zk_|apply ze_|apply zq_|(apply zG<;>intro ht));all_goals try simp (disch:=first|omega|(simp only [lens,z6,z7,lQr,lQm,lQt,lQd,z8,zh,zi,zj,z11];first|done|omega)) only [go_sem,q0,q2,q8,q9,q10,hi',hgi,htk,hdr,hpl,hi1,hsl,hzl,hzd,hdl]))
   have hO:evO=evX ⟨0,zHd,zHd,zeroH,[]⟩ .nilsl .nilsl .nilsl:=rfl
   have hel:=fun e x y z=>zi e x y z
   have hO6:=fun e x y z=>z1t e x y z
   refine zW.loop (fun m J O'=>∃(j:Nat) (y':Store),m+j=D.length/\ O'=O++(some [evO]::(y++(some [sgX p.1 p.2]::y')))/\ D.find? (z3i p)=(D.drop j).find? (z3i p)/\ J 0=.vsl 36 (hrw P) ex/\ J 2=.ptr O.length 0 0/\ J 5=.ptr (O.length+(y.length+1)) 0 0/\ J 8=.vsl 36 (hrw P) ex/\ J 9=.int .i64 P.length/\ J 10=.int .i64 i/\ J 18=.vsl 36 (hrw D) ex/\ J 19=.int .i64 D.length/\ J 20=.int .i64 j) D.length ?_ ?_
   ·exact⟨0,[],by omega,rfl,rfl,by simp (disch:=first|omega|(simp only [lens,z6,z7,lQr,lQm,lQt,lQd,z8,zh,zi,zj,z11];first|done|omega)) only [go_sem,q0],by simp (disch:=first|omega|(simp only [lens,z6,z7,lQr,lQm,lQt,lQd,z8,zh,zi,zj,z11];first|done|omega)) only [go_sem,q2],by simp (disch:=first|omega|(simp only [lens,z6,z7,lQr,lQm,lQt,lQd,z8,zh,zi,zj,z11];first|done|omega)) only [go_sem],by simp (disch:=first|omega|(simp only [lens,z6,z7,lQr,lQm,lQt,lQd,z8,zh,zi,zj,z11];first|done|omega)) only [go_sem,q8],by simp (disch:=first|omega|(simp only [lens,z6,z7,lQr,lQm,lQt,lQd,z8,zh,zi,zj,z11];first|done|omega)) only [go_sem,q9],by simp (disch:=first|omega|(simp only [lens,z6,z7,lQr,lQm,lQt,lQd,z8,zh,zi,zj,z11];first|done|omega)) only [go_sem,q10],by simp (disch:=first|omega|(simp only [lens,z6,z7,lQr,lQm,lQt,lQd,z8,zh,zi,zj,z11];first|done|omega)) only [go_sem],by simp (disch:=first|omega|(simp only [lens,z6,z7,lQr,lQm,lQt,lQd,z8,zh,zi,zj,z11];first|done|omega)) only [go_sem],by simp (disch:=first|omega|(simp only [lens,z6,z7,lQr,lQm,lQt,lQd,z8,zh,zi,zj,z11];first|done|omega)) only [go_sem];rfl⟩
   ·rintro m2 J2 O2 ⟨j,y2,hm2,rfl,hF2,s0,s2,s5,s8,s9,s10,s18,s19,s20⟩
    by_cases hj:j<D.length
    ·have hj':(j:Int)<D.length:=by omega
     have hgj:=zbi hj
     have hq:=hPD.at hj
     have hfd:=zhw (f:=z3i p) hj
     rw [hfd]at hF2
     generalize D[j]=q at*
     have hsq:=zh q.1 q.2
     have hVb:=fun O=>z4a O q.1.n q.1.i q.1.r q.1.s q.1.p q.2 (.of hq)
     have hOr:=fun O=>zfy O p.1.n q.1.n p.1.r q.1.r
     by_cases hb:z3i p q=true
     ·rw [if_pos hb]at hF2
      rw [hF2]at hF
      simp only at hF
      rw [hF]
      unfold z3i valH at hb
      simp only [Bool.and_eq_true,decide_eq_true_eq]at hb
      obtain⟨⟨b1,b2⟩,b3⟩:=hb
      rw [b1]at hVa
      rw [b2]at hVb
      rw [b3]at hOr
      repeat' (first|apply zs_|apply zb_|apply zc_|apply zt_ rfl|apply zf_ rfl|(apply zd_ rfl<;>intro ht<;>try omega)|((first|apply zr_|apply zk_|apply ze_|apply zq_|(apply callW.mk_pu;(first|exact(fun _=>hVa _)|exact(fun _=>hVb _)|exact(fun _=>hOr _)))|(apply callW.za;(first|exact(hVa _)|exact(hVb _)|exact(hOr _)))|(apply zG<;>intro ht));all_goals try simp (disch:=first|omega|(simp only [lens,z6,z7,lQr,lQm,lQt,lQd,z8,zh,zi,zj,z11];first|done|omega)) only [go_sem,s0,s2,s5,s8,s9,s10,s18,s19,s20,hj',hgj,hsl,hsq,hzl,hzd,hdl,hpl,hO,hel,hO6,List.append_nil]))
      exact DownV.pure hw (rlE' _ (z8u hp) (z8u hq) (by simp [RL]) (by simp [RL]))
     ·rw [if_neg hb]at hF2
      have hbf:(valH p.1 && valH q.1 && decide (ordI p.1.n q.1.n p.1.r q.1.r=3))=false:=by
       unfold z3i at hb
       simpa using hb
      unfold valH at hbf
      generalize z1r p.1.n p.1.i p.1.s p.1.p=va at*
      generalize z1r q.1.n q.1.i q.1.s q.1.p=vb at*
      generalize ordI p.1.n q.1.n p.1.r q.1.r=o at*
      cases va with
      |false=>
       repeat' (first|apply zs_|apply zb_|apply zc_|apply zt_ rfl|apply zf_ rfl|(apply zd_ rfl<;>intro ht<;>try omega)|((first|apply zr_|apply zk_|apply ze_|apply zq_|(apply callW.mk_pu;(first|exact(fun _=>hVa _)))|(apply callW.za;(first|exact(hVa _)))|(apply zG<;>intro ht));all_goals try simp (disch:=first|omega|(simp only [lens,z6,z7,lQr,lQm,lQt,lQd,z8,zh,zi,zj,z11];first|done|omega)) only [go_sem,s0,s2,s5,s8,s9,s10,s18,s19,s20,hj',hgj,hsl,hsq,hzl,hzd,hdl,hpl,List.append_nil]))
       exact⟨m2-1,by omega,j+1,_,by omega,rfl,hF2,by simp⟩
      |true=>
      cases vb with
      |false=>
       repeat' (first|apply zs_|apply zb_|apply zc_|apply zt_ rfl|apply zf_ rfl|(apply zd_ rfl<;>intro ht<;>try omega)|((first|apply zr_|apply zk_|apply ze_|apply zq_|(apply callW.mk_pu;(first|exact(fun _=>hVa _)|exact(fun _=>hVb _)))|(apply callW.za;(first|exact(hVa _)|exact(hVb _)))|(apply zG<;>intro ht));all_goals try simp (disch:=first|omega|(simp only [lens,z6,z7,lQr,lQm,lQt,lQd,z8,zh,zi,zj,z11];first|done|omega)) only [go_sem,s0,s2,s5,s8,s9,s10,s18,s19,s20,hj',hgj,hsl,hsq,hzl,hzd,hdl,hpl,List.append_nil]))
       exact⟨m2-1,by omega,j+1,_,by omega,rfl,hF2,by simp⟩
      |true=>
       have h3:¬o=3:=by simpa using hbf
       repeat' (first|apply zs_|apply zb_|apply zc_|apply zt_ rfl|apply zf_ rfl|(apply zd_ rfl<;>intro ht<;>try omega)|((first|apply zr_|apply zk_|apply ze_|apply zq_|(apply callW.mk_pu;(first|exact(fun _=>hVa _)|exact(fun _=>hVb _)|exact(fun _=>hOr _)))|(apply callW.za;(first|exact(hVa _)|exact(hVb _)|exact(hOr _)))|(apply zG<;>intro ht));all_goals try simp (disch:=first|omega|(simp only [lens,z6,z7,lQr,lQm,lQt,lQd,z8,zh,zi,zj,z11];first|done|omega)) only [go_sem,s0,s2,s5,s8,s9,s10,s18,s19,s20,hj',hgj,hsl,hsq,hzl,hzd,hdl,hpl,h3,List.append_nil]))
       exact⟨m2-1,by omega,j+1,_,by omega,rfl,hF2,by simp⟩
    ·obtain rfl:j=D.length:=by omega
     rw [List.drop_length]at hF2
     rw [hF2]at hF
     have hF':z2r P=z2r D:=hF
     repeat' (first|apply zs_|apply zb_|apply zc_|apply zt_ rfl|apply zf_ rfl|(apply zd_ rfl<;>intro ht<;>try omega)|((first|apply zr_|apply zk_|apply ze_|apply zq_|(apply zG<;>intro ht));all_goals try simp (disch:=first|omega|(simp only [lens,z6,z7,lQr,lQm,lQt,lQd,z8,zh,zi,zj,z11];first|done|omega)) only [go_sem,s0,s2,s5,s8,s9,s10,s18,s19,s20,hdl,hpl]))
     exact⟨m-1,by omega,i+1,_,by omega,rfl,by rw [hDD];exact hF',by simp⟩
  ·obtain rfl:i=P.length:=by omega
   rw [zp9]at hF
   rw [hF]
   have hO6:evO.drop 106=[]:=z1t _ _ _ _
   repeat' (first|apply zs_|apply zb_|apply zc_|apply zt_ rfl|apply zf_ rfl|(apply zd_ rfl<;>intro ht<;>try omega)|((first|apply zr_|apply zk_|apply ze_|apply zq_|(apply zG<;>intro ht));all_goals try simp (disch:=first|omega|(simp only [lens,z6,z7,lQr,lQm,lQt,lQd,z8,zh,zi,zj,z11];first|done|omega)) only [go_sem,q0,q2,q8,q9,q10,zj,hO6,List.append_nil]))
   exact DownV.pure hw (rlE' evZ0 (by simp [RL]) (by simp [RL]) (by simp [RL]) (by simp [RL]))
end
section
def z9b(L:List Hash)(o:Option HV)(p:HV):Bool:=valH p.1 && decide (p.1.n<=L.length) && (match o with|none=>true|some w=>decide (w.1.n<p.1.n)) && decide (z1b (L.take p.1.n.toNat)=p.1.r)
def z3r(L:List Hash)(o:Option HV)(p:HV):Option HV:=if z9b L o p=true then some p else o
def zaw(L:List Hash)(P:List HV):Option HV:=P.foldl (z3r L) none
theorem zmy{L:List Hash}{P:List HV}{i:Nat}(hi:i<P.length):(P.take (i+1)).foldl (z3r L) none=z3r L ((P.take i).foldl (z3r L) none) P[i]:=by
 rw [List.take_succ_eq_append_getElem hi,List.foldl_append];rfl
def oC:Option HV->List AV
 |none=>sgZ
 |some p=>sgX p.1 p.2
theorem zbq(o:Option HV):(oC o).length=36:=by cases o<;>exact z8 _ _ _ _ _
def zax(o:Option HV):AV:=.tup [.agg (oC o),.bool o.isSome]
theorem zcl{h:Hdr}(hv:valH h=true):0<=h.n/\ h.n<=4096/\ h.p.length=3:=by
 obtain⟨N,I,e1,e2,b1,b2,b3,b4⟩:=zab hv
 omega
def splB(L:List Hash)(w p:HV):Bool:=valH p.1 && decide (p.1.n<w.1.n) && decide (z1b (L.take p.1.n.toNat) ≠ p.1.r)
def z9m(L:List Hash)(P:List HV):Option (Ev × AV × AV):=
 match z2r P with
 |some (p,q)=>some (⟨1,p.1,q.1,zeroH,[]⟩,p.2,q.2)
 |none=>match zaw L P with
  |none=>none
  |some w=>match P.find? (splB L w)with
   |none=>none
   |some p=>some (⟨2,p.1,w.1,z1b (L.take p.1.n.toNat),z7m (L.take w.1.n.toNat) p.1.n⟩,p.2,w.2)
def z9n:Option (Ev × AV × AV)->AV
 |none=> .tup [.agg evO,.bool false]
 |some x=> .tup [.agg (evL x.1),.bool true]
attribute [local irreducible] ACallsTo ACallsP
theorem zdp(L:List Hash)(n:Nat):(hr L).take n=hr (L.take n):=by simp [hr,List.map_take]
theorem zmz (O : Store) (P : List HV) (v w : AV) (L : List Hash) (hv : SlV 36 (hrw P) v) (hP : HOk P) (hl : P.length < 1000000) (hw' : SlV 32 (hr L) w) (hL : L.length < 1000000) :
    ACallsTo TC 58 [v,w] O (zax (zaw L P)) O:=by
  have r1:=hv.len
  rw [z11]at r1
  unfold z1j at r1
  have r2:=hw'.len
  rw [z7]at r2
  unfold z1j at r2
  have hoz:oC none=sgZ:=rfl
  refine ACallsTo.of_body q27ok (by simp) fun hw _=> ?_
  repeat' (first|apply zs_|apply zb_|apply zc_|apply zt_ rfl|apply zf_ rfl|(apply zd_ rfl<;>intro ht<;>try omega)|((first|apply zr_|apply zk_|apply ze_|apply zq_|(apply zG<;>intro ht));all_goals try simp (disch:=first|omega|(simp only [lens,z6,z7,lQr,lQm,lQt,lQd,z8,zh,zi,zj,z11];first|done|omega)) only [go_sem,r1,r2]))
  refine zW.loop (fun m J O'=>∃(i:Nat) (y:Store) (o:Option HV),m+i=P.length/\ O'=O++(some [sgZ]::some [oC o]::y)/\ o=(P.take i).foldl (z3r L) none/\ (∀k,RLs k (oC o))/\ J 1=w/\ J 4=.ptr O.length 0 0/\ J 6=.ptr (O.length+1) 0 0/\ J 7=.bool o.isSome/\ J 11=v/\ J 12=.int .i64 P.length/\ J 13=.int .i64 i) P.length ?_ ?_
  · exact⟨0,[],none,by omega,rfl,rfl,fun k=>z6p (by simp [RL]),by simp (disch:=first|omega|(simp only [lens,z6,z7,lQr,lQm,lQt,lQd,z8,zh,zi,zj,z11];first|done|omega)) only [go_sem],by simp (disch:=first|omega|(simp only [lens,z6,z7,lQr,lQm,lQt,lQd,z8,zh,zi,zj,z11];first|done|omega)) only [go_sem],by simp (disch:=first|omega|(simp only [lens,z6,z7,lQr,lQm,lQt,lQd,z8,zh,zi,zj,z11];first|done|omega)) only [go_sem],by simp (disch:=first|omega|(simp only [lens,z6,z7,lQr,lQm,lQt,lQd,z8,zh,zi,zj,z11];first|done|omega)) only [go_sem];rfl,by simp (disch:=first|omega|(simp only [lens,z6,z7,lQr,lQm,lQt,lQd,z8,zh,zi,zj,z11];first|done|omega)) only [go_sem],by simp (disch:=first|omega|(simp only [lens,z6,z7,lQr,lQm,lQt,lQd,z8,zh,zi,zj,z11];first|done|omega)) only [go_sem],by simp (disch:=first|omega|(simp only [lens,z6,z7,lQr,lQm,lQt,lQd,z8,zh,zi,zj,z11];first|done|omega)) only [go_sem];rfl⟩
  · rintro m J O' ⟨i,y,o,hm,rfl,hF,hRo,q1,q4,q6,q7,q11,q12,q13⟩
    have hol:=zbq o
    by_cases hi:i<P.length
    · have hi':(i:Int)<P.length:=by omega
      obtain⟨ex,rfl⟩:=hv.vsl (by rw [z11];omega)
      have hgi:=zbi hi
      have hp:=hP.at hi
      have hst:=zmy (L:=L) hi
      rw [<-hF]at hst
      have hpl:=z11 P
      generalize P[i]=p at*
      have hsl:=zh p.1 p.2
      have hzl:sgZ.length=36:=zh zHd .nilsl
      have hzd:sgZ.drop 36=[]:=z2b zHd .nilsl
      have hV:=fun O=>z4a O p.1.n p.1.i p.1.r p.1.s p.1.p p.2 (.of hp)
      have hval:valH p.1=z1r p.1.n p.1.i p.1.s p.1.p:=rfl
      have hvn:= @zcl p.1
      rw [hval]at hvn
      have keep:z9b L o p=false->(P.take (i+1)).foldl (z3r L) none=o:=fun h=>by rw [hst];unfold z3r;rw [h];rfl
      have new:z9b L o p=true->(P.take (i+1)).foldl (z3r L) none=some p:=fun h=>by rw [hst];unfold z3r;rw [h];rfl
      have hrp:∀k,RLs k (oC (some p)):=fun k=>z6p (z8u hp)
      have hoc:oC (some p)=sgX p.1 p.2:=rfl
      unfold z9b at keep new
      rw [hval]at keep new
      generalize z1r p.1.n p.1.i p.1.s p.1.p=vb at*
      cases vb with
      |false=>
        repeat' (first|apply zs_|apply zb_|apply zc_|apply zt_ rfl|apply zf_ rfl|(apply zd_ rfl<;>intro ht<;>try omega)|((first|apply zr_|apply zk_|apply ze_|apply zq_|(apply callW.mk_pu;(first|exact(fun _=>hV _)))|(apply callW.za;(first|exact(hV _)))|(apply zG<;>intro ht));all_goals try simp (disch:=first|omega|(simp only [lens,z6,z7,lQr,lQm,lQt,lQd,z8,zh,zi,zj,z11];first|done|omega)) only [go_sem,q1,q4,q6,q7,q11,q12,q13,hi',hgi,hpl,hsl,hzl,hzd,List.append_nil,r2,hol]))
        exact⟨m-1,by omega,i+1,_,o,by omega,rfl,(keep (by simp)).symm,hRo,by simp⟩
      |true=>
        obtain⟨n0,n1,_⟩:=hvn rfl
        by_cases c2:p.1.n<=L.length
        · rw [decide_eq_true c2]at keep new
          have hln:(L.take p.1.n.toNat).length<1000000:=by rw [List.length_take];omega
          have hR:=fun O x (hx:SlV 32 (hr (L.take p.1.n.toNat)) x)=>za4 O (L.take p.1.n.toNat) x (.of hx) (by omega)
          have fk:=zdp L p.1.n.toNat
          have hcase:((o=none/\ p.1.n> -1) \/ ∃q,o=some q/\ p.1.n>q.1.n) \/ ∃q,o=some q/\ ¬q.1.n<p.1.n:=by
            cases o with
            |none=>exact .inl (.inl ⟨rfl,by omega⟩)
            | some q => by_cases h : q.1.n < p.1.n
                        · exact .inl (.inr ⟨q,rfl,h⟩)
                        · exact .inr ⟨q,rfl,h⟩
          have nlL:(hr L).length=L.length:=z7 L
          rcases hcase with hc| ⟨q,rfl,h3⟩
          · have kb:∀b,(true && true && (match o with|none=>true|some w=>decide (w.1.n<p.1.n)) && b)=b:=by
              intro b
              rcases hc with⟨rfl,_⟩| ⟨q,rfl,h⟩
              · rfl
              · simp;intro h';omega
            rw [kb]at keep new
            clear kb
            generalize z1b (L.take p.1.n.toNat)=R at*
            have hsl2:∃x,SlV 32 (hr (L.take p.1.n.toNat)) x/\ ((w=.nilsl/\ x=.nilsl/\ p.1.n=0/\ L=[]) \/ ∃b b2,w=.vsl 32 (hr L) b/\ x=.vsl 32 (hr (L.take p.1.n.toNat)) b2/\ b2=(b && (p.1.n.toNat==L.length))):=by
              rcases hw' with⟨rfl,h0⟩| ⟨b,rfl⟩
              · have hLn:L=[]:=hr_nil_iff.1 h0
                subst hLn
                exact⟨.nilsl,.inl ⟨rfl,by simp [hr]⟩,.inl ⟨rfl,rfl,by simp at c2;omega,rfl⟩⟩
              · exact⟨_,.inr ⟨_,rfl⟩,.inr ⟨b,_,rfl,rfl,rfl⟩⟩
            obtain⟨x,hx,hcx⟩:=hsl2
            have hR':=fun O=>hR O x hx
            have hq0:∀q:HV,(oC (some q))[0]? =some (.int .i64 q.1.n):=fun q=>rfl
            have hod:∀o,(oC o).drop 36=[]:=fun o=>List.drop_eq_nil_of_le (by rw [zbq];omega)
            by_cases h4:R=p.1.r
            · have n2:=new (decide_eq_true h4)
              rcases hc with⟨rfl,h3⟩| ⟨q,rfl,h3⟩<;>rcases hcx with⟨rfl,rfl,e0,hL0⟩| ⟨b,b2,rfl,rfl,e0⟩
              all_goals
                repeat' (first|apply zs_|apply zb_|apply zc_|apply zt_ rfl|apply zf_ rfl|(apply zd_ rfl<;>intro ht<;>try omega)|((first|apply zr_|apply zk_|apply ze_|apply zq_|(apply callW.mk_pu;(first|exact(fun _=>hV _)|exact(fun _=>hR _ _ (.inr ⟨_,rfl⟩))|exact(fun _=>hR' _)))|(apply callW.za;(first|exact(hV _)|exact(hR _ _ (.inr ⟨_,rfl⟩))|exact(hR' _)))|(apply zG<;>intro ht));all_goals try simp (disch:=first|omega|(simp only [lens,z6,z7,lQr,lQm,lQt,lQd,z8,zh,zi,zj,z11];first|done|omega)) only [go_sem,q1,q4,q6,q7,q11,q12,q13,hi',hgi,hpl,hsl,hzl,hzd,List.append_nil,r2,hol,c2,h3,hq0,h4,fk,Option.isSome_some,Option.isSome_none,nlL,hoc,hod,zbq]))
                exact⟨m-1,by omega,i+1,_,some p,by omega,rfl,n2.symm,hrp,by simp⟩
            · have k2:=keep (decide_eq_false h4)
              rcases hc with⟨rfl,h3⟩| ⟨q,rfl,h3⟩<;>rcases hcx with⟨rfl,rfl,e0,hL0⟩| ⟨b,b2,rfl,rfl,e0⟩
              all_goals
                repeat' (first|apply zs_|apply zb_|apply zc_|apply zt_ rfl|apply zf_ rfl|(apply zd_ rfl<;>intro ht<;>try omega)|((first|apply zr_|apply zk_|apply ze_|apply zq_|(apply callW.mk_pu;(first|exact(fun _=>hV _)|exact(fun _=>hR _ _ (.inr ⟨_,rfl⟩))|exact(fun _=>hR' _)))|(apply callW.za;(first|exact(hV _)|exact(hR _ _ (.inr ⟨_,rfl⟩))|exact(hR' _)))|(apply zG<;>intro ht));all_goals try simp (disch:=first|omega|(simp only [lens,z6,z7,lQr,lQm,lQt,lQd,z8,zh,zi,zj,z11];first|done|omega)) only [go_sem,q1,q4,q6,q7,q11,q12,q13,hi',hgi,hpl,hsl,hzl,hzd,List.append_nil,r2,hol,c2,h3,hq0,h4,fk,Option.isSome_some,Option.isSome_none,nlL,hoc,hod,zbq]))
                exact⟨m-1,by omega,i+1,_,_,by omega,rfl,k2.symm,hRo,by simp⟩
          · have k2:=keep (by simp [h3])
            have h3':¬p.1.n>q.1.n:=h3
            have hq0:(oC (some q))[0]? =some (.int .i64 q.1.n):=rfl
            repeat' (first|apply zs_|apply zb_|apply zc_|apply zt_ rfl|apply zf_ rfl|(apply zd_ rfl<;>intro ht<;>try omega)|((first|apply zr_|apply zk_|apply ze_|apply zq_|(apply callW.mk_pu;(first|exact(fun _=>hV _)))|(apply callW.za;(first|exact(hV _)))|(apply zG<;>intro ht));all_goals try simp (disch:=first|omega|(simp only [lens,z6,z7,lQr,lQm,lQt,lQd,z8,zh,zi,zj,z11];first|done|omega)) only [go_sem,q1,q4,q6,q7,q11,q12,q13,hi',hgi,hpl,hsl,hzl,hzd,List.append_nil,r2,hol,c2,h3',hq0,Option.isSome_some]))
            exact⟨m-1,by omega,i+1,_,some q,by omega,rfl,k2.symm,hRo,by simp⟩
        · repeat' (first|apply zs_|apply zb_|apply zc_|apply zt_ rfl|apply zf_ rfl|(apply zd_ rfl<;>intro ht<;>try omega)|((first|apply zr_|apply zk_|apply ze_|apply zq_|(apply callW.mk_pu;(first|exact(fun _=>hV _)))|(apply callW.za;(first|exact(hV _)))|(apply zG<;>intro ht));all_goals try simp (disch:=first|omega|(simp only [lens,z6,z7,lQr,lQm,lQt,lQd,z8,zh,zi,zj,z11];first|done|omega)) only [go_sem,q1,q4,q6,q7,q11,q12,q13,hi',hgi,hpl,hsl,hzl,hzd,List.append_nil,r2,hol,c2]))
          exact⟨m-1,by omega,i+1,_,o,by omega,rfl,(keep (by simp [c2])).symm,hRo,by simp⟩
    · obtain rfl:i=P.length:=by omega
      rw [List.take_of_length_le (Nat.le_refl _)]at hF
      have hzl:sgZ.length=36:=zh zHd .nilsl
      have hzd:sgZ.drop 36=[]:=z2b zHd .nilsl
      repeat' (first|apply zs_|apply zb_|apply zc_|apply zt_ rfl|apply zf_ rfl|(apply zd_ rfl<;>intro ht<;>try omega)|((first|apply zr_|apply zk_|apply ze_|apply zq_|(apply zG<;>intro ht));all_goals try simp (disch:=first|omega|(simp only [lens,z6,z7,lQr,lQm,lQt,lQd,z8,zh,zi,zj,z11];first|done|omega)) only [go_sem,q1,q4,q6,q7,q11,q12,q13,r2,hol,hzd,List.append_nil]))
      unfold zax zaw
      rw [<-hF]
      exact DownV.pure hw (by simp only [RL,RLs];exact⟨hRo _,trivial,trivial⟩)
end
section
structure Rgh where
 n:Int
 r:Hash
 i:Int
 s:List UInt8
 m:Int
 p:List Hash
structure Rev where
 k:Int
 a:Rgh
 b:Rgh
 r:Hash
 p:List Hash
def rgX(h:Rgh)(x:AV):List AV:=rgC h.n h.r h.i h.s h.m x
theorem z3n(h:Rgh)(x:AV):(rgX h x).length=37:=z2o _ _ _ _ _ _
def rvX(e:Rev)(x y z:AV):List AV:=.int .i64 e.k::(rgX e.a x++(rgX e.b y++(hc e.r++ [z])))
section
variable (e:Rev) (x y z:AV)
theorem z3v:(rvX e x y z).length=108:=by simp [rvX,z3n,z6]
theorem zki:(rvX e x y z).drop 1=rgX e.a x++(rgX e.b y++(hc e.r++ [z])):=rfl
theorem zkj:(rvX e x y z).drop 38=rgX e.b y++(hc e.r++ [z]):=by
 rw [show 38=1+37 from rfl,<-List.drop_drop,zki,List.drop_left' (z3n e.a x)]
theorem zkk:(rvX e x y z).drop 75=hc e.r++ [z]:=by
 rw [show 75=38+37 from rfl,<-List.drop_drop,zkj,List.drop_left' (z3n e.b y)]
theorem ztj:(rvX e x y z).drop 107=[z]:=by
 rw [show 107=75+32 from rfl,<-List.drop_drop,zkk,z7d]
@[go_sem] theorem rvX_0:(rvX e x y z)[0]? =some (.int .i64 e.k):=rfl
@[go_sem] theorem rvX_107:(rvX e x y z)[107]? =some z:=z6c (ztj e x y z)
@[go_sem] theorem rvX_a:((rvX e x y z).drop 1).take 37=rgX e.a x:=by rw [zki,List.take_left' (z3n e.a x)]
@[go_sem] theorem rvX_b:((rvX e x y z).drop 38).take 37=rgX e.b y:=by rw [zkj,List.take_left' (z3n e.b y)]
@[go_sem] theorem rvX_r:((rvX e x y z).drop 75).take 32=hc e.r:=by rw [zkk,z7e]
@[go_sem] theorem rvX_all:(rvX e x y z).take 108=rvX e x y z:=List.take_of_length_le (by rw [z3v];omega)
end
def rgGr(h:Rgh):Bool:=decide (300<h.s.length \/40<h.p.length)
def rvGr(e:Rev):Bool:=rgGr e.a ||rgGr e.b ||decide (70<e.p.length)
def sgnR(h:Rgh):Hdr:=⟨h.n,h.r,h.i,sigS h.s (16384+h.m).toNat,h.p⟩
def evR(e:Rev):Ev:=⟨e.k,sgnR e.a,sgnR e.b,e.r,e.p⟩
def mOk(h:Rgh):Prop:= -128<=h.m/\ h.m<=127
theorem gr_of{e:Rev}(h:rvGr e=false):(e.a.s.length<=300/\ e.a.p.length<=40)/\ (e.b.s.length<=300/\ e.b.p.length<=40)/\ e.p.length<=70:=by
 unfold rvGr rgGr at h
 simp at h
 omega
attribute [local irreducible] ACallsTo ACallsP
theorem zm6(O:Store)(e:Rev)(x y z:AV)(hx:RdSl O 32 (hr e.a.p) x)(hy:RdSl O 32 (hr e.b.p) y)(hz:RdSl O 32 (hr e.p) z):ACallsTo TC 37 [.agg (rvX e x y z)] O (.bool (rvGr e)) O:=by
 have hA:=fun t=>zfx (O++t) e.a.n e.a.i e.a.m e.a.r e.a.s e.a.p x hx.app
 have hB:=fun t=>zfx (O++t) e.b.n e.b.i e.b.m e.b.r e.b.s e.b.p y hy.app
 have z1:=hz.len
 rw [z7]at z1
 unfold z1j at z1
 unfold rvGr rgGr
 generalize decide (300<e.a.s.length \/40<e.a.p.length)=a at*
 generalize decide (300<e.b.s.length \/40<e.b.p.length)=b at*
 have hl:=z3v e x y z
 refine ACallsTo.of_body q1vok (by simp) fun hw _=> ?_
 cases a with
 |true=>
  repeat' (first|apply zs_|apply zb_|apply zc_|apply zt_ rfl|apply zf_ rfl|(apply zd_ rfl<;>intro ht<;>try omega)|((first|apply zr_|apply zk_|apply ze_|apply zq_|(apply callW.mk_pu;(first|exact(fun _=>hA _)))|(apply callW.za;(first|exact(hA _)))|(apply zG<;>intro ht));all_goals try simp (disch:=first|omega|(simp only [lens,z6,z7,lQr,lQm,lQt,lQd,z8,zh,zi,zj,z2o,z3n,z3v];first|done|omega)) only [go_sem,hl]))
  exact DownV.pure hw z1h
 |false=>
 cases b with
 |true=>
  repeat' (first|apply zs_|apply zb_|apply zc_|apply zt_ rfl|apply zf_ rfl|(apply zd_ rfl<;>intro ht<;>try omega)|((first|apply zr_|apply zk_|apply ze_|apply zq_|(apply callW.mk_pu;(first|exact(fun _=>hA _)|exact(fun _=>hB _)))|(apply callW.za;(first|exact(hA _)|exact(hB _)))|(apply zG<;>intro ht));all_goals try simp (disch:=first|omega|(simp only [lens,z6,z7,lQr,lQm,lQt,lQd,z8,zh,zi,zj,z2o,z3n,z3v];first|done|omega)) only [go_sem,hl]))
  exact DownV.pure hw z1h
 |false=>
  by_cases h:70<e.p.length
  ·have h':(e.p.length:Int)>70:=by omega
   rw [decide_eq_true h]
   repeat' (first|apply zs_|apply zb_|apply zc_|apply zt_ rfl|apply zf_ rfl|(apply zd_ rfl<;>intro ht<;>try omega)|((first|apply zr_|apply zk_|apply ze_|apply zq_|(apply callW.mk_pu;(first|exact(fun _=>hA _)|exact(fun _=>hB _)))|(apply callW.za;(first|exact(hA _)|exact(hB _)))|(apply zG<;>intro ht));all_goals try simp (disch:=first|omega|(simp only [lens,z6,z7,lQr,lQm,lQt,lQd,z8,zh,zi,zj,z2o,z3n,z3v];first|done|omega)) only [go_sem,hl,z1,h']))
   exact DownV.pure hw z1h
  ·have h':¬(e.p.length:Int)>70:=by omega
   rw [decide_eq_false h]
   repeat' (first|apply zs_|apply zb_|apply zc_|apply zt_ rfl|apply zf_ rfl|(apply zd_ rfl<;>intro ht<;>try omega)|((first|apply zr_|apply zk_|apply ze_|apply zq_|(apply callW.mk_pu;(first|exact(fun _=>hA _)|exact(fun _=>hB _)))|(apply callW.za;(first|exact(hA _)|exact(hB _)))|(apply zG<;>intro ht));all_goals try simp (disch:=first|omega|(simp only [lens,z6,z7,lQr,lQm,lQt,lQd,z8,zh,zi,zj,z2o,z3n,z3v];first|done|omega)) only [go_sem,hl,z1,h']))
   exact DownV.pure hw z1h
theorem EOf_to(O:Store)(e:Rev)(x y z:AV)(hx:SlV 32 (hr e.a.p) x)(hy:SlV 32 (hr e.b.p) y)(hz:SlV 32 (hr e.p) z)(ha:mOk e.a)(hb:mOk e.b)(hg:rvGr e=false):
  ACallsTo TC 39 [.agg (rvX e x y z)] O (.agg (evX (evR e) x y z)) O:=by
 obtain⟨⟨g1,_⟩,⟨g2,_⟩,_⟩:=gr_of hg
 have hA:=fun O=>zgh O e.a.n e.a.i e.a.m e.a.r e.a.s e.a.p x hx ha g1
 have hB:=fun O=>zgh O e.b.n e.b.i e.b.m e.b.r e.b.s e.b.p y hy hb g2
 have hra:∀k,RL k x:=fun k=>z8u hx
 have hrb:∀k,RL k y:=fun k=>z8u hy
 have hrz:∀k,RL k z:=fun k=>z8u hz
 have cz:=hz.cells
 unfold cellsOf at cz
 have hl:=z3v e x y z
 have fa:∀s,sgC e.a.n e.a.r e.a.i s x=sgX ⟨e.a.n,e.a.r,e.a.i,s,e.a.p⟩ x:=fun _=>rfl
 have fb:∀s,sgC e.b.n e.b.r e.b.i s y=sgX ⟨e.b.n,e.b.r,e.b.i,s,e.b.p⟩ y:=fun _=>rfl
 have pX:∀(e:Ev) (x y z v:AV),(evX e x y z).take 105++ [v]=evX e x y v:=fun e x y z v=>by have:=zbd e x y z v;rwa [z1t]at this
 have hO:evO=evX ⟨0,zHd,zHd,zeroH,[]⟩ .nilsl .nilsl .nilsl:=rfl
 have hfz:∀(e:Ev) (x y v:AV),z14 (evX e x y v) [(105,1,z)]=some (evX e x y z):=by
  intro e x y v
  have h1:=hz.cells
  have h2:=zbd e x y v z
  rw [z1t]at h2
  simp only [z14,h1,Option.bind_some,zi,z19,List.length_cons,List.length_nil]
  rw [if_pos ⟨trivial,by omega⟩,z1t,List.append_nil,h2]
 refine ACallsTo.of_body q1xok (by simp) fun hw _=> ?_
 repeat' (first|apply zs_|apply zb_|apply zc_|apply zt_ rfl|apply zf_ rfl|(apply zd_ rfl<;>intro ht<;>try omega)|((first|apply zr_|apply zk_|apply ze_|apply zq_|(apply callW.mk_pu;(first|exact(fun _=>hA _)|exact(fun _=>hB _)))|(apply callW.za;(first|exact(hA _)|exact(hB _)))|(apply zG<;>intro ht));all_goals try simp (disch:=first|omega|(simp only [lens,z6,z7,lQr,lQm,lQt,lQd,z8,zh,zi,zj,z2o,z3n,z3v];first|done|omega)) only [go_sem,hl,cz,hfz,fa,fb,pX,hO,zh,zi,z1t,List.append_nil]))
 have hrl:RL O.length (.agg (evX (evR e) x y z)):=by
  simp only [RL]
  exact zby (evR e) x y z (hra _) (hrb _) (hrz _)
 exact DownV.pure hw hrl
end
section
theorem zgs{L:List Hash}{w:HV}:∀(P:List HV) (o:Option HV),P.foldl (z3r L) o=some w->o=some w \/(w ∈ P/\ valH w.1=true/\ w.1.n<=L.length)
 | [],o,h=> .inl h
 |p::P,o,h=>by
  rcases zgs P (z3r L o p) h with h1| ⟨h1,h2⟩
  ·unfold z3r at h1
   split at h1
   ·rename_i hb
    simp only [Option.some.injEq]at h1
    subst h1
    unfold z9b at hb
    simp only [Bool.and_eq_true,decide_eq_true_eq]at hb
    exact .inr ⟨List.mem_cons_self,hb.1.1.1,hb.1.1.2⟩
   ·exact .inl h1
  ·exact .inr ⟨List.mem_cons_of_mem _ h1,h2⟩
theorem zi9{a b:HV}:∀(P:List HV),z2r P=some (a,b)->a ∈ P/\ b ∈ P/\ valH a.1=true/\ valH b.1=true
 |p::P,h=>by
  unfold z2r at h
  cases hf:P.find? (z3i p)with
  |some q=>
   rw [hf]at h
   simp only [Option.some.injEq,Prod.mk.injEq]at h
   obtain⟨rfl,rfl⟩:=h
   have h1:=List.find?_some hf
   have h2:=List.mem_of_find?_eq_some hf
   unfold z3i at h1
   simp only [Bool.and_eq_true,decide_eq_true_eq]at h1
   exact⟨List.mem_cons_self,List.mem_cons_of_mem _ h2,h1.1⟩
  |none=>
   rw [hf]at h
   obtain⟨h1,h2,h3⟩:=zi9 P h
   exact⟨List.mem_cons_of_mem _ h1,List.mem_cons_of_mem _ h2,h3⟩
attribute [local irreducible] ACallsTo ACallsP
theorem z47{h:Hdr}(hv:valH h=true):h.p ≠ []/\ h.p.length<1000000:=by
 have:=(zcl hv).2.2
 exact⟨fun e=>by rw [e]at this;simp at this,by omega⟩
theorem zfv(O:Store)(P:List HV)(v w:AV)(L:List Hash)(hv:SlV 36 (hrw P) v)(hP:HOk P)(hl:P.length<1000000)(hw':SlV 32 (hr L) w)(hL:L.length<1000000):
  ACallsTo TC 22 [v,w] O (z9n (z9m L P)) O:=by
 have hFk:=fun O=>zpa O P v hv hP hl
 have hAn:=fun O=>zmz O P v w L hv hP hl hw' hL
 have hzl:sgZ.length=36:=zh zHd .nilsl
 have hzd:sgZ.drop 36=[]:=z2b zHd .nilsl
 have hO6:evO.drop 106=[]:=z1t _ _ _ _
 have hel:=fun e x y z=>zi e x y z
 have hed:=fun e x y z=>z1t e x y z
 have hrv:∀(k:Nat) (l:List Hash),RL k (zm 32 (hr l)):=fun k l=>z7o (z27 _)
 refine ACallsTo.of_body q22ok (by simp) fun hw _=> ?_
 unfold z9m
 cases hf:z2r P with
 |some pq=>
  obtain⟨p,q⟩:=pq
  rw [hf]at hFk
  unfold zdr at hFk
  obtain⟨mp,mq,vp,vq⟩:=zi9 P hf
  have hOw:=fun O=>zjm O ⟨1,p.1,q.1,zeroH,[]⟩ p.2 q.2 .nilsl (hP p mp) (hP q mq) (by simp [RL]) (z47 vp).1 (z47 vq).1 (z47 vp).2 (z47 vq).2
  have e:z9n (some (⟨1,p.1,q.1,zeroH,[]⟩,p.2,q.2))=.tup [.agg (evX ⟨1,p.1,q.1,zeroH,[]⟩ (zm 32 (hr p.1.p)) (zm 32 (hr q.1.p)) .nilsl),.bool true]:=rfl
  simp only
  rw [e]
  repeat' (first|apply zs_|apply zb_|apply zc_|apply zt_ rfl|apply zf_ rfl|(apply zd_ rfl<;>intro ht<;>try omega)|((first|apply zr_|apply zk_|apply ze_|apply zq_|(apply callW.mk_pu;(first|exact(fun _=>hFk _)|exact(fun _=>hOw _)))|(apply callW.za;(first|exact(hFk _)|exact(hOw _)))|(apply zG<;>intro ht));all_goals try simp (disch:=first|omega|(simp only [lens,z6,z7,lQr,lQm,lQt,lQd,z8,zh,zi,zj,z11];first|done|omega)) only [go_sem,zj,hO6,hel,hed,List.append_nil]))
  exact DownV.pure hw (rlE' _ (hrv _ _) (hrv _ _) (by simp [RL]) (by simp [RL]))
 |none=>
  rw [hf]at hFk
  unfold zdr at hFk
  simp only
  have ev0:z9n none=.tup [.agg evO,.bool false]:=rfl
  have rO:∀k,RL k (.tup [.agg evO,.bool false]):=fun k=>rlE' evZ0 (by simp [RL]) (by simp [RL]) (by simp [RL]) (by simp [RL])
  cases ha:zaw L P with
  |none=>
   rw [ha]at hAn
   have e1:zax none=.tup [.agg sgZ,.bool false]:=rfl
   rw [e1]at hAn
   simp only
   rw [ev0]
   repeat' (first|apply zs_|apply zb_|apply zc_|apply zt_ rfl|apply zf_ rfl|(apply zd_ rfl<;>intro ht<;>try omega)|((first|apply zr_|apply zk_|apply ze_|apply zq_|(apply callW.mk_pu;(first|exact(fun _=>hFk _)|exact(fun _=>hAn _)))|(apply callW.za;(first|exact(hFk _)|exact(hAn _)))|(apply zG<;>intro ht));all_goals try simp (disch:=first|omega|(simp only [lens,z6,z7,lQr,lQm,lQt,lQd,z8,zh,zi,zj,z11];first|done|omega)) only [go_sem,zj,hO6,hzl,hzd,List.append_nil]))
   exact DownV.pure hw (rO _)
  |some g=>
   rw [ha]at hAn
   have e1:zax (some g)=.tup [.agg (sgX g.1 g.2),.bool true]:=rfl
   rw [e1]at hAn
   simp only
   obtain⟨mg,vg,ng⟩:g ∈ P/\ valH g.1=true/\ g.1.n<=L.length:=by
    rcases zgs P none ha with h|h
    ·cases h
    ·exact h
   have hg:=hP g mg
   have r1:=hv.len
   rw [z11]at r1
   unfold z1j at r1
   have hgl:=zh g.1 g.2
   repeat' (first|apply zs_|apply zb_|apply zc_|apply zt_ rfl|apply zf_ rfl|(apply zd_ rfl<;>intro ht<;>try omega)|((first|apply zr_|apply zk_|apply ze_|apply zq_|(apply callW.mk_pu;(first|exact(fun _=>hFk _)|exact(fun _=>hAn _)))|(apply callW.za;(first|exact(hFk _)|exact(hAn _)))|(apply zG<;>intro ht));all_goals try simp (disch:=first|omega|(simp only [lens,z6,z7,lQr,lQm,lQt,lQd,z8,zh,zi,zj,z11];first|done|omega)) only [go_sem,zj,hO6,hzl,hzd,hgl,r1,List.append_nil]))
   refine zW.loop (fun m J O'=>∃(i:Nat) (y:Store),m+i=P.length/\ O'=O++(some [evO]::some [evO]::some [sgX g.1 g.2]::y)/\ P.find? (splB L g)=(P.drop i).find? (splB L g)/\ J 1=w/\ J 4=.ptr O.length 0 0/\ J 8=.ptr (O.length+2) 0 0/\ J 32=v/\ J 33=.int .i64 P.length/\ J 34=.int .i64 i) P.length ?_ ?_
   ·exact⟨0,[],by omega,rfl,rfl,by simp (disch:=first|omega|(simp only [lens,z6,z7,lQr,lQm,lQt,lQd,z8,zh,zi,zj,z11];first|done|omega)) only [go_sem],by simp (disch:=first|omega|(simp only [lens,z6,z7,lQr,lQm,lQt,lQd,z8,zh,zi,zj,z11];first|done|omega)) only [go_sem],by simp (disch:=first|omega|(simp only [lens,z6,z7,lQr,lQm,lQt,lQd,z8,zh,zi,zj,z11];first|done|omega)) only [go_sem],by simp (disch:=first|omega|(simp only [lens,z6,z7,lQr,lQm,lQt,lQd,z8,zh,zi,zj,z11];first|done|omega)) only [go_sem],by simp (disch:=first|omega|(simp only [lens,z6,z7,lQr,lQm,lQt,lQd,z8,zh,zi,zj,z11];first|done|omega)) only [go_sem],by simp (disch:=first|omega|(simp only [lens,z6,z7,lQr,lQm,lQt,lQd,z8,zh,zi,zj,z11];first|done|omega)) only [go_sem];rfl⟩
   ·rintro m J O' ⟨i,y,hm,rfl,hF,q1,q4,q8,q32,q33,q34⟩
    by_cases hi:i<P.length
    ·have hi':(i:Int)<P.length:=by omega
     obtain⟨ex,rfl⟩:=hv.vsl (by rw [z11];omega)
     have hgi:=zbi hi
     have hp:=hP.at hi
     have hfd:=zhw (f:=splB L g) hi
     rw [hfd]at hF
     have hpl:=z11 P
     generalize P[i]=p at*
     have hsl:=zh p.1 p.2
     have hV:=fun O=>z4a O p.1.n p.1.i p.1.r p.1.s p.1.p p.2 (.of hp)
     have hval:valH p.1=z1r p.1.n p.1.i p.1.s p.1.p:=rfl
     have hvn:= @zcl p.1
     have hvp:= @z47 p.1
     rw [show splB L g p=(valH p.1 && decide (p.1.n<g.1.n) && decide (z1b (L.take p.1.n.toNat) ≠ p.1.r))from rfl,hval]at hF
     rw [hval]at hvn hvp
     generalize z1r p.1.n p.1.i p.1.s p.1.p=vb at*
     cases vb with
     |false=>
      rw [if_neg (by simp)]at hF
      repeat' (first|apply zs_|apply zb_|apply zc_|apply zt_ rfl|apply zf_ rfl|(apply zd_ rfl<;>intro ht<;>try omega)|((first|apply zr_|apply zk_|apply ze_|apply zq_|(apply callW.mk_pu;(first|exact(fun _=>hV _)))|(apply callW.za;(first|exact(hV _)))|(apply zG<;>intro ht));all_goals try simp (disch:=first|omega|(simp only [lens,z6,z7,lQr,lQm,lQt,lQd,z8,zh,zi,zj,z11];first|done|omega)) only [go_sem,q1,q4,q8,q32,q33,q34,hi',hgi,hpl,hsl,hgl,hzl,hzd,List.append_nil]))
      exact⟨m-1,by omega,i+1,_,by omega,rfl,hF,by simp⟩
     |true=>
     by_cases c2:p.1.n<g.1.n
     ·have c2':¬p.1.n>=g.1.n:=by omega
      obtain⟨n0,n1,_⟩:=hvn rfl
      obtain⟨g0,g1,_⟩:=zcl vg
      have hLn:(hr L).length=L.length:=z7 L
      obtain⟨b,rfl⟩:=hw'.vsl (by rw [z7];omega)
      have fk:=zdp L p.1.n.toNat
      have fk2:=zdp L g.1.n.toNat
      have hR:=fun O b=>za4 O (L.take p.1.n.toNat) (.vsl 32 (hr (L.take p.1.n.toNat)) b) (.of (.inr ⟨b,rfl⟩)) (by rw [List.length_take];omega)
      have hPr:=fun O b=>zmj O (L.take g.1.n.toNat) (.vsl 32 (hr (L.take g.1.n.toNat)) b) p.1.n (.inr ⟨b,rfl⟩) (by rw [List.length_take];omega)
      generalize hRR:z1b (L.take p.1.n.toNat)=R at*
      by_cases c3:R=p.1.r
      ·have hb:(true && decide (p.1.n<g.1.n) && decide (R ≠ p.1.r))=false:=by simp [c3]
       rw [hb,if_neg (by simp)]at hF
       repeat' (first|apply zs_|apply zb_|apply zc_|apply zt_ rfl|apply zf_ rfl|(apply zd_ rfl<;>intro ht<;>try omega)|((first|apply zr_|apply zk_|apply ze_|apply zq_|(apply callW.mk_pu;(first|exact(fun _=>hV _)|exact(fun _=>hR _ _)))|(apply callW.za;(first|exact(hV _)|exact(hR _ _)))|(apply zG<;>intro ht));all_goals try simp (disch:=first|omega|(simp only [lens,z6,z7,lQr,lQm,lQt,lQd,z8,zh,zi,zj,z11];first|done|omega)) only [go_sem,q1,q4,q8,q32,q33,q34,hi',hgi,hpl,hsl,hgl,hzl,hzd,List.append_nil,c2',c3,hLn,fk]))
       exact⟨m-1,by omega,i+1,_,by omega,rfl,hF,by simp⟩
      ·have hb:(true && decide (p.1.n<g.1.n) && decide (R ≠ p.1.r))=true:=by simp [c2,c3]
       rw [hb,if_pos rfl]at hF
       rw [hF]
       simp only [hRR]
       have e:z9n (some (⟨2,p.1,g.1,R,z7m (L.take g.1.n.toNat) p.1.n⟩,p.2,g.2))=.tup [.agg (evX ⟨2,p.1,g.1,R,z7m (L.take g.1.n.toNat) p.1.n⟩ (zm 32 (hr p.1.p)) (zm 32 (hr g.1.p)) (zm 32 (hr (z7m (L.take g.1.n.toNat) p.1.n)))),.bool true]:=rfl
       rw [e]
       generalize z7m (L.take g.1.n.toNat) p.1.n=pf at*
       have hOw:=fun O=>zjm O ⟨2,p.1,g.1,R,pf⟩ p.2 g.2 (zm 32 (hr pf)) hp hg (hrv _ _) (hvp rfl).1 (z47 vg).1 (hvp rfl).2 (z47 vg).2
       have hfz:∀(e:Ev) (x y v:AV),z14 (evX e x y v) [(105,1,zm 32 (hr pf))]=some (evX e x y (zm 32 (hr pf))):=by
        intro e x y v
        have h1:=zf8 (sz:=32) (es:=hr pf)
        have h2:=zbd e x y v (zm 32 (hr pf))
        rw [z1t]at h2
        simp only [z14,h1,Option.bind_some,zi,z19,List.length_cons,List.length_nil]
        rw [if_pos ⟨trivial,by omega⟩,z1t,List.append_nil,h2]
       have hrz:=hrv O.length pf
       have hO:evO=evX ⟨0,zHd,zHd,zeroH,[]⟩ .nilsl .nilsl .nilsl:=rfl
       generalize zm 32 (hr pf)=Z at*
       repeat' (first|apply zs_|apply zb_|apply zc_|apply zt_ rfl|apply zf_ rfl|(apply zd_ rfl<;>intro ht<;>try omega)|((first|apply zr_|apply zk_|apply ze_|apply zq_|(apply callW.mk_pu;(first|exact(fun _=>hV _)|exact(fun _=>hR _ _)|exact(fun _=>hPr _ _)|exact(fun _=>hOw _)))|(apply callW.za;(first|exact(hV _)|exact(hR _ _)|exact(hPr _ _)|exact(hOw _)))|(apply zG<;>intro ht));all_goals try simp (disch:=first|omega|(simp only [lens,z6,z7,lQr,lQm,lQt,lQd,z8,zh,zi,zj,z11];first|done|omega)) only [go_sem,q1,q4,q8,q32,q33,q34,hi',hgi,hpl,hsl,hgl,hzl,hzd,List.append_nil,c2',c3,hLn,fk,fk2,hfz,hO,hel,hed]))
       exact DownV.pure hw (rlE' _ (hrv _ _) (hrv _ _) hrz (by simp [RL]))
     ·have c2':p.1.n>=g.1.n:=by omega
      have hb:(true && decide (p.1.n<g.1.n) && decide (z1b (L.take p.1.n.toNat) ≠ p.1.r))=false:=by simp [c2]
      rw [hb,if_neg (by simp)]at hF
      repeat' (first|apply zs_|apply zb_|apply zc_|apply zt_ rfl|apply zf_ rfl|(apply zd_ rfl<;>intro ht<;>try omega)|((first|apply zr_|apply zk_|apply ze_|apply zq_|(apply callW.mk_pu;(first|exact(fun _=>hV _)))|(apply callW.za;(first|exact(hV _)))|(apply zG<;>intro ht));all_goals try simp (disch:=first|omega|(simp only [lens,z6,z7,lQr,lQm,lQt,lQd,z8,zh,zi,zj,z11];first|done|omega)) only [go_sem,q1,q4,q8,q32,q33,q34,hi',hgi,hpl,hsl,hgl,hzl,hzd,List.append_nil,c2']))
      exact⟨m-1,by omega,i+1,_,by omega,rfl,hF,by simp⟩
    ·obtain rfl:i=P.length:=by omega
     rw [List.drop_length]at hF
     rw [hF]
     simp only [List.find?_nil]
     rw [ev0]
     have hO:evO=evX ⟨0,zHd,zHd,zeroH,[]⟩ .nilsl .nilsl .nilsl:=rfl
     repeat' (first|apply zs_|apply zb_|apply zc_|apply zt_ rfl|apply zf_ rfl|(apply zd_ rfl<;>intro ht<;>try omega)|((first|apply zr_|apply zk_|apply ze_|apply zq_|(apply zG<;>intro ht));all_goals try simp (disch:=first|omega|(simp only [lens,z6,z7,lQr,lQm,lQt,lQd,z8,zh,zi,zj,z11];first|done|omega)) only [go_sem,q1,q4,q8,q32,q33,q34,zj,hO6,List.append_nil]))
     exact DownV.pure hw (rO _)
end
section
theorem ac_ne:z1k (shaS [0,97]) (shaS [0,98]) ≠ z1k (shaS [0,97]) (shaS [0,99]):=by decide+kernel
def lgC:List (List UInt8):=[[97],[99]]
def hdP:Hdr:=mkH logS 0 lgA
def hdQ:Hdr:=mkH logS 0 lgC
theorem zj2:logS.length<1000000:=by simp [logS]
theorem zj9(seed:List UInt8)(i:Nat)(M:List (List UInt8))(hi:i<8)(hM:M.length<=4096):valH (mkH seed i M)=true:=
 decide_eq_true ⟨by simp only [mkH];omega,by simp only [mkH];omega,by simp only [mkH];omega,by simp only [mkH];omega,zbl _ _ _,zef _ _⟩
theorem z9r:valH hdP=true:=zj9 logS 0 lgA (by omega) (by simp [lgA])
theorem zbg:valH hdQ=true:=zj9 logS 0 lgC (by omega) (by simp [lgC])
theorem hdPQ:hdP.r ≠ hdQ.r:=by
 show z1b [lfH [97],lfH [98]] ≠ z1b [lfH [97],lfH [99]]
 rw [zc2,zc2]
 intro h
 have h2:=congrArg Subtype.val h
 simp only [z17,lfH,shaH]at h2
 exact ac_ne h2
theorem zpu:z3i (hdP,zm 32 (hr hdP.p)) (hdQ,zm 32 (hr hdQ.p))=true:=by
 unfold z3i
 rw [z9r,zbg]
 simp only [Bool.true_and,decide_eq_true_eq]
 exact(ord3 _ _ _ _).2 ⟨rfl,hdPQ⟩
def evPQ:Ev:=⟨1,hdP,hdQ,zeroH,[]⟩
theorem zhr:mayB evPQ=true:=by
 unfold mayB z7j
 rw [show valH evPQ.a=true from z9r,show valH evPQ.b=true from zbg,if_pos (show evPQ.k=1 from rfl),decide_eq_true (show evPQ.a.n=evPQ.b.n/\ evPQ.a.r ≠ evPQ.b.r/\ evPQ.r=zeroH/\ evPQ.p=[]from⟨rfl,hdPQ,rfl,rfl⟩)]
 rfl
theorem zve(seed:List UInt8)(dg x:Hash)(hx:z1b (keyL seed) ≠ x):verI x dg (0:Nat) (ksgS seed (0:Nat) dg.1) (z1o (keyL seed) 0) ≠ 0:=by
 have hc:chkP (hd (keyL seed) 0) (0:Nat) 8 (z1o (keyL seed) 0) x ≠ 0:=by
  obtain⟨a,b,c,d,e,f,g,h,hK⟩:=len8 (z3j seed)
  rw [hK]at hx ⊢
  rw [zet]at hx
  obtain⟨p0,_⟩:=zjr a b c d e f g h
  rw [p0,z4s 0 (by omega),if_neg]
  ·decide
  ·exact fun e=>hx (by rw [<-e];simp [z2k,hd])
 unfold verI
 rw [if_neg (by omega),if_pos (zbl _ _ _),zk2,<-ziv seed 0 (by omega),if_neg hc]
 decide
theorem znw:z3x (z1b (keyL logS)) evPQ=0:=by
 unfold z3x
 rw [zhr,if_neg (by simp),if_neg,if_neg]
 ·exact fun h=>absurd h.1 (by decide)
 ·rintro(h|h)
  ·exact h (zj8 logS 0 lgA (by omega) (by simp [lgA]))
  ·exact h (zj8 logS 0 lgC (by omega) (by simp [lgC]))
theorem znv:z3x oneH evPQ=81:=by
 unfold z3x
 rw [zhr,if_neg (by simp),if_pos]
 refine .inl fun h=> ?_
 unfold z4f at h
 rw [show z1r evPQ.a.n evPQ.a.i evPQ.a.s evPQ.a.p=true from z9r,if_neg (by simp),if_neg]at h
 ·exact absurd h (by decide)
 ·exact zve logS _ oneH (root_g oneH rfl)
theorem chkO(k:Hash):z3x k evZ0=2:=by
 unfold z3x
 rw [show mayB evZ0=false from rfl,if_pos rfl]
theorem ziy:z1b (keyL logS)=kyA:=rfl
theorem zpv:mkH logS 0 (lgA.take 2)=hdP:=rfl
theorem zpw:mkH logS 0 (lgC.take 2)=hdQ:=rfl
attribute [local irreducible] ACallsTo ACallsP kyA hdP hdQ logS
theorem zpq:hc oneH=[.int .u8 1,.int .u8 0,.int .u8 0,.int .u8 0,.int .u8 0,.int .u8 0,.int .u8 0,.int .u8 0,.int .u8 0,.int .u8 0,.int .u8 0,.int .u8 0,.int .u8 0,.int .u8 0,.int .u8 0,.int .u8 0,.int .u8 0,.int .u8 0,.int .u8 0,.int .u8 0,.int .u8 0,.int .u8 0,.int .u8 0,.int .u8 0,.int .u8 0,.int .u8 0,.int .u8 0,.int .u8 0,.int .u8 0,.int .u8 0,.int .u8 0,.int .u8 0]:=rfl
theorem zu1(hw:Wf ([]:Store).length [])(τ:Store)(A B:Hdr)(ky:Hash)(e:Ev)(x y:AV)(J:Env)(q2:J 2=.bool false)(q3:J 3=.ptr 3 0 0)(q4:J 4=.ptr 4 0 0)(dτ:τ.length=5)(hk:e.k=1)
  (h3:τ[3]? =some (some [[AV.ptr 2 0 0,AV.vsl 1 [[AV.str [97]],[AV.str [98]]] true]])) (h4:τ[4]? =some (some [[AV.ptr 2 0 0,AV.vsl 1 [[AV.str [97]],[AV.str [99]]] true]]))
  (hH1:∀y,ACallsTo TC 15 [.agg [.ptr 2 0 0,.vsl 1 [[.str [97]],[.str [98]]] true],.int .i64 2,.int .i64 0] (τ++y) (.agg (hdrC A)) (τ++y))
  (hH2:∀y,ACallsTo TC 15 [.agg [.ptr 2 0 0,.vsl 1 [[.str [97]],[.str [99]]] true],.int .i64 2,.int .i64 0] (τ++y) (.agg (hdrC B)) (τ++y))
  (hRt:∀y,ACallsTo TC 18 [.ptr 2 0 0] (τ++y) (.agg (hc ky)) (τ++y))
  (hF:∀O b,ACallsTo TC 22 [.vsl 36 [hdrC A,hdrC B] b,.nilsl] O (.tup [.agg (evX e x y .nilsl),.bool true]) O)
  (hC1:∀O,ACallsTo TC 17 [.agg (hc ky),.agg (evX e x y .nilsl)] O (.int .i64 0) O)
  (hC2:∀O,ACallsTo TC 17 [.agg (hc oneH),.agg (evX e x y .nilsl)] O (.int .i64 81) O)
  (hC3:∀O,ACallsTo TC 17 [.agg (hc ky),.agg evO] O (.int .i64 2) O):
  zW TC 58 0 zeh (endQ 0 [.t 0] (.bool true) []) J τ:=by
 have hH1':=hH1 []
 have hH2':=hH2 []
 rw [List.append_nil]at hH1' hH2'
 have la:=z3b A
 have lb:=z3b B
 have hel:=zi e x y .nilsl
 have hO6:evO.drop 106=[]:=z1t _ _ _ _
 have hRt0:=hRt []
 rw [List.append_nil]at hRt0
 repeat' (first|apply zs_|apply zb_|apply zc_|apply zt_ rfl|apply zf_ rfl|(apply zd_ rfl<;>intro ht<;>try omega)|((first|apply zr_|apply zk_|apply ze_|apply zq_|(apply zG<;>intro ht));all_goals try simp (disch:=first|omega|(simp only [lens,z6,z7,lQr,lQm,lQt,lQd,z8,zh,zi,zj,z11,z1u];first|done|omega)) only [go_sem,h3,h4,q2,q3,q4]))
 refine callW.mk_pu2 (caps:=[]) hH1' (fun h hh=>hh.elim) ?_
 simp (disch:=first|omega|(simp only [lens,z6,z7,lQr,lQm,lQt,lQd,z8,zh,zi,zj,z11,z1u];first|done|omega)) only [go_sem,h4,q4]
 refine callW.mk_pu2 (caps:=[]) hH2' (fun h hh=>hh.elim) ?_
 simp (disch:=first|omega|(simp only [lens,z6,z7,lQr,lQm,lQt,lQd,z8,zh,zi,zj,z11,z1u];first|done|omega)) only [go_sem,h3,h4,q3,q4,hH1,hH2,la,lb]
 refine callW.mk_pu (caps:=[]) (fun O=>hF O _) ?_
 simp (disch:=first|omega|(simp only [lens,z6,z7,lQr,lQm,lQt,lQd,z8,zh,zi,zj,z11,z1u];first|done|omega)) only [go_sem,h3,h4,q2,q3,q4,hH1,hH2,la,lb,hel,hO6,zj,List.append_nil]
 repeat' (first|apply zs_|apply zb_|apply zc_|apply zt_ rfl|apply zf_ rfl|(apply zd_ rfl<;>intro ht<;>try omega)|((first|apply zr_|apply zk_|apply ze_|apply zq_|(apply callW.mk_pu;(first|exact(fun _=>hRt _)|exact(fun _=>hC1 _)|exact(fun _=>hC2 _)|exact(fun _=>hC3 _)))|(apply callW.za;(first|exact(hRt _)|exact(hC1 _)|exact(hC2 _)|exact(hC3 _)))|(apply zG<;>intro ht));all_goals try simp (disch:=first|omega|(simp only [lens,z6,z7,lQr,lQm,lQt,lQd,z8,zh,zi,zj,z11,z1u];first|done|omega)) only [go_sem,h3,h4,q2,q3,q4,hel,hk,zj,hO6,List.append_nil,<-zpq]))
 exact DownV.pure (τ:=[]) hw z1h
theorem P_head(τ:Store)(ht:τ[2]? =some (some [z1l true logS (keyL logS)]))(dτ:τ.length=5):∀y,ACallsTo TC 15 [.agg [.ptr 2 0 0,.vsl 1 [[.str [97]],[.str [98]]] true],.int .i64 2,.int .i64 0] (τ++y) (.agg (hdrC hdP)) (τ++y):=fun y=>by
 have hLs:∀s ∈ lgA,s.length<1000000:=by intro s hs;simp [lgA]at hs;rcases hs with rfl|rfl<;>simp
 have h:=zg9 (τ++y) 2 logS lgA true 2 0 0 rfl (by omega) (by simp [lgA]) (by rw [gapp (by omega)];exact ht) zj2 hLs (by simp [lgA])
 rw [zpv]at h
 exact h
theorem Q_head(τ:Store)(ht:τ[2]? =some (some [z1l true logS (keyL logS)]))(dτ:τ.length=5):∀y,ACallsTo TC 15 [.agg [.ptr 2 0 0,.vsl 1 [[.str [97]],[.str [99]]] true],.int .i64 2,.int .i64 0] (τ++y) (.agg (hdrC hdQ)) (τ++y):=fun y=>by
 have hLc:∀s ∈ lgC,s.length<1000000:=by intro s hs;simp [lgC]at hs;rcases hs with rfl|rfl<;>simp
 have h:=zg9 (τ++y) 2 logS lgC true 2 0 0 rfl (by omega) (by simp [lgC]) (by rw [gapp (by omega)];exact ht) zj2 hLc (by simp [lgC])
 rw [zpw]at h
 exact h
theorem zmf(A B:Hdr)(hf:z3i (A,zm 32 (hr A.p)) (B,zm 32 (hr B.p))=true)(O:Store)(b:Bool):
  ACallsTo TC 22 [.vsl 36 [hdrC A,hdrC B] b,.nilsl] O (.tup [.agg (evX ⟨1,A,B,zeroH,[]⟩ (zm 32 (hr A.p)) (zm 32 (hr B.p)) .nilsl),.bool true]) O:=by
 have hOk:HOk [(A,zm 32 (hr A.p)),(B,zm 32 (hr B.p))]:=by
  intro p hp
  simp only [List.mem_cons,List.not_mem_nil,or_false]at hp
  rcases hp with rfl|rfl
  ·exact z6u _ _
  ·exact z6u _ _
 have hF2:=zfv O [(A,zm 32 (hr A.p)),(B,zm 32 (hr B.p))] (.vsl 36 [hdrC A,hdrC B] b) .nilsl [] (.inr ⟨b,rfl⟩) hOk (by simp) (.inl ⟨rfl,rfl⟩) (by simp)
 have hfp:z9m [] [(A,zm 32 (hr A.p)),(B,zm 32 (hr B.p))]=some (⟨1,A,B,zeroH,[]⟩,zm 32 (hr A.p),zm 32 (hr B.p)):=by
  unfold z9m z2r
  rw [List.find?_cons,hf]
 rw [hfp]at hF2
 exact hF2
theorem zft(A B:Hdr)(key:Hash)(i:Int)(hi:z3x key ⟨1,A,B,zeroH,[]⟩=i)(ha:A.p.length<1000000)(hb:B.p.length<1000000)(O:Store):
  ACallsTo TC 17 [.agg (hc key),.agg (evX ⟨1,A,B,zeroH,[]⟩ (zm 32 (hr A.p)) (zm 32 (hr B.p)) .nilsl)] O (.int .i64 i) O:=by
 rw [<-hi]
 exact zcs O key ⟨1,A,B,zeroH,[]⟩ (zm 32 (hr A.p)) (zm 32 (hr B.p)) .nilsl z4o z4o (.of (.inl ⟨rfl,rfl⟩)) ⟨ha,hb,Nat.zero_lt_succ _⟩
theorem zmd(key:Hash)(O:Store):ACallsTo TC 17 [.agg (hc key),.agg evO] O (.int .i64 2) O:=by
 have h:=zcs O key evZ0 .nilsl .nilsl .nilsl (.of (.inl ⟨rfl,rfl⟩)) (.of (.inl ⟨rfl,rfl⟩)) (.of (.inl ⟨rfl,rfl⟩)) ⟨Nat.zero_lt_succ _,Nat.zero_lt_succ _,Nat.zero_lt_succ _⟩
 rw [chkO]at h
 exact h
theorem E_own(O:Store):ACallsTo TC 17 [.agg (hc kyA),.agg (evX ⟨1,hdP,hdQ,zeroH,[]⟩ (zm 32 (hr hdP.p)) (zm 32 (hr hdQ.p)) .nilsl)] O (.int .i64 0) O:=
 zft hdP hdQ kyA 0 (by rw [<-ziy];exact znw) (z47 z9r).2 (z47 zbg).2 O
theorem E_one(O:Store):ACallsTo TC 17 [.agg (hc oneH),.agg (evX ⟨1,hdP,hdQ,zeroH,[]⟩ (zm 32 (hr hdP.p)) (zm 32 (hr hdQ.p)) .nilsl)] O (.int .i64 81) O:=
 zft hdP hdQ oneH 81 znv (z47 z9r).2 (z47 zbg).2 O
attribute [local irreducible] zeh
theorem ztz:ACallsTo TC 11 [] [] (.bool true) []:=by
 have hMd:=fun O=>zmc O [] (strs lgA) true
 rw [show strs lgA=[[.str [97]],[.str [98]]]from rfl]at hMd
 have hF0:=fun O=>zfv O [] .nilsl .nilsl [] (.inl ⟨rfl,rfl⟩) (fun _ h=>by cases h) (by simp) (.inl ⟨rfl,rfl⟩) (by simp)
 rw [show z9n (z9m [] [])=.tup [.agg evO,.bool false]from rfl]at hF0
 have hO6:evO.drop 106=[]:=z1t _ _ _ _
 refine ACallsTo.of_body q1wok (by simp) fun hw _=> ?_
 repeat' (first|apply zs_|apply zb_|apply zc_|apply zt_ rfl|apply zf_ rfl|(apply zd_ rfl<;>intro ht<;>try omega)|((first|apply zr_|apply zk_|apply ze_|apply zq_|(apply callW.mk_pu;(first|exact(fun _=>hMd _)|exact(fun _=>hF0 _)))|(apply callW.za;(first|exact(hMd _)|exact(hF0 _)))|(apply zG<;>intro ht));all_goals try simp (disch:=first|omega|(simp only [lens,z6,z7,lQr,lQm,lQt,lQd,z8,zh,zi,zj,z11,z1u];first|done|omega)) only [go_sem,zj,hO6,List.append_nil]))
 generalize hτ:([some [evO],some [[AV.ptr 2 0 0,_]],some [z1l true logS (keyL logS)],some [_],some [_]]:Store)=τ
 have ht:τ[2]? =some (some [z1l true logS (keyL logS)]):=by rw [<-hτ];rfl
 have h3:τ[3]? =some (some [[AV.ptr 2 0 0,AV.vsl 1 [[AV.str [97]],[AV.str [98]]] true]]):=by rw [<-hτ];rfl
 have h4:τ[4]? =some (some [[AV.ptr 2 0 0,AV.vsl 1 [[AV.str [97]],[AV.str [99]]] true]]):=by rw [<-hτ];rfl
 have dτ:τ.length=5:=by rw [<-hτ];rfl
 clear hτ
 have hRt:=fun y=>zv5 (τ++y) 2 logS (keyL logS) (by rw [gapp (by omega)];exact ht) (z3j _)
 rw [ziy]at hRt
 exact zu1 hw τ hdP hdQ kyA ⟨1,hdP,hdQ,zeroH,[]⟩ _ _ _ (by simp (disch:=first|omega|(simp only [lens,z6,z7,lQr,lQm,lQt,lQd,z8,zh,zi,zj,z11,z1u];first|done|omega)) only [go_sem]) (by simp (disch:=first|omega|(simp only [lens,z6,z7,lQr,lQm,lQt,lQd,z8,zh,zi,zj,z11,z1u];first|done|omega)) only [go_sem]) (by simp (disch:=first|omega|(simp only [lens,z6,z7,lQr,lQm,lQt,lQd,z8,zh,zi,zj,z11,z1u];first|done|omega)) only [go_sem]) dτ rfl h3 h4 (P_head τ ht dτ) (Q_head τ ht dτ) hRt (zmf hdP hdQ zpu) E_own E_one (zmd kyA)
theorem z8a(O:Store):ACallsTo TC 11 [] O (.bool true) O:=ACallsTo.frame glok ztz (by simp [RLs]) O
end
section
theorem zob(e:Ev):zba e e=true:=by simp [zba,z7h]
theorem zbb{e:Rev}(h:rvGr e=false):EvOk (evR e):=by
 obtain⟨⟨_,h1⟩,⟨_,h2⟩,h3⟩:=gr_of h
 refine⟨?_,?_,?_⟩
 ·show e.a.p.length<_;omega
 ·show e.b.p.length<_;omega
 ·show e.p.length<_;omega
def zen:Ty:=.row [.int .i64,zc3,zc3,z4y,.sl 32 z4y]
theorem zke{cs:List AV}(h:ShC zc3 cs):∃(g:Rgh) (x:AV),cs=rgX g x/\ SlV 32 (hr g.p) x/\ mOk g/\ g.p.length<=maxLen/\ g.s.length<=maxLen/\ (-9223372036854775808<=g.n/\ g.n<=9223372036854775807)/\ (-9223372036854775808<=g.i/\ g.i<=9223372036854775807):=by
 simp only [zc3,ShC,z3p]at h
 obtain⟨A,B,rfl,hA,C,D,rfl,hC,E,F,rfl,hE,G,K,rfl,hG,M,N,rfl,hM,rfl⟩:=h
 obtain⟨A1,A2,rfl,⟨n,rfl,n1,n2⟩,A3,A4,rfl,hA3,rfl⟩:=hA
 obtain⟨r,rfl⟩:=zie hA3
 obtain⟨i,rfl,i1,i2⟩:=hC
 obtain⟨s,rfl,hs⟩:=hE
 obtain⟨m,rfl,m1,m2⟩:=hG
 obtain⟨l,x,rfl,h3,h4⟩:=zip (by simpa only [ShC]using hM)
 simp only [IntKind.min,IntKind.max,IntKind.signed,IntKind.bits]at n1 n2 i1 i2 m1 m2
 simp at n1 n2 i1 i2 m1 m2
 exact⟨⟨n,r,i,s,m,l⟩,x,by simp [rgX,rgC],h3,⟨m1,m2⟩,h4,hs,⟨n1,n2⟩,⟨i1,i2⟩⟩
theorem rev_h{a:AV}(h:Sh zen a):∃(e:Rev) (x y z:AV),a=.agg (rvX e x y z)/\ SlV 32 (hr e.a.p) x/\ SlV 32 (hr e.b.p) y/\ SlV 32 (hr e.p) z/\ mOk e.a/\ mOk e.b/\ e.p.length<=maxLen:=by
 simp only [zen,Sh]at h
 obtain⟨cs,rfl,h⟩:=h
 simp only [z3p]at h
 obtain⟨A,B,rfl,hA,C,D,rfl,hC,E,F,rfl,hE,G,K,rfl,hG,M,N,rfl,hM,rfl⟩:=h
 simp only [ShC]at hA
 obtain⟨k,rfl,_,_⟩:=hA
 obtain⟨g1,x,rfl,hx,m1,_⟩:=zke hC
 obtain⟨g2,y,rfl,hy,m2,_⟩:=zke hE
 obtain⟨r,rfl⟩:=zie hG
 obtain⟨l,z,rfl,hz,h4⟩:=zip (by simpa only [ShC]using hM)
 exact⟨⟨k,g1,g2,r,l⟩,x,y,z,by simp [rvX],hx,hy,hz,m1,m2,h4⟩
attribute [local irreducible] ACallsTo ACallsP
end
section
set_option maxRecDepth 10000
def q28r0:yW:=[
 yI 2 (.box (.t 0)),
 yI 4 (.mv (.v (.bool false)))]
def q28r1:yW:=[
 yL 13 true 108 2,
 yC 14 37 13]
def q28r2:yW:=[
 yI 15 (.call (.v (.fn 11 [])) []),
 yM 4 15]
def q28c3:yX:=yq q28r2 .ret
def q28c4:yX:=.cond (.t 14) q28c3 .skip
def q28c5:yX:=yq q28r1 q28c4
def q28r6:yW:=[
 yL 17 true 108 2,
 yC 18 39 17,
 yC 19 38 18,
 yM 16 19,
 yE 20 0 16,
 yE 21 1 16,
 yM 5 20,
 yM 6 21]
def q28r7:yW:=[
 yM 22 6,
 yJ 23 .neq 22 .i64 0]
def q28r8:yW:=[
 yM 24 6,
 yJ 25 .eql 24 .i64 2,
 yM 26 25,
 yV 27 26 true 5,
 yG 28 26 true (.bin .eql .none (.t 27) (.v (.str []))),
 yQ 29 26 28,
 yM 30 29,
 yG 31 30 true (.build zZ0 []),
 yU 32 30 true true 108 2,
 yG 33 30 true (.call (.v (.fn 39 [])) [(.t 32)]),
 yG 34 30 true (.call (.v (.fn 17 [])) [(.t 31),(.t 33)]),
 yG 35 30 true (.bin .eql .none (.t 34) (.v (.int .i64 2))),
 yQ 36 30 35,
 yM 37 36,
 yG 38 37 true (.call (.v (.fn 11 [])) []),
 yQ 39 37 38,
 yM 4 39]
def q28c9:yX:=yq q28r8 .ret
def q28c10:yX:=.cond (.t 23) q28c9 .skip
def q28c11:yX:=yq q28r7 q28c10
def q28r12:yW:=[
 yM 40 5,
 yI 41 (.lenStr (.t 40)),
 yJ 42 .eql 41 .i64 0]
def q28r13:yW:=[
 yI 4 (.mv (.v (.bool false)))]
def q28c14:yX:=yq q28r13 .ret
def q28c15:yX:=.cond (.t 42) q28c14 .skip
def q28c16:yX:=yq q28r12 q28c15
def q28r17:yW:=[
 yM 44 5,
 yC 45 40 44,
 yM 43 45,
 yE 46 0 43,
 yE 47 1 43,
 yI 7 (.alloc evO),
 yS 106 7 46,
 yM 8 47]
def q28r18:yW:=[
 yM 49 5,
 yM 50 1,
 yI 51 (.conv (.int .i64) (.t 50)),
 yM 52 5,
 yI 53 (.lenStr (.t 52)),
 yB 54 .rem 51 53,
 yI 55 (.slice .str (.t 49) none (some (.t 54)) none),
 yC 56 40 55,
 yM 48 56,
 yE 57 0 48,
 yE 58 1 48,
 yI 9 (.alloc evO),
 yS 106 9 57,
 yM 10 58]
def q28r19:yW:=[
 yM 60 5,
 yI 61 (.bin .add .none (.t 60) (.v (.str [0]))),
 yC 62 40 61,
 yM 59 62,
 yE 63 0 59,
 yE 64 1 59,
 yI 11 (.alloc evO),
 yS 106 11 63,
 yM 12 64]
def q28r20:yW:=[
 yM 65 8,
 yJ 66 .eql 65 .i64 0,
 yM 67 66,
 ⟨some 68,some (67,true),.rd,.load true 106 (.t 7)⟩,
 ⟨some 69,some (67,true),.rd,.load true 108 (.t 2)⟩,
 ⟨some 70,some (67,true),.ef,.call (.v (.fn 39 [])) [(.t 69)]⟩,
 yG 71 67 true (.call (.v (.fn 41 [])) [(.t 68),(.t 70)]),
 yQ 72 67 71,
 yM 73 72,
 yV 74 73 true 10,
 yG 75 73 true (.bin .eql .none (.t 74) (.v (.int .i64 10))),
 yQ 76 73 75,
 yM 77 76,
 yV 78 77 true 12,
 yG 79 77 true (.bin .eql .none (.t 78) (.v (.int .i64 10))),
 yQ 80 77 79,
 yM 81 80,
 yG 82 81 true (.call (.v (.fn 11 [])) []),
 yQ 83 81 82,
 yM 4 83]
def q28c21:yX:=yq q28r20 .ret
def q28c22:yX:=yq q28r19 q28c21
def q28c23:yX:=yq q28r18 q28c22
def q28c24:yX:=yq q28r17 q28c23
def q28c25:yX:=.seq q28c16 q28c24
def q28c26:yX:=.seq q28c11 q28c25
def q28c27:yX:=yq q28r6 q28c26
def q28c28:yX:=.seq q28c5 q28c27
def q28c29:yX:=yq q28r0 q28c28
attribute [go_sem] q28r0 q28r1 q28r2 q28r6 q28r7 q28r8 q28r12 q28r13 q28r17 q28r18 q28r19 q28r20
theorem q28ok:cFn TC 9=some (84,[.t 4],q28c29):=by kernel_rfl
end
section
attribute [local irreducible] ACallsTo ACallsP
theorem zma(e:Rev)(x y z:AV)(c:Int)(hx:SlV 32 (hr e.a.p) x)(hy:SlV 32 (hr e.b.p) y)(hz:SlV 32 (hr e.p) z)(ha:mOk e.a)(hb:mOk e.b)(h0:0<=c/\ c<=65535):
  ACallsTo TC 9 [.agg (rvX e x y z),.int .u16 c] [] (.bool true) []:=by
 have hG:=fun O=>zm6 O e x y z (.of hx) (.of hy) (.of hz)
 have l1:=z3v e x y z
 refine ACallsTo.of_body q28ok (by simp) fun hw _=> ?_
 cases g1:rvGr e with
 |true=>
  rw [g1]at hG
  repeat' (first|apply zs_|apply zb_|apply zc_|apply zt_ rfl|apply zf_ rfl|(apply zd_ rfl<;>intro ht<;>try omega)|((first|apply zr_|apply zk_|apply ze_|apply zq_|(apply callW.mk_pu;(first|exact(fun _=>hG _)|exact(fun _=>z8a _)))|(apply callW.za;(first|exact(hG _)|exact(z8a _)))|(apply zG<;>intro ht));all_goals try simp (disch:=first|omega|(simp only [lens,z6,z7,lQr,lQm,lQt,lQd,z8,zh,zi,zj,z2o,z3n,z3v,z1u];first|done|omega)) only [go_sem,l1]))
  exact DownV.pure (τ:=[]) hw (z15 _ rfl)
 |false=>
 rw [g1]at hG
 have hO:=fun O=>EOf_to O e x y z hx hy hz ha hb g1
 have hP:=fun O=>zm7 O (evR e) x y z (.of hx) (.of hy) (.of hz) (zbb g1)
 have hC:=fun O=>zcs O zeroH (evR e) x y z (.of hx) (.of hy) (.of hz) (zbb g1)
 have hel:=zi (evR e) x y z
 have hO6:evO.drop 106=[]:=z1t _ _ _ _
 unfold zdh at hP
 by_cases hm:mayB (evR e)=true
 ·rw [if_pos hm]at hP
  obtain⟨b1,b2⟩:=znf hm
  have hg1:=zia hm []
  rw [List.append_nil,if_pos rfl]at hg1
  have hg3:=zia hm [0]
  rw [if_neg (by simp)]at hg3
  have hm2:0<=c%((z1p (evR e)).length:Int)/\ c%((z1p (evR e)).length:Int)<(z1p (evR e)).length:=⟨Int.emod_nonneg c (by omega),Int.emod_lt_of_pos c (by omega)⟩
  have hg2:=zpb hm (k:=(c%((z1p (evR e)).length:Int)).toNat) (by omega)
  have hG1:=fun O=>zct O (z1p (evR e)) (by omega)
  have hG2:=fun O=>zct O ((z1p (evR e)).take (c%((z1p (evR e)).length:Int)).toNat) (by rw [List.length_take];omega)
  have hG3:=fun O=>zct O (z1p (evR e)++ [0]) (by rw [List.length_append];simp;omega)
  rw [hg1]at hG1
  rw [hg2]at hG2
  rw [hg3]at hG3
  have v1:z88 (some (evR e))=.tup [.agg (evX (evR e) (zm 32 (hr (evR e).a.p)) (zm 32 (hr (evR e).b.p)) (zm 32 (hr (evR e).p))),.int .i64 0]:=rfl
  have v0:z88 none=.tup [.agg evO,.int .i64 10]:=rfl
  rw [v1]at hG1
  rw [v0]at hG2 hG3
  have hS:=fun O=>zm8 O (evR e) (evR e) _ _ _ x y z z4o z4o z4o (zbb g1) (.of hx) (.of hy) (.of hz) (zbb g1)
  rw [zob]at hS
  have hel2:=zi (evR e) (zm 32 (hr (evR e).a.p)) (zm 32 (hr (evR e).b.p)) (zm 32 (hr (evR e).p))
  have hT0:((z1p (evR e)).length:Int) ≠ 0:=by omega
  have hne:¬z1p (evR e)=[]:=fun h=>by rw [h]at b2;simp at b2
  generalize zm 32 (hr (evR e).a.p)=xA at*
  generalize zm 32 (hr (evR e).b.p)=xB at*
  generalize zm 32 (hr (evR e).p)=xP at*
  generalize z1p (evR e)=T at*
  generalize hkk:c%(T.length:Int)=k at*
  have hT0':¬(T.length:Int)=0:=hT0
  repeat' (first|apply zs_|apply zb_|apply zc_|apply zt_ rfl|apply zf_ rfl|(apply zd_ rfl<;>intro ht<;>try omega)|((first|apply zr_|apply zk_|apply ze_|apply zq_|(apply callW.mk_pu;(first|exact(fun _=>hG _)|exact(fun _=>hO _)|exact(fun _=>hP _)|exact(fun _=>hG1 _)|exact(fun _=>hG2 _)|exact(fun _=>hG3 _)|exact(fun _=>hS _)|exact(fun _=>z8a _)))|(apply callW.za;(first|exact(hG _)|exact(hO _)|exact(hP _)|exact(hG1 _)|exact(hG2 _)|exact(hG3 _)|exact(hS _)|exact(z8a _)))|(apply zG<;>intro ht));all_goals try simp (disch:=first|omega|(simp only [lens,z6,z7,lQr,lQm,lQt,lQd,z8,zh,zi,zj,z2o,z3n,z3v,z1u];first|done|omega)) only [go_sem,l1,hel,hel2,hO6,zj,hT0,hT0',hkk,hm2,List.append_nil]))
  exact DownV.pure (τ:=[]) hw (z15 _ rfl)
 ·rw [if_neg hm]at hP
  have hi:z3x zeroH (evR e)=2:=by
   unfold z3x
   rw [show mayB (evR e)=false by simpa using hm,if_pos rfl]
  rw [hi]at hC
  repeat' (first|apply zs_|apply zb_|apply zc_|apply zt_ rfl|apply zf_ rfl|(apply zd_ rfl<;>intro ht<;>try omega)|((first|apply zr_|apply zk_|apply ze_|apply zq_|(apply callW.mk_pu;(first|exact(fun _=>hG _)|exact(fun _=>hO _)|exact(fun _=>hP _)|exact(fun _=>hC _)|exact(fun _=>z8a _)))|(apply callW.za;(first|exact(hG _)|exact(hO _)|exact(hP _)|exact(hC _)|exact(z8a _)))|(apply zG<;>intro ht));all_goals try simp (disch:=first|omega|(simp only [lens,z6,z7,lQr,lQm,lQt,lQd,z8,zh,zi,zj,z2o,z3n,z3v,z1u];first|done|omega)) only [go_sem,l1,hel,<-z7f]))
  exact DownV.pure (τ:=[]) hw (z15 _ rfl)
theorem EvidenceBack_law(avs:List AV)(h:z94 [zen,.int .u16] avs):ACallsTo TC 9 avs [] (.bool true) []:=by
 simp only [z94]at h
 obtain⟨_,_,rfl,h1,_,_,rfl,h2,rfl⟩:=h
 obtain⟨e,x,y,z,rfl,hx,hy,hz,ha,hb,_⟩:=rev_h h1
 simp only [Sh,ShC]at h2
 obtain⟨c,e2,c1,c2⟩:=h2
 cases e2
 simp only [IntKind.min,IntKind.max,IntKind.signed,IntKind.bits]at c1 c2
 simp at c1 c2
 exact zma e x y z c hx hy hz ha hb ⟨c1,c2⟩
end
end Am
end Go.Proofs.YtlfpiblipmiobaaDoor
section
/- What a law with the laid tables of sha begins with. -/
namespace Go.Proofs.YtlfpiblipmiobaaDoor.LawDoor
open Go.ChangeShapes Go.WideShapes Go.ChangeAt Go.RowKit
theorem own:ownKnob Tryd.prog.godebug=none:=by kernel_rfl
theorem zqq:laidOutB Tryd.prog=true:=by kernel_rfl
def z9u:List (String × DataW Unit):=[("speculum/sha.first",Rows.laid_speculum_sha_first),("speculum/sha.rounds",Rows.laid_speculum_sha_rounds)]
set_option maxRecDepth 100000
theorem zo6(os:Os)(args:Array Value):laidMetH Tryd.prog z9u ((World.doorLaid Tryd.prog 400 os).forCall (fun _ _=>0) ⟨#[],args,[]⟩).memory:=
 laidMetH_of_parts3 (fuel:=8) (laidMet_of_run' 8 (by kernel_rfl) (by kernel_rfl)) (by kernel_rfl) (by kernel_rfl)
theorem rel_of{W:World}(h:laidMetH Tryd.prog z9u W):Am.Rel Am.TC [] [] W:=by
 rw [MakeChecks.laidMetH_plain _ _ _ (by kernel_rfl)]at h
 obtain⟨ps,⟨g0,t0,cs0,f0,p0,q0,hg0,ht0,hv0,hd0,⟨g1,t1,cs1,f1,p1,q1,hg1,ht1,hv1,hd1,_,_⟩,_⟩,_,_⟩:=h
 have v0:=Am.vp_of_var (P:=Tryd.prog) (n:= "speculum/sha.first") (g:=0) (t:=151) (e:=149) (m:=8) (k:=.u32) Am.shaFirst (by kernel_rfl) (by kernel_rfl) (by kernel_rfl) (by kernel_rfl) (by kernel_rfl) (by kernel_rfl) hg0 ht0 hv0 hd0
 have v1:=Am.vp_of_var (P:=Tryd.prog) (n:= "speculum/sha.rounds") (g:=1) (t:=150) (e:=149) (m:=64) (k:=.u32) Am.shaRounds (by kernel_rfl) (by kernel_rfl) (by kernel_rfl) (by kernel_rfl) (by kernel_rfl) (by kernel_rfl) hg1 ht1 hv1 hd1
 refine⟨rfl,fun r o h=>by simp at h,fun r h=>by simp at h,fun r r' pl pl' h=>by simp at h,fun g cs h=> ?_⟩
 simp only [Am.TC]at h
 split at h
 ·rename_i hg;subst hg;cases h;exact v0
 ·split at h
  ·rename_i hg;subst hg;cases h;exact v1
  ·cases h
end Go.Proofs.YtlfpiblipmiobaaDoor.LawDoor
end
