import Derived.Test.YtcdcmgjnbjoajaaGreatDoorK221fe5c7f
import Derived.Shelf.Strings.Builder1
import Derived.Shelf.Strings.Builder2
import Derived.Shelf.Strings.BuilderF
import Derived.Shelf.Strings.Prefix
import Derived.Shelf.Bits.Mul64
import Derived.Shelf.Strings.Repeat
import Derived.Test.YtcdcmgjnbjoajaaGreatDoorProg
set_option linter.unusedSimpArgs false
set_option linter.unusedVariables false
open Nat (reduceEqDiff reduceAdd reduceMul reduceSub reduceLeDiff)
open Int (reduceToNat reducePow)
open Nat renaming reduceEqDiff -> nQ1, reduceBEq -> nQ2, reduceAdd -> nQ3, reduceMul -> nQ4, reduceSub -> nQ5, reduceLeDiff -> nQ6
open Int renaming reduceToNat -> nQ7, reducePow -> nQ8
open List renaming length_reverse -> lQr, length_map -> lQm, length_take -> lQt, length_drop -> lQd, length_set -> lQs
set_option maxHeartbeats 16000000
attribute [local go_sem_proc] Nat.reduceEqDiff Nat.reduceBEq Nat.reduceAdd Nat.reduceMul Nat.reduceSub Nat.reduceLeDiff Int.reduceToNat Int.reducePow
namespace Go.Proofs.YtcdcmgjnbjoajaaGreatDoor
namespace Am
section
set_option maxRecDepth 4000
open Pk (P Q M one pkN)
/-! Words of bytes: a byte ahead of whole words. -/
def enc(ws:List W):List UInt8:=ws.flatMap fun x=>be 4 x.toNat
def lb(x:W):UInt8:=UInt8.ofNat x.toNat
end
section
set_option maxRecDepth 4000
open Pk (P Q M one pkN)
end
section
set_option maxRecDepth 4000
open Pk (P Q M one pkN)
section
variable (v2:Nat->V8)
end
section
variable (v1:Nat->V8)
end
end
section
theorem rl_c{k:Nat}:∀(l:List W),RLs k (ws l)
 | []=>by simp [ws,RLs]
 | _::l=>by have:=rl_c (k:=k) l;simp only [ws]at this;simp [ws,wc,RLs,RL,this]
theorem z61{k:Nat}{l:List AV}(h:RLs k l):RL k (.agg l):=by simpa only [RL]using h
theorem zcj(O:Store)(x:W)(k:Int)(h:0<k/\ k<32):ACallsTo TC 133 [.int .u32 x.toNat,.int .u32 k] O (.int .u32 (x.rotateLeft (32-k.toNat)).toNat) O:=by
 refine ACallsTo.of_body q9ok (by simp) fun hw _=> ?_
 repeat' (first|apply zs_|apply zb_|apply zc_|apply zt_ rfl|apply zf_ rfl|(apply zd_ rfl<;>intro ht<;>try omega)|((first|apply zr_|apply zk_|apply ze_|apply zq_|(apply zG<;>intro ht));all_goals try simp (disch:=first|omega|(simp only [lens];first|done|omega)) only [go_sem]))
 have e:(x>>>k.toNat |||x<<<(32-k).toNat)=x.rotateLeft (32-k.toNat):=by
  obtain⟨n,rfl⟩:∃n:Nat,k=n:=⟨k.toNat,by omega⟩
  have e1:((32:Int)-n).toNat=32-n:=by omega
  rw [e1,Int.toNat_natCast,BitVec.rotateLeft_def,BitVec.or_comm]
  have:(32-n)%32=32-n:=Nat.mod_eq_of_lt (by omega)
  rw [this]
  congr 2
  omega
 rw [e]
 exact DownV.same hw (z1d _ rfl)
theorem z152(s:List UInt8)(i:Nat):IntKind.u32.wrap ((getS ((s.drop (4*i)).take 4):Nat):Int)=((z7q s i).toNat:Int):=by
 rw [za9,z7q,BitVec.toNat_ofNat];rfl
theorem zpk{w:List W}{x:W}{n:Nat}(h:w.length=n)(hn:n<64):(ws w++List.replicate (64-n) (AV.int .u32 0)).take n++AV.int .u32 x.toNat::(ws w++List.replicate (64-n) (AV.int .u32 0)).drop (n+1)=ws (w++ [x])++List.replicate (64-(n+1)) (AV.int .u32 0):=by
 have hl:(ws w).length=n:=by rw [z4d,h]
 have e:64-n=(64-(n+1))+1:=by omega
 rw [List.take_append_of_le_length (by omega),List.take_of_length_le (by omega),List.drop_append,List.drop_of_length_le (by omega),hl]
 rw [show n+1-n=1 by omega,e,List.replicate_succ,List.drop_succ_cons,List.drop_zero,List.nil_append]
 simp [ws,wc]
theorem z13w(O:Store)(s:List UInt8)(h:64<=s.length)(hs:s.length<9223372036854775808):ACallsTo TC 153 [.str s] O (.agg (ws (z14 s 64))) O:=by
 obtain⟨R,hR⟩:∃R,R=z14 s 64:=⟨_,rfl⟩
 rw [<-hR]
 refine ACallsTo.of_body qcok (by simp) fun hw _=> ?_
 repeat' (first|apply zs_|apply zb_|apply zc_|apply zt_ rfl|apply zf_ rfl|(apply zd_ rfl<;>intro ht<;>try omega)|((first|apply zr_|apply zk_|apply ze_|apply zq_|(apply zG<;>intro ht));all_goals try simp (disch:=first|omega|(simp only [lens];first|done|omega)) only [go_sem]))
 refine zW.loop (fun m J O'=>∃i:Nat,m+i=64/\ J 0=.str s/\ J 2=.ptr O.length 0 0/\ J 6=.int .i64 i/\ O'=O++ [some [ws (z14 s i)++List.replicate (64-i) (AV.int .u32 0)]]) 64 ?_ ?_
 ·exact⟨0,by omega,by simp (disch:=first|omega|(simp only [lens];first|done|omega)) only [go_sem],by simp (disch:=first|omega|(simp only [lens];first|done|omega)) only [go_sem],by simp (disch:=first|omega|(simp only [lens];first|done|omega)) only [go_sem];rfl,rfl⟩
 ·rintro m J O' ⟨i,hm,q0,q2,q6,rfl⟩
  have hsl:=z4m s i
  have hset:=fun x=>zpk (x:=x) hsl
  have hwi:∀j,j<i->(ws (z14 s i)++List.replicate (64-i) (AV.int .u32 0))[j]? =some (.int .u32 (wat (z14 s i) j).toNat):=by
   intro j hj
   rw [List.getElem?_append_left (by rw [z4d];omega),z8l (by omega)]
  have hlen:(ws (z14 s i)++List.replicate (64-i) (AV.int .u32 0)).length=64 \/64<i:=by
   simp [z4d,hsl];omega
  by_cases hi:i<64
  ·have hlen:(ws (z14 s i)++List.replicate (64-i) (AV.int .u32 0)).length=64:=by omega
   generalize hcc:ws (z14 s i)++List.replicate (64-i) (AV.int .u32 0)=cc at*
   by_cases h16:i<16
   ·have hd1:(s.take (4*i+4)).length=4*i+4:=by rw [List.length_take];omega
    repeat' (first|apply zs_|apply zb_|apply zc_|apply zt_ rfl|apply zf_ rfl|(apply zd_ rfl<;>intro ht<;>try omega)|((first|apply zr_|apply zk_|apply ze_|apply zq_|(apply callW.mk_pu;(first|exact(fun _=>zhm _ _ (by simp;omega))))|(apply callW.za;(first|exact(zhm _ _ (by simp;omega))))|(apply zG<;>intro ht));all_goals try simp (disch:=first|omega|(simp only [lens];first|done|omega)) only [go_sem,q0,q2,q6,hlen]))
    have ev:((getS ((s.take (4*(i:Int)+4).toNat).drop (4*(i:Int)).toNat):Nat):Int)%4294967296=((z3r s (z14 s i)).toNat:Int):=by
     rw [show (4*(i:Int)+4).toNat=4*i+4 by omega,show (4*(i:Int)).toNat=4*i by omega,List.drop_take,show 4*i+4-4*i=4 by omega]
     have:=z152 s i
     rw [za9]at this
     rw [this,z3r,if_pos (by omega),hsl]
    refine⟨64-(i+1),by omega,i+1,by omega,by simp,?_⟩
    rw [ev,hset _ hi,z14]
   ·have en:z3r s (z14 s i)=wat (z14 s i) (i-16)+wat (z14 s i) (i-7)+ss0 (wat (z14 s i) (i-15))+ss1 (wat (z14 s i) (i-2)):=by rw [z3r,if_neg (by omega),hsl]
    have g16:=hwi (i-16) (by omega)
    have g7:=hwi (i-7) (by omega)
    have g15:=hwi (i-15) (by omega)
    have g2:=hwi (i-2) (by omega)
    have t16:((i:Int)-16).toNat=i-16:=by omega
    have t7:((i:Int)-7).toNat=i-7:=by omega
    have t15:((i:Int)-15).toNat=i-15:=by omega
    have t2:((i:Int)-2).toNat=i-2:=by omega
    generalize wat (z14 s i) (i-16)=w16 at*
    generalize wat (z14 s i) (i-7)=w7 at*
    generalize wat (z14 s i) (i-15)=w15 at*
    generalize wat (z14 s i) (i-2)=w2 at*
    have r7:((-7:Int)%32).toNat=25:=rfl
    have r18:((-18:Int)%32).toNat=14:=rfl
    have r17:((-17:Int)%32).toNat=15:=rfl
    have r19:((-19:Int)%32).toNat=13:=rfl
    have en2:=hset (z3r s (z14 s i)) hi
    rw [en]at en2
    simp only [ss0,ss1]at en2
    repeat' (first|apply zs_|apply zb_|apply zc_|apply zt_ rfl|apply zf_ rfl|(apply zd_ rfl<;>intro ht<;>try omega)|((first|apply zr_|apply zk_|apply ze_|apply zq_|(apply callW.mk_pu;(first|exact(fun _=>zax _ _ _)))|(apply callW.za;(first|exact(zax _ _ _)))|(apply zG<;>intro ht));all_goals try simp (disch:=first|omega|(simp only [lens];first|done|omega)) only [go_sem,q0,q2,q6,hlen,g16,g7,g15,g2,t16,t7,t15,t2,r7,r18,r17,r19]))
    refine⟨64-(i+1),by omega,i+1,by omega,by simp,?_⟩
    rw [en2,z14,en]
    simp only [ss0,ss1]
  ·have e:i=64:=by omega
   have eR:z14 s i=R:=by rw [hR,e]
   have hsR:R.length=64:=by rw [<-eR,hsl,e]
   have hl64:(ws R).length=64:=by rw [z4d,hsR]
   have e0:List.replicate (64-i) (AV.int .u32 0)=[]:=by rw [e];rfl
   rw [eR,e0,List.append_nil]at*
   clear hwi hset hlen hR
   have hd:(ws R).drop 64=[]:=List.drop_of_length_le (by omega)
   repeat' (first|apply zs_|apply zb_|apply zc_|apply zt_ rfl|apply zf_ rfl|(apply zd_ rfl<;>intro ht<;>try omega)|((first|apply zr_|apply zk_|apply ze_|apply zq_|(apply zG<;>intro ht));all_goals try simp (disch:=first|omega|(simp only [lens];first|done|omega)) only [go_sem,q0,q2,q6,hl64,hd]))
   exact DownV.pure hw (z61 (rl_c _))
end
section
def V8.c8(v:V8):List AV:=[.int .u32 v.a.toNat,.int .u32 v.b.toNat,.int .u32 v.c.toNat,.int .u32 v.d.toNat,.int .u32 v.e.toNat,.int .u32 v.f.toNat,.int .u32 v.g.toNat,.int .u32 v.h.toNat]
theorem ws_l(v:V8):ws v.l=v.c8:=rfl
theorem zjq{i:Nat}(h:i<64):(gl_sha_rounds.drop i)[0]? =some (.int .u32 (kAt i).toNat):=by
 have hall:∀j:Fin 64,(gl_sha_rounds.drop j.val)[0]? =some (.int .u32 (kAt j.val).toNat):=by
  intro j
  have h2:(gl_sha_rounds.drop j.val)[0]? =some (AV.int .u32 (shaRounds.getD j.val 0)):=by
   have hl:shaRounds.length=64:=rfl
   simp only [gl_sha_rounds,List.getElem?_drop,Nat.add_zero,List.getElem?_map,List.getD_eq_getElem?_getD]
   rw [List.getElem?_eq_getElem (by rw [hl];exact j.isLt)];rfl
  rw [h2]
  have h3:∀j:Fin 64,shaRounds.getD j.val 0=((kAt j.val).toNat:Int):=by decide
  rw [h3 j]
 exact hall ⟨i,h⟩
theorem z98:gl_sha_rounds.length=64:=rfl
theorem mix_to(O:Store)(v:V8)(s:List UInt8)(h:64<=s.length)(hs:s.length<9223372036854775808):ACallsTo TC 127 [.agg (ws v.l),.str s] O (.agg (ws (mixS v s).l)) O:=by
 obtain⟨R,hR⟩:∃R,R=z14 s 64:=⟨_,rfl⟩
 have hsp:=fun O=>z13w O s h hs
 rw [<-hR]at hsp
 have hRl:R.length=64:=by rw [hR,z4m]
 have hwR:(ws R).length=64:=by rw [z4d,hRl]
 have hst:∀n,rnds s v (n+1)=rnd (rnds s v n) (kAt n) (wat R n):=fun n=>by rw [rnds,hR]
 obtain⟨F,hF⟩:∃F,F=(rnds s v 64).add v:=⟨_,rfl⟩
 have hmix:mixS v s=F:=hF.symm
 rw [hmix,ws_l,ws_l]
 clear hmix
 refine ACallsTo.of_body qbok (by simp) fun hw _=> ?_
 unfold V8.c8
 repeat' (first|apply zs_|apply zb_|apply zc_|apply zt_ rfl|apply zf_ rfl|(apply zd_ rfl<;>intro ht<;>try omega)|((first|apply zr_|apply zk_|apply ze_|apply zq_|(apply callW.mk_pu;(first|exact(fun _=>hsp _)))|(apply callW.za;(first|exact(hsp _)))|(apply zG<;>intro ht));all_goals try simp (disch:=first|omega|(simp only [lens];first|done|omega)) only [go_sem]))
 refine zW.loop (fun m J O'=>∃i:Nat,m+i=64/\ J 2=.ptr O.length 0 0/\ J 4=.ptr (O.length+1) 0 0/\ J 5=.ptr (O.length+2) 0 0/\ J 15=.agg (ws R)/\ J 16=.int .i64 i ∧
  O'=O++ [some [v.c8],some [[AV.int .u32 0,AV.int .u32 0,AV.int .u32 0,AV.int .u32 0,AV.int .u32 0,AV.int .u32 0,AV.int .u32 0,AV.int .u32 0]],some [(rnds s v i).c8]]) 64 ?_ ?_
 ·exact⟨0,by omega,by simp (disch:=first|omega|(simp only [lens];first|done|omega)) only [go_sem],by simp (disch:=first|omega|(simp only [lens];first|done|omega)) only [go_sem],by simp (disch:=first|omega|(simp only [lens];first|done|omega)) only [go_sem],by simp (disch:=first|omega|(simp only [lens];first|done|omega)) only [go_sem],by simp (disch:=first|omega|(simp only [lens];first|done|omega)) only [go_sem];rfl,rfl⟩
 ·rintro m J O' ⟨i,hm,q2,q4,q5,q15,q16,rfl⟩
  by_cases hi:i<64
  ·have hk:=zjq hi
   have hw:=z8l (w:=R) (i:=i) (by omega)
   have hst:=hst i
   generalize rnds s v i=u at*
   obtain⟨a,b,c,d,e,f,g,h⟩:=u
   generalize kAt i=kk at*
   generalize wat R i=ww at*
   have r6:((-6:Int)%32).toNat=26:=rfl
   have r11:((-11:Int)%32).toNat=21:=rfl
   have r25:((-25:Int)%32).toNat=7:=rfl
   have r2:((-2:Int)%32).toNat=30:=rfl
   have r13:((-13:Int)%32).toNat=19:=rfl
   have r22:((-22:Int)%32).toNat=10:=rfl
   refine zs_ ?_
   refine zr_ ?_
   simp (disch:=first|omega|(simp only [lens];first|done|omega)) only [go_sem,q16]
   refine zs_ ?_
   refine zt_ rfl ?_
   refine zk_ ?_
   simp (disch:=first|omega|(simp only [lens];first|done|omega)) only [go_sem]
   refine zs_ ?_
   refine zb_ ?_
   refine zs_ ?_
   refine zW.regS ?_
   simp (disch:=first|omega|(simp only [lens];first|done|omega)) only [go_sem,q15,q16,hwR,hw]
   (refine zW.slots [2,4,5,6,7,15,16] ?_;intro J1 hs;simp (disch:=first|omega|(simp only [lens];first|done|omega)) only [go_sem,q2,q4,q5,q15,q16]at hs;obtain⟨s2,s4,s5,s6,s7,s15,s16⟩:=hs)
   refine zs_ ?_
   refine zW.regS ?_
   simp (disch:=first|omega|(simp only [lens];first|done|omega)) only [go_sem,s5,V8.c8]
   (refine zW.slots [2,4,5,6,7,8,9,15,16] ?_;intro J2 hs;simp (disch:=first|omega|(simp only [lens];first|done|omega)) only [go_sem,s2,s4,s5,s6,s7,s15,s16]at hs;obtain⟨s2,s4,s5,s6,s7,s8,s9,s15,s16⟩:=hs)
   refine zs_ ?_
   (refine zW.regS ?_;(simp (disch:=first|omega|(simp only [lens];first|done|omega)) only [go_sem,s2,s4,s5,s6,s7,s8,s9,V8.c8,hk,z98,r6,r11,r25]);repeat' (apply callW.za;(first|exact(zax _ _ _));all_goals try (simp (disch:=first|omega|(simp only [lens];first|done|omega)) only [go_sem,s2,s4,s5,s6,s7,s8,s9,V8.c8,hk,z98,r6,r11,r25])))
   (refine zW.slots [2,4,5,8,9,10,15,16] ?_;intro J3 hs;simp (disch:=first|omega|(simp only [lens];first|done|omega)) only [go_sem,s2,s4,s5,s8,s9,s15,s16]at hs;obtain⟨s2,s4,s5,s8,s9,s10,s15,s16⟩:=hs)
   refine zs_ ?_
   (refine zW.regS ?_;(simp (disch:=first|omega|(simp only [lens];first|done|omega)) only [go_sem,s5,s8,s9,V8.c8,r2,r13,r22]);repeat' (apply callW.za;(first|exact(zax _ _ _));all_goals try (simp (disch:=first|omega|(simp only [lens];first|done|omega)) only [go_sem,s5,s8,s9,V8.c8,r2,r13,r22])))
   (refine zW.slots [2,4,5,8,9,10,11,15,16] ?_;intro J4 hs;simp (disch:=first|omega|(simp only [lens];first|done|omega)) only [go_sem,s2,s4,s5,s8,s9,s10,s15,s16]at hs;obtain⟨s2,s4,s5,s8,s9,s10,s11,s15,s16⟩:=hs)
   (refine zW.regS ?_;(simp (disch:=first|omega|(simp only [lens];first|done|omega)) only [go_sem,s5,s8,s9,s10,s11,V8.c8]))
   (refine zW.slots [2,4,5,15,16] ?_;intro J5 hs;simp (disch:=first|omega|(simp only [lens];first|done|omega)) only [go_sem,s2,s4,s5,s15,s16]at hs;obtain⟨s2,s4,s5,s15,s16⟩:=hs)
   (refine zW.regS ?_;(simp (disch:=first|omega|(simp only [lens];first|done|omega)) only [go_sem,s16]))
   refine⟨64-(i+1),by omega,i+1,by omega,s2,s4,s5,s15,by simp,?_⟩
   rw [hst]
   simp only [rnd,V8.c8,bs1,chW,bs0,majW]
  ·obtain rfl:i=64:=by omega
   clear hst
   generalize rnds s v 64=U at*
   rw [hF,V8.add]
   clear hF hR
   obtain⟨a,b,c,d,e,f,g,h⟩:=U
   obtain⟨a',b',c',d',e',f',g',h'⟩:=v
   simp only [V8.c8]at*
   repeat' (first|apply zs_|apply zb_|apply zc_|apply zt_ rfl|apply zf_ rfl|(apply zd_ rfl<;>intro ht<;>try omega)|((first|apply zr_|apply zk_|apply ze_|apply zq_|(apply zG<;>intro ht));all_goals try simp (disch:=first|omega|(simp only [lens];first|done|omega)) only [go_sem,q16]))
   refine zW.loop (fun m J O'=>∃j:Nat,m+j=8/\ J 2=.ptr O.length 0 0/\ J 4=.ptr (O.length+1) 0 0/\ J 5=.ptr (O.length+2) 0 0/\ J 95=.int .i64 j ∧
    O'=O++ [some [V8.c8 ⟨a',b',c',d',e',f',g',h'⟩],some [[AV.int .u32 0,AV.int .u32 0,AV.int .u32 0,AV.int .u32 0,AV.int .u32 0,AV.int .u32 0,AV.int .u32 0,AV.int .u32 0]],some [(V8.c8 ⟨a+a',b+b',c+c',d+d',e+e',f+f',g+g',h+h'⟩).take j++(V8.c8 ⟨a,b,c,d,e,f,g,h⟩).drop j]]) 8 ?_ ?_
   ·exact⟨0,by omega,by simp (disch:=first|omega|(simp only [lens];first|done|omega)) only [go_sem,q2],by simp (disch:=first|omega|(simp only [lens];first|done|omega)) only [go_sem,q4],by simp (disch:=first|omega|(simp only [lens];first|done|omega)) only [go_sem,q5],by simp (disch:=first|omega|(simp only [lens];first|done|omega)) only [go_sem];rfl,rfl⟩
   ·clear q2 q4 q5 q15 q16
    rintro m J O' ⟨j,hm,q2,q4,q5,q95,rfl⟩
    have hj:j=0 \/j=1 \/j=2 \/j=3 \/j=4 \/j=5 \/j=6 \/j=7 \/j=8:=by omega
    rcases hj with rfl|rfl|rfl|rfl|rfl|rfl|rfl|rfl|rfl
    ·repeat' (first|refine zs_ ?_|refine zb_ ?_|refine zc_ ?_|refine zt_ rfl ?_|refine zf_ rfl ?_|(refine zd_ rfl (fun ht=> ?_) (fun ht=> ?_)<;>try (exfalso;omega))|((first|refine zW.regS ?_|refine zk_ ?_|refine ze_ ?_|refine zq_ ?_|(apply zG<;>intro ht));all_goals try simp (disch:=first|omega|(simp only [lens];first|done|omega)) only [go_sem,q2,q4,q5,q95,V8.c8]))
     exact⟨7,by omega,1,by omega,rfl,rfl⟩
    ·repeat' (first|refine zs_ ?_|refine zb_ ?_|refine zc_ ?_|refine zt_ rfl ?_|refine zf_ rfl ?_|(refine zd_ rfl (fun ht=> ?_) (fun ht=> ?_)<;>try (exfalso;omega))|((first|refine zW.regS ?_|refine zk_ ?_|refine ze_ ?_|refine zq_ ?_|(apply zG<;>intro ht));all_goals try simp (disch:=first|omega|(simp only [lens];first|done|omega)) only [go_sem,q2,q4,q5,q95,V8.c8]))
     exact⟨6,by omega,2,by omega,rfl,rfl⟩
    ·repeat' (first|refine zs_ ?_|refine zb_ ?_|refine zc_ ?_|refine zt_ rfl ?_|refine zf_ rfl ?_|(refine zd_ rfl (fun ht=> ?_) (fun ht=> ?_)<;>try (exfalso;omega))|((first|refine zW.regS ?_|refine zk_ ?_|refine ze_ ?_|refine zq_ ?_|(apply zG<;>intro ht));all_goals try simp (disch:=first|omega|(simp only [lens];first|done|omega)) only [go_sem,q2,q4,q5,q95,V8.c8]))
     exact⟨5,by omega,3,by omega,rfl,rfl⟩
    ·repeat' (first|refine zs_ ?_|refine zb_ ?_|refine zc_ ?_|refine zt_ rfl ?_|refine zf_ rfl ?_|(refine zd_ rfl (fun ht=> ?_) (fun ht=> ?_)<;>try (exfalso;omega))|((first|refine zW.regS ?_|refine zk_ ?_|refine ze_ ?_|refine zq_ ?_|(apply zG<;>intro ht));all_goals try simp (disch:=first|omega|(simp only [lens];first|done|omega)) only [go_sem,q2,q4,q5,q95,V8.c8]))
     exact⟨4,by omega,4,by omega,rfl,rfl⟩
    ·repeat' (first|refine zs_ ?_|refine zb_ ?_|refine zc_ ?_|refine zt_ rfl ?_|refine zf_ rfl ?_|(refine zd_ rfl (fun ht=> ?_) (fun ht=> ?_)<;>try (exfalso;omega))|((first|refine zW.regS ?_|refine zk_ ?_|refine ze_ ?_|refine zq_ ?_|(apply zG<;>intro ht));all_goals try simp (disch:=first|omega|(simp only [lens];first|done|omega)) only [go_sem,q2,q4,q5,q95,V8.c8]))
     exact⟨3,by omega,5,by omega,rfl,rfl⟩
    ·repeat' (first|refine zs_ ?_|refine zb_ ?_|refine zc_ ?_|refine zt_ rfl ?_|refine zf_ rfl ?_|(refine zd_ rfl (fun ht=> ?_) (fun ht=> ?_)<;>try (exfalso;omega))|((first|refine zW.regS ?_|refine zk_ ?_|refine ze_ ?_|refine zq_ ?_|(apply zG<;>intro ht));all_goals try simp (disch:=first|omega|(simp only [lens];first|done|omega)) only [go_sem,q2,q4,q5,q95,V8.c8]))
     exact⟨2,by omega,6,by omega,rfl,rfl⟩
    ·repeat' (first|refine zs_ ?_|refine zb_ ?_|refine zc_ ?_|refine zt_ rfl ?_|refine zf_ rfl ?_|(refine zd_ rfl (fun ht=> ?_) (fun ht=> ?_)<;>try (exfalso;omega))|((first|refine zW.regS ?_|refine zk_ ?_|refine ze_ ?_|refine zq_ ?_|(apply zG<;>intro ht));all_goals try simp (disch:=first|omega|(simp only [lens];first|done|omega)) only [go_sem,q2,q4,q5,q95,V8.c8]))
     exact⟨1,by omega,7,by omega,rfl,rfl⟩
    ·repeat' (first|refine zs_ ?_|refine zb_ ?_|refine zc_ ?_|refine zt_ rfl ?_|refine zf_ rfl ?_|(refine zd_ rfl (fun ht=> ?_) (fun ht=> ?_)<;>try (exfalso;omega))|((first|refine zW.regS ?_|refine zk_ ?_|refine ze_ ?_|refine zq_ ?_|(apply zG<;>intro ht));all_goals try simp (disch:=first|omega|(simp only [lens];first|done|omega)) only [go_sem,q2,q4,q5,q95,V8.c8]))
     exact⟨0,by omega,8,by omega,rfl,rfl⟩
    ·repeat' (first|apply zs_|apply zb_|apply zc_|apply zt_ rfl|apply zf_ rfl|(apply zd_ rfl<;>intro ht<;>try omega)|((first|apply zr_|apply zk_|apply ze_|apply zq_|(apply zG<;>intro ht));all_goals try simp (disch:=first|omega|(simp only [lens];first|done|omega)) only [go_sem,q2,q4,q5,q95,V8.c8]))
     exact DownV.pure hw (z1d _ rfl)
end
end Am
end Go.Proofs.YtcdcmgjnbjoajaaGreatDoor
section
/- Contracts of library functions, laid off the kit's shelf for this program. -/
namespace Go.Proofs
open Go.Shelf
def Tryz.lays169_ren : Go.Shelf.Ren := ⟨fun | 169 => 86 | n => n, fun | 70 => 136 | 9 => 9 | 0 => 0 | 72 => 138 | 37 => 105 | 127 => 180 | 3 => 3 | 5 => 5 | n => n, fun | n => n⟩
theorem Tryz.lays169 : Go.Proofs.Lays.n169 Tryz.prog Tryz.lays169_ren := {
 mixed := by kernel_rfl
 f169 := Tryz.func86.trans (congrArg some (by kernel_rfl))
 t0 := Tryz.underlying0
 a0 := Tryz.isAgg0
 z0 := Tryz.sizeOf0
 v0 := Tryz.zeroValue0
 t3 := Tryz.underlying3
 a3 := Tryz.isAgg3
 z3 := Tryz.sizeOf3
 v3 := Tryz.zeroValue3
 t9 := Tryz.underlying9
 a9 := Tryz.isAgg9
 z9 := Tryz.sizeOf9
 v9 := Tryz.zeroValue9
 t37 := Tryz.underlying105
 a37 := Tryz.isAgg105
 z37 := Tryz.sizeOf105
 v37 := Tryz.zeroValue105
 t70 := Tryz.underlying136
 a70 := Tryz.isAgg136
 z70 := Tryz.sizeOf136
 v70 := Tryz.zeroValue136
 t72 := Tryz.underlying138
 a72 := Tryz.isAgg138
 z72 := Tryz.sizeOf138
 v72 := Tryz.zeroValue138
 t127 := Tryz.underlying180
 a127 := Tryz.isAgg180
 z127 := Tryz.sizeOf180
 v127 := Tryz.zeroValue180 }
theorem Tryz.Builder_Extra_169 : Builder.Extra Tryz.prog Tryz.lays169_ren := {
 sizeBuilder := by kernel_rfl
 liesBuilder := by kernel_rfl
 t5 := Tryz.underlying5
 a5 := Tryz.isAgg5
 z5 := Tryz.sizeOf5
 v5 := Tryz.zeroValue5
 infoByte := by kernel_rfl
 cellsByte := by kernel_rfl
 sizeByte := by kernel_rfl
 neB5 := by decide }
open Go.RowKit in
theorem Tryz.Builder_String_any (B b : Nat) (l : List UInt8) (w : World) (h : Lib.IsBuilder 138 5 B b (Lib.byteCells l) w) (hBw : B <= w.heap.size) :
  Calls Tryz.prog 86 #[.pointer (some ⟨b, 0, none⟩)] w fun e w' => e = .returned (.string ⟨l.toArray⟩) /\ Below B w w' := Any.Builder_String_any Tryz.lays169 Tryz.Builder_Extra_169 B b l w h hBw
def Tryz.lays105_ren : Go.Shelf.Ren := ⟨fun | 105 => 152 | 212 => 165 | 99 => 166 | 165 => 167 | 166 => 83 | 170 => 168 | 169 => 86 | 263 => 174 | 264 => 175 | 206 => 176 | 240 => 125 | 241 => 177 | 276 => 151 | 277 => 178 | n => n, fun | 9 => 9 | 3 => 3 | 4 => 4 | 20 => 20 | 0 => 0 | 46 => 158 | 109 => 208 | 5 => 5 | 72 => 138 | 76 => 142 | 51 => 177 | 146 => 213 | 53 => 155 | 148 => 215 | 70 => 136 | 37 => 105 | 75 => 140 | 127 => 180 | 164 => 195 | 80 => 146 | n => n, fun | n => n⟩
theorem Tryz.lays105 : Go.Proofs.Lays.n105 Tryz.prog Tryz.lays105_ren := {
 mixed := by kernel_rfl
 f99 := Tryz.func166.trans (congrArg some (by kernel_rfl))
 f105 := Tryz.func152.trans (congrArg some (by kernel_rfl))
 f165 := Tryz.func167.trans (congrArg some (by kernel_rfl))
 f166 := Tryz.func83.trans (congrArg some (by kernel_rfl))
 f169 := Tryz.func86.trans (congrArg some (by kernel_rfl))
 f170 := Tryz.func168.trans (congrArg some (by kernel_rfl))
 f206 := Tryz.func176.trans (congrArg some (by kernel_rfl))
 f212 := Tryz.func165.trans (congrArg some (by kernel_rfl))
 f240 := Tryz.func125.trans (congrArg some (by kernel_rfl))
 f241 := Tryz.func177.trans (congrArg some (by kernel_rfl))
 f263 := Tryz.func174.trans (congrArg some (by kernel_rfl))
 f264 := Tryz.func175.trans (congrArg some (by kernel_rfl))
 f276 := Tryz.func151.trans (congrArg some (by kernel_rfl))
 f277 := Tryz.func178.trans (congrArg some (by kernel_rfl))
 t0 := Tryz.underlying0
 a0 := Tryz.isAgg0
 z0 := Tryz.sizeOf0
 v0 := Tryz.zeroValue0
 t3 := Tryz.underlying3
 a3 := Tryz.isAgg3
 z3 := Tryz.sizeOf3
 v3 := Tryz.zeroValue3
 t4 := Tryz.underlying4
 a4 := Tryz.isAgg4
 z4 := Tryz.sizeOf4
 v4 := Tryz.zeroValue4
 t5 := Tryz.underlying5
 a5 := Tryz.isAgg5
 z5 := Tryz.sizeOf5
 v5 := Tryz.zeroValue5
 t9 := Tryz.underlying9
 a9 := Tryz.isAgg9
 z9 := Tryz.sizeOf9
 v9 := Tryz.zeroValue9
 t20 := Tryz.underlying20
 a20 := Tryz.isAgg20
 z20 := Tryz.sizeOf20
 v20 := Tryz.zeroValue20
 t37 := Tryz.underlying105
 a37 := Tryz.isAgg105
 z37 := Tryz.sizeOf105
 v37 := Tryz.zeroValue105
 t46 := Tryz.underlying158
 a46 := Tryz.isAgg158
 z46 := Tryz.sizeOf158
 v46 := Tryz.zeroValue158
 t51 := Tryz.underlying177
 a51 := Tryz.isAgg177
 z51 := Tryz.sizeOf177
 v51 := Tryz.zeroValue177
 t53 := Tryz.underlying155
 a53 := Tryz.isAgg155
 z53 := Tryz.sizeOf155
 v53 := Tryz.zeroValue155
 t70 := Tryz.underlying136
 a70 := Tryz.isAgg136
 z70 := Tryz.sizeOf136
 v70 := Tryz.zeroValue136
 t72 := Tryz.underlying138
 a72 := Tryz.isAgg138
 z72 := Tryz.sizeOf138
 v72 := Tryz.zeroValue138
 t75 := Tryz.underlying140
 a75 := Tryz.isAgg140
 z75 := Tryz.sizeOf140
 v75 := Tryz.zeroValue140
 t76 := Tryz.underlying142
 a76 := Tryz.isAgg142
 z76 := Tryz.sizeOf142
 v76 := Tryz.zeroValue142
 t109 := Tryz.underlying208
 a109 := Tryz.isAgg208
 z109 := Tryz.sizeOf208
 v109 := Tryz.zeroValue208
 t127 := Tryz.underlying180
 a127 := Tryz.isAgg180
 z127 := Tryz.sizeOf180
 v127 := Tryz.zeroValue180
 t146 := Tryz.underlying213
 a146 := Tryz.isAgg213
 z146 := Tryz.sizeOf213
 v146 := Tryz.zeroValue213
 t148 := Tryz.underlying215
 a148 := Tryz.isAgg215
 z148 := Tryz.sizeOf215
 v148 := Tryz.zeroValue215
 t164 := Tryz.underlying195
 a164 := Tryz.isAgg195
 z164 := Tryz.sizeOf195
 v164 := Tryz.zeroValue195 }
theorem Tryz.Builder_Extra_105 : Builder.Extra Tryz.prog Tryz.lays105_ren := {
 sizeBuilder := by kernel_rfl
 liesBuilder := by kernel_rfl
 t5 := Tryz.underlying5
 a5 := Tryz.isAgg5
 z5 := Tryz.sizeOf5
 v5 := Tryz.zeroValue5
 infoByte := by kernel_rfl
 cellsByte := by kernel_rfl
 sizeByte := by kernel_rfl
 neB5 := by decide }
open Go.RowKit Go.Lib in
theorem Tryz.strings_Repeat (s : ByteArray) (c : Nat) (w : World) (hc : c <= 9223372036854775807) (hlen : s.size * c <= 140737488355328) :
  Calls Tryz.prog 152 #[.string s, .int .i64 c] w fun e w' => e = .returned (.string ⟨(Lib.repeatL s.data.toList c).toArray⟩) /\ Below w.heap.size w w' := Any.strings_Repeat Tryz.lays105 Tryz.Builder_Extra_105 s c w hc hlen
end Go.Proofs
end
namespace Go.Proofs.YtcdcmgjnbjoajaaGreatDoor
namespace Am
section
open Go.RowKit
def z10(l:List UInt8):List AV:=l.map fun b=> .int .u8 b.toNat
theorem z3q{k:Nat}:∀(l:List UInt8),RLs k (z10 l)
 | []=>by simp [z10,RLs]
 | _::l=>by have:=z3q (k:=k) l;simp only [z10]at this;simp [z10,RLs,RL,this]
theorem Rel.below{C:Ctx}{Z:Places}{O:Store}{w w':World}(h:Rel C Z O w)(hb:Below w.heap.size w w'):Step Z w Z w'/\ Rel C Z O w':=by
 have hs:Step Z w Z w':=⟨fun r fl pl h=>⟨fl,h⟩,hb.size,fun b hb' _=>hb.block b hb',fun r pl h=> .inl ⟨r,pl,h,rfl⟩,hb.os,hb.tape,hb.output⟩
 refine⟨hs,h.len,fun r o hr=> ?_,h.dead,h.inj,fun g cs hg=>(h.gl g cs hg).mono hs⟩
 obtain⟨pl,h1,h2⟩:=h.alive r o hr
 exact⟨pl,h1,h2.mono hs (hb.block _ h2.lt)⟩
theorem ACallsTo.of_calls{C:Ctx}{f:FuncId}{args:List AV}{O:Store}{v:AV}(hc:(cFn C f).isSome=true)
  (h:∀(Z:Places) (w:World) (cargs:List Value),VRt Z w args cargs->Calls C.P f cargs.toArray w fun e w'=>∃cv,e=.returned cv/\ VR Z w' v cv/\ Below w.heap.size w w'):ACallsTo C f args O v O:=by
 obtain⟨e,hc⟩:=Option.isSome_iff_exists.1 hc
 simp only [cFn,Option.bind_eq_some_iff]at hc
 obtain⟨fn,hf,hc⟩:=hc
 split at hc
 ·cases hc
 ·rename_i hname
  simp only [Option.bind_eq_some_iff,Option.map_eq_some_iff]at hc
  obtain⟨c,hb,_⟩:=hc
  intro Z w cargs hR ha
  left
  constructor
  ·have h1:fn.name ≠ "runtime.NumGoroutine" :=by simpa using hname
   simp [callFunc,hf,h1,hb]
  ·refine(h Z w cargs ha).mono ?_
   rintro e w' ⟨cv,rfl,hv,hbl⟩
   obtain⟨s1,s2⟩:=hR.below hbl
   exact⟨cv,Z,rfl,s1,s2,hv⟩
theorem zyp(b:UInt8):∀n,Lib.repeatL [b] n=List.replicate n b:=by
 intro n
 induction n with
 |zero=>simp [Lib.repeatL]
 |succ n ih=>simp [Lib.repeatL,List.replicate_succ]at ih ⊢ <;>simp [ih]
theorem zlm(O:Store)(b:UInt8)(c:Nat)(h:c<=1000000):ACallsTo TC 152 [.str [b],.int .i64 c] O (.str (List.replicate c b)) O:=by
 refine ACallsTo.of_calls (by kernel_rfl) ?_
 intro Z w cargs ha
 simp only [VRt,VR]at ha
 obtain⟨_,_,rfl,rfl,_,_,rfl,rfl,rfl⟩:=ha
 refine(Tryz.strings_Repeat ⟨[b].toArray⟩ c w (by omega) (by simp [ByteArray.size];omega)).mono ?_
 rintro e w' ⟨rfl,hb⟩
 refine⟨_,rfl,?_,hb⟩
 simp only [VR]
 rw [zyp]
theorem zrc(O:Store)(s:List UInt8)(h:s.length<1000000000000):ACallsTo TC 126 [.str s] O (.str (padS s)) O:=by
 refine ACallsTo.of_body qaok (by simp) fun hw _=> ?_
 obtain⟨z,hz⟩:∃z:Nat,z=(119-s.length%64)%64:=⟨_,rfl⟩
 have hz64:z<64:=by rw [hz];exact Nat.mod_lt _ (by decide)
 have hz2:(119-(s.length:Int)%64)%64=z:=by omega
 have hp:putS ((s.length:Int)*8) 8=be 8 (s.length*8):=by
  unfold putS
  rw [if_pos (by omega)]
  rfl
 have hpl:(be 8 (s.length*8)).length=8:=z3u _ _
 repeat' (first|apply zs_|apply zb_|apply zc_|apply zt_ rfl|apply zf_ rfl|(apply zd_ rfl<;>intro ht<;>try omega)|((first|apply zr_|apply zk_|apply ze_|apply zq_|(apply callW.mk_pu;(first|exact(fun _=>zlm _ 0 z (by omega))|exact(fun _=>z78 _ ((s.length:Int)*8) 8 (by omega) (by omega))))|(apply callW.za;(first|exact(zlm _ 0 z (by omega))|exact(z78 _ ((s.length:Int)*8) 8 (by omega) (by omega))))|(apply zG<;>intro ht));all_goals try simp (disch:=first|omega|(simp only [lens];first|done|omega)) only [go_sem,hz2,hp,hpl,List.length_replicate]))
 have e:s++([128]++(List.replicate z 0++be 8 (s.length*8)))=padS s:=by unfold padS;rw [<-hz];rfl
 rw [show s++128::(List.replicate z 0++be 8 (s.length*8))=padS s by unfold padS;rw [<-hz]]
 exact DownV.same hw (z1d _ rfl)
theorem zkr(s:List UInt8):(padS s).length%64=0/\ (padS s).length<s.length+80:=by
 unfold padS
 simp only [List.length_append,List.length_cons,List.length_replicate,z3u]
 omega
theorem zrn:zds=v0.c8:=rfl
theorem put4(x:W):putS (x.toNat:Int) 4=be 4 x.toNat:=by
 unfold putS
 rw [if_pos (by omega)]
 rfl
theorem mix_c8(O:Store)(v:V8)(s:List UInt8)(h:64<=s.length)(hs:s.length<9223372036854775808):ACallsTo TC 127 [.agg v.c8,.str s] O (.agg (mixS v s).c8) O:=mix_to O v s h hs
theorem zre{l:List W}{j:Nat}(h:j<l.length):(l.flatMap fun x=>be 4 x.toNat).take (4*j)++be 4 (l[j]).toNat=(l.flatMap fun x=>be 4 x.toNat).take (4*(j+1)):=by
 induction l generalizing j with
 |nil=>simp at h
 |cons x l ih=>
  have hb:(be 4 x.toNat).length=4:=z3u _ _
  rw [List.flatMap_cons]
  cases j with
  |zero=>
   simp only [Nat.mul_zero,List.take_zero,List.nil_append,List.getElem_cons_zero,Nat.zero_add,Nat.mul_one]
   rw [List.take_append_of_le_length (by omega),List.take_of_length_le (by omega)]
  |succ j=>
   simp only [List.length_cons]at h
   have e1:(be 4 x.toNat).take (4*(j+1))=be 4 x.toNat:=List.take_of_length_le (by omega)
   have e2:(be 4 x.toNat).take (4*(j+1+1))=be 4 x.toNat:=List.take_of_length_le (by omega)
   rw [List.getElem_cons_succ,List.take_append,List.take_append,e1,e2,hb,List.append_assoc,show 4*(j+1)-4=4*j by omega,show 4*(j+1+1)-4=4*(j+1)by omega,ih (by omega)]
theorem z56(v:V8):(outV v).length=32:=by
 simp [outV,V8.l,z3u]
def z4g(v:V8)(j:Nat):List AV:=z10 ((outV v).take (4*j))++List.replicate (32-4*j) (.int .u8 0)
theorem zw(l:List UInt8):(z10 l).length=l.length:=by simp [z10]
theorem zs1(v:V8){j:Nat}(h:j<=8):(z4g v j).length=32:=by
 simp [z4g,zw,z56];omega
theorem zho(l:List UInt8):(zn l).flatten=z10 l:=by
 induction l with
 |nil=>rfl
 |cons b l ih=>simp [zn,z10,B8]at ih ⊢;exact ih
theorem zs2(v:V8){j:Nat}(h:j<8):z1c (z4g v j) (4*j) (z10 (be 4 (wat v.l j).toNat))=z4g v (j+1):=by
 have hl:v.l.length=8:=rfl
 have e:=zre (l:=v.l) (j:=j) (by omega)
 have hw:wat v.l j=v.l[j]'(by omega):=by simp [wat,List.getD_eq_getElem?_getD,List.getElem?_eq_getElem (show j<v.l.length by omega)]
 have h1:(z10 ((outV v).take (4*j))).length=4*j:=by rw [zw,List.length_take,z56];omega
 have h2:(z10 (be 4 (wat v.l j).toNat)).length=4:=by rw [zw,z3u]
 unfold z1c z4g
 rw [List.take_append_of_le_length (by omega),List.take_of_length_le (by omega),List.drop_append,List.drop_of_length_le (by omega),h1,h2,List.nil_append]
 rw [show 4*j+4-4*j=4 by omega,List.drop_replicate,show 32-4*j-4=32-4*(j+1)by omega]
 congr 1
 unfold z10
 rw [<-List.map_append]
 congr 1
 rw [hw]
 exact e
theorem z8f(O:Store)(s:List UInt8)(h:s.length<100000000000):ACallsTo TC 85 [.str s] O (.agg (z10 (shaS s))) O:=by
 obtain⟨p,hp⟩:∃p,p=padS s:=⟨_,rfl⟩
 obtain⟨hp1,hp2⟩:=zkr s
 rw [<-hp]at hp1 hp2
 obtain⟨N,hN⟩:∃N,p.length=64*N:=⟨p.length/64,by omega⟩
 obtain⟨V,hV⟩:∃V,V=blocks N v0 p:=⟨_,rfl⟩
 have hS:shaS s=outV V:=by
  unfold shaS
  rw [<-hp,hV]
  have:p.length/64=N:=by omega
  rw [this]
 rw [hS]
 have hf:=fun O=>zrc O s (by omega)
 rw [<-hp]at hf
 refine ACallsTo.of_body q7ok (by simp) fun hw _=> ?_
 repeat' (first|apply zs_|apply zb_|apply zc_|apply zt_ rfl|apply zf_ rfl|(apply zd_ rfl<;>intro ht<;>try omega)|((first|apply zr_|apply zk_|apply ze_|apply zq_|(apply callW.mk_pu;(first|exact(fun _=>hf _)))|(apply callW.za;(first|exact(hf _)))|(apply zG<;>intro ht));all_goals try simp (disch:=first|omega|(simp only [lens];first|done|omega)) only [go_sem,zrn,V8.c8]))
 refine zW.loop (fun m J O'=>∃u q,q.length=64*m/\ q.length<=p.length/\ blocks m u q=V/\ J 2=.ptr O.length 0 0/\ J 3=.ptr (O.length+1) 0 0/\ J 4=.str q/\ O'=O++ [some [z10 (List.replicate 32 0)],some [u.c8]]) N ?_ ?_
 ·exact⟨v0,p,hN,Nat.le_refl _,hV.symm,by simp (disch:=first|omega|(simp only [lens];first|done|omega)) only [go_sem],by simp (disch:=first|omega|(simp only [lens];first|done|omega)) only [go_sem],by simp (disch:=first|omega|(simp only [lens];first|done|omega)) only [go_sem],rfl⟩
 ·rintro m J O' ⟨u,q,hq,hqp,hb,q2,q3,q4,rfl⟩
  have hz:(z10 (List.replicate 32 0)).length=32:=rfl
  cases m with
  |succ m=>
   have hne:(q==[])=false:=by cases q with
    |nil=>simp at hq
    |cons a q=>rfl
   have hmix:=fun O=>mix_c8 O u (q.take 64) (by rw [List.length_take];omega) (by rw [List.length_take];omega)
   obtain⟨M,hM⟩:∃M,M=mixS u (q.take 64):=⟨_,rfl⟩
   rw [<-hM]at hmix
   have hb2:blocks m M (q.drop 64)=V:=by rw [hM];exact hb
   unfold V8.c8 at hmix
   repeat' (first|refine zs_ ?_|refine zb_ ?_|refine zc_ ?_|refine zt_ rfl ?_|refine zf_ rfl ?_|(refine zd_ rfl (fun ht=> ?_) (fun ht=> ?_)<;>try (exfalso;omega))|((first|refine zW.regS ?_|refine zk_ ?_|refine ze_ ?_|refine zq_ ?_|(apply callW.mk_pu;(first|exact(fun _=>hmix _)))|(apply callW.za;(first|exact(hmix _)))|(apply zG<;>intro ht));all_goals try simp (disch:=first|omega|(simp only [lens];first|done|omega)) only [go_sem,q2,q3,q4,hne,V8.c8]))
   refine⟨m,by omega,M,q.drop 64,by rw [List.length_drop];omega,by rw [List.length_drop];omega,hb2,rfl,rfl⟩
  |zero=>
   have hq0:q=[]:=List.eq_nil_of_length_eq_zero (by omega)
   subst hq0
   have hu:u=V:=hb
   subst hu
   repeat' (first|apply zs_|apply zb_|apply zc_|apply zt_ rfl|apply zf_ rfl|(apply zd_ rfl<;>intro ht<;>try omega)|((first|apply zr_|apply zk_|apply ze_|apply zq_|(apply zG<;>intro ht));all_goals try simp (disch:=first|omega|(simp only [lens];first|done|omega)) only [go_sem,q2,q3,q4,V8.c8]))
   refine zW.loop (fun m J O'=>∃j:Nat,m+j=8/\ J 2=.ptr O.length 0 0/\ J 5=.ptr (O.length+2) 0 0/\ J 19=.agg u.c8/\ J 20=.int .i64 j/\ O'=O++ [some [z10 (List.replicate 32 0)],some [u.c8],some [z4g u j]]) 8 ?_ ?_
   ·exact⟨0,by omega,by simp (disch:=first|omega|(simp only [lens];first|done|omega)) only [go_sem,q2],by simp (disch:=first|omega|(simp only [lens];first|done|omega)) only [go_sem],by simp (disch:=first|omega|(simp only [lens];first|done|omega)) only [go_sem];rfl,by simp (disch:=first|omega|(simp only [lens];first|done|omega)) only [go_sem];rfl,rfl⟩
   ·clear q2 q3 q4
    rintro m J O' ⟨j,hm,q2,q5,q19,q20,rfl⟩
    have hlen:=zs1 u (j:=j) (by omega)
    have h8:u.c8.length=8:=rfl
    by_cases hj:j<8
    ·have hst:=zs2 u hj
     have hw:=z8l (w:=u.l) (i:=j) (by simpa [V8.l]using hj)
     rw [ws_l]at hw
     generalize wat u.l j=x at*
     generalize z4g u j=cc at*
     generalize hcc:z4g u (j+1)=cc' at*
     have hx:x.toNat<4294967296:=x.isLt
     have hb4:(be 4 x.toNat).length=4:=z3u _ _
     have ht4:(zn (be 4 x.toNat)).take (32-4*j)=zn (be 4 x.toNat):=List.take_of_length_le (by rw [zo,hb4];omega)
     have hn4:(4*(j:Int)).toNat=4*j:=by omega
     repeat' (first|refine zs_ ?_|refine zb_ ?_|refine zc_ ?_|refine zt_ rfl ?_|refine zf_ rfl ?_|(refine zd_ rfl (fun ht=> ?_) (fun ht=> ?_)<;>try (exfalso;omega))|((first|refine zW.regS ?_|refine zk_ ?_|refine ze_ ?_|refine zq_ ?_|(apply callW.mk_pu;(first|exact(fun _=>z78 _ _ _ (by omega) (by omega))))|(apply callW.za;(first|exact(z78 _ _ _ (by omega) (by omega))))|(apply zG<;>intro ht));all_goals try simp (disch:=first|omega|(simp only [lens];first|done|omega)) only [go_sem,q2,q5,q19,q20,hlen,h8,hw,put4,hb4,ht4,hst,hn4,zho]))
     unfold z1c at hst
     rw [List.append_assoc]at hst
     exact⟨8-(j+1),by omega,j+1,by omega,by simp,by rw [hst,hcc]⟩
    ·obtain rfl:j=8:=by omega
     have e8:z4g u 8=z10 (outV u):=by
      unfold z4g
      rw [List.take_of_length_le (by rw [z56];decide)]
      exact List.append_nil _
     have hd:List.drop 32 (z10 (List.replicate 32 0))=[]:=rfl
     have hl:(z10 (outV u)).length=32:=by rw [zw,z56]
     rw [e8]at*
     repeat' (first|apply zs_|apply zb_|apply zc_|apply zt_ rfl|apply zf_ rfl|(apply zd_ rfl<;>intro ht<;>try omega)|((first|apply zr_|apply zk_|apply ze_|apply zq_|(apply zG<;>intro ht));all_goals try simp (disch:=first|omega|(simp only [lens];first|done|omega)) only [go_sem,q2,q5,q19,q20,hl,h8,hd]))
     exact DownV.pure hw (z61 (z3q _))
end
end Am
end Go.Proofs.YtcdcmgjnbjoajaaGreatDoor
section
/- strings.Builder: the contracts of copyCheck and String over the abstract store. -/
namespace Go.Proofs
open Go.Shelf Go.RowKit
def Tryz.lays240_ren:Go.Shelf.Ren:=⟨fun| 240=>125| 276=>151|n=>n,fun| 0=>0| 4=>4| 9=>9| 20=>20| 70=>136| 72=>138| 164=>195| 37=>105|n=>n,fun|n=>n⟩
theorem Tryz.lays240:Go.Proofs.Lays.n240 Tryz.prog Tryz.lays240_ren:={
 mixed:=by kernel_rfl
 f240:=Tryz.func125.trans (congrArg some (by kernel_rfl))
 f276:=Tryz.func151.trans (congrArg some (by kernel_rfl))
 t0:=Tryz.underlying0
 a0:=Tryz.isAgg0
 z0:=Tryz.sizeOf0
 v0:=Tryz.zeroValue0
 t4:=Tryz.underlying4
 a4:=Tryz.isAgg4
 z4:=Tryz.sizeOf4
 v4:=Tryz.zeroValue4
 t9:=Tryz.underlying9
 a9:=Tryz.isAgg9
 z9:=Tryz.sizeOf9
 v9:=Tryz.zeroValue9
 t20:=Tryz.underlying20
 a20:=Tryz.isAgg20
 z20:=Tryz.sizeOf20
 v20:=Tryz.zeroValue20
 t70:=Tryz.underlying136
 a70:=Tryz.isAgg136
 z70:=Tryz.sizeOf136
 v70:=Tryz.zeroValue136
 t72:=Tryz.underlying138
 a72:=Tryz.isAgg138
 z72:=Tryz.sizeOf138
 v72:=Tryz.zeroValue138
 t164:=Tryz.underlying195
 a164:=Tryz.isAgg195
 z164:=Tryz.sizeOf195
 v164:=Tryz.zeroValue195 }
theorem Tryz.x72_240:Builder.X72 Tryz.prog Tryz.lays240_ren:={
 sizeBuilder:=by kernel_rfl
 liesBuilder:=by kernel_rfl }
section
variable {P:Program} {J:Ren}
set_option maxRecDepth 100000 in
theorem Tryz.string_ex(L:Lays.n169 P J)(X:Builder.Extra P J)(b g cap:Nat)(cur:Array Value)(p:Value)(fb fg:Nat × Nat)(l:List UInt8)(w:World)(h0:l ≠ [])
  (hbk:w.heap[b]? =some (.cells #[p,.slice (some ⟨g,0,none⟩) l.length cap] (J.t 72) fb)) (hg:w.heap[g]? =some (.cells cur (J.t 5) fg)) (hnc:l.length<=cap) (hcs:l.length<=cur.size) (hln:l.length<=9223372036854775807)
  (hcl:∀j x,l[j]? =some x->w.cell? ((⟨g,0,none⟩:Addr).add j)=some (.int .u8 x.toNat)):
  Calls P (J.f 169) #[.pointer (some ⟨b,0,none⟩)] w fun e w'=>e=.returned (.string ⟨l.toArray⟩)/\ w'=w.drew.freeze ⟨g,0,none⟩ l.length:=by
 have hl0:l.length ≠ 0:=by simpa using h0
 have c1:w.drew.cell? ⟨b,1,none⟩=some (.slice (some ⟨g,0,none⟩) l.length cap):=by
  have:w.drew.heap[b]? =some (.cells #[p,.slice (some ⟨g,0,none⟩) l.length cap] (J.t 72) fb):=hbk
  rw [Lib.cell_of_heap this];rfl
 have hSD:(Builtin.unsafeSliceData_ #[(J.t 37)] (J.t 127) #[.slice (some ⟨g,0,none⟩) l.length cap]).run P w.drew=.ok (.pointer (some ⟨g,0,none⟩)) w.drew:=
  Lib.run_unsafeSliceData_row _ _ _ _ _ _ (by omega)
 have hUS:(Builtin.unsafeString_ #[(J.t 127),(J.t 3)] (J.t 9) #[.pointer (some ⟨g,0,none⟩),.int .i64 l.length]).run P w.drew=.ok (.string ⟨l.toArray⟩) (w.drew.freeze ⟨g,0,none⟩ l.length):=
  Lib.run_unsafeString_row w.drew (J.t 127) (J.t 3) (J.t 9) (J.t 5) L.t127 X.cellsByte g cur.size (by have hg':w.drew.heap[g]? =some (.cells cur (J.t 5) fg):=hg;simp [World.shape?,hg']) l h0 hcs hln hcl
 have mixed:=L.mixed
 have t72:=L.t72;have a72:=L.a72;have z72:=L.z72;have v72:=L.v72;have u72:=run_underlying L.t72
 have t70:=L.t70;have a70:=L.a70;have z70:=L.z70;have v70:=L.v70;have u70:=run_underlying L.t70
 have t37:=L.t37;have a37:=L.a37;have z37:=L.z37;have v37:=L.v37;have u37:=run_underlying L.t37
 have t127:=L.t127;have a127:=L.a127;have z127:=L.z127;have v127:=L.v127;have u127:=run_underlying L.t127
 have t3:=L.t3;have a3:=L.a3;have z3:=L.z3;have v3:=L.v3;have u3:=run_underlying L.t3
 have t9:=L.t9;have a9:=L.a9;have z9:=L.z9;have v9:=L.v9;have u9:=run_underlying L.t9
 have t5:=X.t5;have a5:=X.a5;have z5:=X.z5;have v5:=X.v5;have u5:=run_underlying X.t5
 clear hcl hcs hln hg hbk hnc
 go_enter L.f169,Body.n169_ntmps J
 go_wp2
 go_region_o
 all_goals (go_wp2;go_ret;exact⟨rfl,rfl⟩)
end
end Go.Proofs
namespace Go.Proofs.YtcdcmgjnbjoajaaGreatDoor
namespace Am
open Go.RowKit
section
variable {C:Ctx} {Z:Places} {O:Store} {w w':World}
theorem Rel.lose(h:Rel C Z O w){r:Nat}{pl:Place}(hr:Z[r]? =some (true,pl))(hsz:w'.heap.size=w.heap.size)(hother:∀b,b ≠ pl.b->w'.heap[b]? =w.heap[b]?)(ho:w'.os=w.os)(ht:w'.tape=w.tape)(hp:w'.output=w.output):
  Step Z w (Z.set r (false,pl)) w'/\ Rel C (Z.set r (false,pl)) (O.set r none) w':=by
 obtain⟨k1,k2⟩:=h.kill hr
 have hrl:r<Z.length:=(List.getElem?_eq_some_iff.1 hr).1
 have hs:Step Z w (Z.set r (false,pl)) w':=⟨k1.keep,by omega,fun b _ hn=>hother b fun e=>hn r pl hr e.symm,fun q x hx=>by
  rcases k1.new q x hx with h|h
  ·exact .inl h
  ·exact .inr h,ho,ht,hp⟩
 refine⟨hs,by simp [h.len],fun q o hq=> ?_,fun q hq=>k2.dead q hq,fun q q' x x' h1 h2 h3=>k2.inj q q' x x' h1 h2 h3,fun g cs hg=>(h.gl g cs hg).mono hs⟩
 by_cases e:r=q
 ·subst e
  rw [List.getElem?_set_self (by rw [<-h.len];exact hrl)]at hq;cases hq
 ·rw [List.getElem?_set_ne e]at hq
  obtain⟨x,h1,h2⟩:=h.alive q o hq
  exact⟨x,by rw [List.getElem?_set_ne e];exact h1,h2.mono hs (hother _ fun e'=>e (h.inj r q pl x hr h1 e'.symm))⟩
theorem Rel.bld_at(hR:Rel C Z O w){r:Nat}{x:AV}(hr:O[r]? =some (some [[.bld r,x]])):∃(pl:Place) (v0 v1:Value) (fz:Nat × Nat),Z[r]? =some (true,pl)/\ pl.base=0/\ pl.esz=2/\ w.heap[pl.b]? =some (.cells #[v0,v1] bldT fz) ∧
  (v0=.pointer none \/v0=.pointer (some ⟨pl.b,0,none⟩))/\ VR Z w x v1/\ (∀k,k<2->(decide (fz.1<=k) && decide (k<fz.2))=false):=by
 obtain⟨pl,hpl,hok⟩:=hR.alive r _ hr
 obtain⟨c,ty,fz,pre,mid,post,q1,q2,q3,q4,q5,q6⟩:=hok.ex
 simp only [List.flatten_cons,List.flatten_nil,List.append_nil,VRs]at q5
 obtain⟨v0,_,rfl,⟨k1,_⟩,v1,_,rfl,⟨k2,_⟩,rfl⟩:=q5
 simp only [VR]at k1
 obtain⟨fl,pl',hpl',⟨e1,e2,e3,e4,e5⟩,k3⟩:=k1
 rw [hpl]at hpl';cases hpl'
 have hty:ty=bldT:=by
  obtain⟨c0,fz0,h0⟩:=hok.tyk
  rw [q1]at h0;cases h0;exact e1
 have hpre:pre=[]:=List.eq_nil_of_length_eq_zero (by omega)
 subst hpre
 have hlen:c.toList.length=2:=by rw [Array.length_toList,q4,e5]
 have hpost:post=[]:=by
  rw [q2]at hlen
  simpa using hlen
 subst hpost
 have hc:c= #[v0,v1]:=by
  apply Array.ext'
  rw [q2];rfl
 subst hc hty
 exact⟨pl,v0,v1,fz,hpl,e2,e3,q1,k3,k2,fun k hk=>q6.1.lt k (by omega)⟩
end
theorem zz9{O:Store}{r:Nat}{x:Option AObj}(h:O[r]? =some x):O.set r x=O:=by
 apply List.ext_getElem?
 intro i
 by_cases e:r=i
 ·subst e
  rw [List.getElem?_set_self (List.getElem?_eq_some_iff.1 h).1,h]
 ·rw [List.getElem?_set_ne e]
theorem zdh(O:Store)(r:Nat)(x:AV)(hr:O[r]? =some (some [[.bld r,x]])):ACallsTo TC 125 [.ptr r 0 0] O (.tup []) O:=by
 obtain⟨e,hc⟩:=Option.isSome_iff_exists.1 (show (cFn TC 125).isSome=true by kernel_rfl)
 simp only [cFn,Option.bind_eq_some_iff]at hc
 obtain⟨fn,hf,hc⟩:=hc
 split at hc
 ·cases hc
 ·rename_i hname
  simp only [Option.bind_eq_some_iff,Option.map_eq_some_iff]at hc
  obtain⟨c,hb,_⟩:=hc
  intro Z w cargs hR ha
  left
  constructor
  ·have h1:fn.name ≠ "runtime.NumGoroutine" :=by simpa using hname
   simp [callFunc,hf,h1,hb]
  ·obtain⟨pl,v0,v1,fz,hpl,hb0,hez,hw,hv0,hv1,hfz⟩:=hR.bld_at hr
   simp only [VRt,VR]at ha
   obtain⟨_,_,rfl,⟨fl,pl',hpl',rfl⟩,rfl⟩:=ha
   rw [hpl]at hpl';cases hpl'
   have ea:pl.base+0*pl.esz+0=0:=by rw [hb0];omega
   rw [ea]
   have hcell:w.cell? ⟨pl.b,0,none⟩=some v0:=by rw [Lib.cell_of_heap hw];rfl
   rcases hv0 with rfl|rfl
   ·refine(Any.Builder_copyCheck_fresh Tryz.lays240 Tryz.x72_240 pl.b w hcell (by simp [World.shape?,hw];rfl) (by simp only [World.frozen?,hw];exact hfz 0 (by omega))).mono ?_
    rintro e w' ⟨rfl,rfl⟩
    obtain⟨w2,k1,k2,k3⟩:=hR.storeElem (i:=0) (off:=0) (vs:=[.bld r]) (vals:=[.pointer (some ⟨pl.b,0,none⟩)]) hr hpl rfl (by simp) (VRs.one ⟨by
     simp only [VR]
     obtain⟨pl2,hpl2,hok⟩:=hR.alive r _ hr
     rw [hpl]at hpl2;cases hpl2
     obtain⟨c,ty,fz2,pre,mid,post,q1,q2,q3,q4,q5,q6⟩:=hok.ex
     simp only [List.flatten_cons,List.flatten_nil,List.append_nil,VRs,VR]at q5
     obtain⟨u0,_,_,⟨⟨fl3,pl3,hpl3,k,_⟩,_⟩,_⟩:=q5
     rw [hpl]at hpl3;cases hpl3
     exact⟨true,pl,hpl,k,.inr rfl⟩,rfl⟩)
    rw [ea]at k1
    have e2:w2=w.setCell ⟨pl.b,0,none⟩ (.pointer (some ⟨pl.b,0,none⟩)):=by
     have hfr:w.frozen? ⟨pl.b,0,none⟩=false:=by simp only [World.frozen?,hw];exact hfz 0 (by omega)
     have hst:(store ⟨pl.b,0,none⟩ (.pointer (some ⟨pl.b,0,none⟩))).run TC.P w=.ok () (w.setCell ⟨pl.b,0,none⟩ (.pointer (some ⟨pl.b,0,none⟩))):=by
      rw [run_store TC.P w _ _ _ rfl,hcell];simp [hfr]
     have:=k1
     simp only [storeCells,z34,Nat.add_zero,Sem.run_bind,hst,Result.andThen_ok,Sem.run_pure,Result.ok.injEq,true_and]at this
     exact this.symm
    rw [<-e2]
    have e3:O.set r (some ([[.bld r,x]].set 0 (z1c [.bld r,x] 0 [.bld r])))=O:=by
     have:([[AV.bld r,x]]:List (List AV)).set 0 (z1c [.bld r,x] 0 [.bld r])=[[.bld r,x]]:=by simp [z1c]
     rw [this]
     exact zz9 hr
    rw [e3]at k3
    exact⟨_,Z,rfl,k2,k3,by simp only [VR];exact⟨[],rfl,VRt.nil⟩⟩
   ·refine(Any.Builder_copyCheck_used Tryz.lays240 Tryz.x72_240 pl.b w hcell).mono ?_
    rintro e w' ⟨rfl,rfl⟩
    exact⟨_,Z,rfl,Step.refl _ _,hR,by simp only [VR];exact⟨[],rfl,VRt.nil⟩⟩
theorem zd2(O:Store)(r rb:Nat)(s:List UInt8)(h0:s ≠ [])(hs:s.length<=1073741824)(h1:O[r]? =some (some [[.bld r,.bsl rb s.length]]))(h2:O[rb]? =some (some (zn s))):
  ACallsTo TC 86 [.ptr r 0 0] O (.str s) (O.set rb none):=by
 obtain⟨e,hc⟩:=Option.isSome_iff_exists.1 (show (cFn TC 86).isSome=true by kernel_rfl)
 simp only [cFn,Option.bind_eq_some_iff]at hc
 obtain⟨fn,hf,hc⟩:=hc
 split at hc
 ·cases hc
 ·rename_i hname
  simp only [Option.bind_eq_some_iff,Option.map_eq_some_iff]at hc
  obtain⟨c,hb,_⟩:=hc
  intro Z w cargs hR ha
  left
  constructor
  ·have h1:fn.name ≠ "runtime.NumGoroutine" :=by simpa using hname
   simp [callFunc,hf,h1,hb]
  ·obtain⟨pl,v0,v1,fz,hpl,hb0,hez,hw,hv0,hv1,hfz⟩:=hR.bld_at h1
   simp only [VRt,VR]at ha
   obtain⟨_,_,rfl,⟨fl,pl',hpl',rfl⟩,rfl⟩:=ha
   rw [hpl]at hpl';cases hpl'
   have ea:pl.base+0*pl.esz+0=0:=by rw [hb0];omega
   rw [ea]
   simp only [VR]at hv1
   obtain⟨fl2,pb,cap,hpb,⟨t1,t2,t3⟩,rfl,hso⟩:=hv1
   obtain⟨pb',hpb',hok⟩:=hR.alive rb _ h2
   rw [hpb]at hpb';cases hpb'
   obtain⟨cur,ty,fg,pre,mid,post,q1,q2,q3,q4,q5,q6⟩:=hok.ex
   have hty:ty=u8T:=by
    obtain⟨c0,fz0,h0⟩:=hok.tyk
    rw [q1]at h0;cases h0;exact t1
   subst hty
   have hpre:pre=[]:=List.eq_nil_of_length_eq_zero (by omega)
   subst hpre
   rw [zay]at q5
   have hml:=q5.length
   rw [List.length_map]at hml
   have hcs:s.length<=cur.size:=by
    rw [<-Array.length_toList,q2];simp;omega
   refine(Tryz.string_ex Tryz.lays169 Tryz.Builder_Extra_169 pl.b pb.b cap cur v0 fz fg s w h0 hw q1 hso.le hcs (by omega) (fun j x hj=> ?_)).mono ?_
   ·obtain⟨v,k1,k2⟩:=q5.get (i:=j) (a:=B8 x) (by rw [List.getElem?_map,hj];rfl)
    have hv:=k2.1
    simp only [B8,VR]at hv
    rw [z34,Nat.zero_add,Lib.cell_of_heap q1]
    show cur[j]? =_
    rw [<-Array.getElem?_toList,q2,List.nil_append,List.getElem?_append_left (by
     rcases Nat.lt_or_ge j mid.length with h|h
     ·exact h
     ·simp [List.getElem?_eq_none h]at k1),k1,hv]
   ·rintro e w' ⟨rfl,rfl⟩
    have hz:s.length ≠ 0:=by simpa using h0
    obtain⟨k1,k2⟩:=hR.lose (w':=w.drew.freeze ⟨pb.b,0,none⟩ s.length) hpb (by show (World.freeze w.drew _ _).heap.size=w.drew.heap.size;unfold World.freeze;rw [if_neg hz];exact Array.size_modify) (fun b hb=>by
     show (World.freeze w.drew _ _).heap[b]? =w.drew.heap[b]?
     unfold World.freeze
     rw [if_neg hz]
     simp only [Array.getElem?_modify]
     rw [if_neg (fun e=>hb e.symm)]) (by unfold World.freeze;rw [if_neg hz];rfl) (by unfold World.freeze;rw [if_neg hz];rfl) (by unfold World.freeze;rw [if_neg hz];rfl)
    exact⟨_,_,rfl,k1,k2,by simp only [VR]⟩
end Am
end Go.Proofs.YtcdcmgjnbjoajaaGreatDoor
end
namespace Go.Proofs.YtcdcmgjnbjoajaaGreatDoor
namespace Am
section
theorem znv{k:Nat}(l:List UInt8):RLss k (zn l):=by
 induction l with
 |nil=>simp [zn,RLss]
 |cons b l ih=>simp only [zn,B8]at ih;simp [zn,RLss,B8,RLs,RL,ih]
def OwnB(O O':Store)(v:AV)(b:List UInt8):Prop:=∃news j,O'=O++news/\ v=.sl (O.length+j) 0 b.length none 1/\ news[j]? =some (some (zn b))
theorem OwnB.down{O O':Store}{v:AV}{b:List UInt8}(hw:Wf O.length O)(h:OwnB O O' v b):DownV O.length v O' (.vsl 1 (zn b) false) O:=by
 obtain⟨news,j,rfl,rfl,h⟩:=h
 have hl:(zn b).length=b.length:=zo b
 have e:((zn b).drop 0).take b.length=zn b:=by rw [List.drop_zero,List.take_of_length_le (by omega)]
 have:=DownV.froze (off:=0) (len:=b.length) (esz:=1) (lim:=none) hw h (by omega) (by rw [e];exact znv b)
 rw [e]at this
 exact this
theorem OwnB.app{O O':Store}{r n:Nat}{b c:List UInt8}(h:OwnB O O' (.sl r 0 n none 1) b):OwnB O (O'.set r none++ [some (zn c)]) (.sl O'.length 0 c.length none 1) c:=by
 obtain⟨news,j,rfl,e,h⟩:=h
 simp only [AV.sl.injEq,true_and,and_true]at e
 obtain⟨rfl,rfl⟩:=e
 refine⟨news.set j none++ [some (zn c)],news.length,?_,by simp,?_⟩
 ·rw [List.set_append_right _ _ (by omega),Nat.add_sub_cancel_left,List.append_assoc]
 ·rw [List.getElem?_append_right (by simp)];simp
theorem OwnB.get{O O':Store}{v:AV}{b:List UInt8}(h:OwnB O O' v b):∃r,v=.sl r 0 b.length none 1/\ O'[r]? =some (some (zn b)):=by
 obtain⟨news,j,rfl,rfl,h⟩:=h
 exact⟨_,rfl,by rw [List.getElem?_append_right (by omega),Nat.add_sub_cancel_left];exact h⟩
theorem zhp(b:List UInt8)(x:Nat)(m:Int)(h:m=((x%256:Nat):Int)):zn b++ [[AV.int .u8 m]]=zn (b++ [UInt8.ofNat x]):=by
 subst h
 simp [zn,B8]
theorem zot(x:Nat){j:Nat}(h:j<8):(be 8 x).take j++ [UInt8.ofNat (x/2^(8*(7-j)))]=(be 8 x).take (j+1):=by
 have e:be 8 x=[UInt8.ofNat (x/256^7),UInt8.ofNat (x/256^6),UInt8.ofNat (x/256^5),UInt8.ofNat (x/256^4),UInt8.ofNat (x/256^3),UInt8.ofNat (x/256^2),UInt8.ofNat (x/256^1),UInt8.ofNat (x/256^0)]:=by
  simp only [z8y]
  rfl
 rw [e]
 have hj:j=0 \/j=1 \/j=2 \/j=3 \/j=4 \/j=5 \/j=6 \/j=7:=by omega
 rcases hj with rfl|rfl|rfl|rfl|rfl|rfl|rfl|rfl<;>rfl
theorem pad_to(O:Store)(s:List UInt8)(h:s.length<1000000000):ACallsTo TC 132 [.str s] O (.vsl 1 (zn (padS s)) false) O:=by
 obtain⟨z,hz⟩:∃z:Nat,z=(119-s.length%64)%64:=⟨_,rfl⟩
 have hz64:z<64:=by rw [hz];exact Nat.mod_lt _ (by decide)
 obtain⟨P,hP⟩:∃P,P=padS s:=⟨_,rfl⟩
 have hP2:P=(s++128::List.replicate z 0)++be 8 (s.length*8):=by rw [hP,padS,hz];simp
 rw [<-hP]
 refine ACallsTo.of_body q8ok (by simp) fun hw _=> ?_
 repeat' (first|apply zs_|apply zb_|apply zc_|apply zt_ rfl|apply zf_ rfl|(apply zd_ rfl<;>intro ht<;>try omega)|((first|apply zr_|apply zk_|apply ze_|apply zq_|(apply zG<;>intro ht));all_goals try simp (disch:=first|omega|(simp only [lens];first|done|omega)) only [go_sem]))
 refine zW.loop (fun m J O'=>∃k:Nat,m+k=z/\ J 0=.str s/\ OwnB O O' (J 3) (s++128::List.replicate k 0)) z ?_ ?_
 ·refine⟨0,by omega,by simp (disch:=first|omega|(simp only [lens];first|done|omega)) only [go_sem],?_⟩
  simp (disch:=first|omega|(simp only [lens];first|done|omega)) only [go_sem]
  refine⟨[none,some (zn (s++ [128]))],1,?_,?_,rfl⟩
  ·simp [zn,B8]
  ·simp
 ·rintro m J O' ⟨k,hm,q0,hO⟩
  obtain⟨r,q3,hg⟩:=hO.get
  have hb:(s++128::List.replicate k 0).length=s.length+1+k:=by simp;omega
  have hbe:=zo (s++128::List.replicate k 0)
  by_cases hk:k<z
  ·rw [q3]at hO
   rw [hb]at q3 hbe hO
   have e0:zn (s++128::List.replicate k 0)++ [[AV.int .u8 0]]=zn (s++128::List.replicate (k+1) 0):=by
    rw [zhp _ 0 0 (by simp),List.append_assoc,List.cons_append,List.replicate_succ']
    rfl
   have hO2:=hO.app (c:=s++128::List.replicate (k+1) 0)
   have hc:(s++128::List.replicate (k+1) 0).length=s.length+1+k+1:=by simp;omega
   rw [hc]at hO2
   generalize zn (s++128::List.replicate k 0)=bb at*
   repeat' (first|apply zs_|apply zb_|apply zc_|apply zt_ rfl|apply zf_ rfl|(apply zd_ rfl<;>intro ht<;>try omega)|((first|apply zr_|apply zk_|apply ze_|apply zq_|(apply zG<;>intro ht));all_goals try simp (disch:=first|omega|(simp only [lens];first|done|omega)) only [go_sem,q0,q3,hg,hbe,e0]))
   exact⟨z-(k+1),by omega,k+1,by omega,hO2⟩
  ·obtain rfl:k=z:=by omega
   obtain⟨N,hN⟩:∃N,N=s.length*8:=⟨_,rfl⟩
   have hN2:(s.length:Int)*8=N:=by omega
   have hb8:(be 8 N).length=8:=z3u _ _
   rw [<-hN]at hP2
   rw [hb]at q3 hbe
   have h56:((s.length:Int)+1+k)%64=56:=by omega
   generalize hB:s++128::List.replicate k 0=B at*
   repeat' (first|apply zs_|apply zb_|apply zc_|apply zt_ rfl|apply zf_ rfl|(apply zd_ rfl<;>intro ht<;>try omega)|((first|apply zr_|apply zk_|apply ze_|apply zq_|(apply zG<;>intro ht));all_goals try simp (disch:=first|omega|(simp only [lens];first|done|omega)) only [go_sem,q0,q3,h56,hN2,Int.natCast_add,Int.natCast_one]))
   refine zW.loop (fun m J O'=>∃j:Nat,m+j=8/\ J 4=.int .u64 N/\ J 5=.int .i64 (7-j)/\ OwnB O O' (J 3) (B++(be 8 N).take j)) 8 ?_ ?_
   ·refine⟨0,by omega,by simp (disch:=first|omega|(simp only [lens];first|done|omega)) only [go_sem],by simp (disch:=first|omega|(simp only [lens];first|done|omega)) only [go_sem];rfl,?_⟩
    simp (disch:=first|omega|(simp only [lens];first|done|omega)) only [go_sem,q3]
    rw [q3]at hO
    exact hO
   ·clear q0 q3 hO hg
    rintro m J O' ⟨j,hm,q4,q5,hO⟩
    obtain⟨r,q3,hg⟩:=hO.get
    have hl:(B++(be 8 N).take j).length=s.length+1+k+j:=by rw [List.length_append,hb,List.length_take,hb8];omega
    have hbe:=zo (B++(be 8 N).take j)
    by_cases hj:j<8
    ·rw [q3]at hO
     rw [hl]at q3 hbe hO
     have hO2:=hO.app (c:=B++(be 8 N).take (j+1))
     have hc:(B++(be 8 N).take (j+1)).length=s.length+1+k+j+1:=by rw [List.length_append,hb,List.length_take,hb8];omega
     rw [hc]at hO2
     have hs:(8*(7-(j:Int))).toNat=8*(7-j):=by omega
     have e0:zn (B++(be 8 N).take j)++ [[AV.int .u8 ((N:Int)/2^(8*(7-j))%256)]]=zn (B++(be 8 N).take (j+1)):=by
      rw [zhp _ (N/2^(8*(7-j))) _ (by rw [Int.natCast_emod,Int.natCast_ediv,Int.natCast_pow];rfl),List.append_assoc,zot N hj]
     generalize zn (B++(be 8 N).take j)=bb at*
     repeat' (first|apply zs_|apply zb_|apply zc_|apply zt_ rfl|apply zf_ rfl|(apply zd_ rfl<;>intro ht<;>try omega)|((first|apply zr_|apply zk_|apply ze_|apply zq_|(apply zG<;>intro ht));all_goals try simp (disch:=first|omega|(simp only [lens];first|done|omega)) only [go_sem,q3,q4,q5,hg,hbe,hs,e0]))
     exact⟨8-(j+1),by omega,j+1,by omega,by rw [show (7:Int)-((j+1:Nat):Int)=7-j-1 by omega],hO2⟩
    ·obtain rfl:j=8:=by omega
     have e8:B++(be 8 N).take 8=P:=by rw [List.take_of_length_le (by omega)];exact hP2.symm
     rw [e8]at hO q3
     repeat' (first|apply zs_|apply zb_|apply zc_|apply zt_ rfl|apply zf_ rfl|(apply zd_ rfl<;>intro ht<;>try omega)|((first|apply zr_|apply zk_|apply ze_|apply zq_|(apply zG<;>intro ht));all_goals try simp (disch:=first|omega|(simp only [lens];first|done|omega)) only [go_sem,q3,q5]))
     rw [q3]at hO
     exact hO.down hw
end
section
def z32:List AV:=z10 (List.replicate 32 0)
def mkS(τ:Store)(u:V8)(cells:List AV):Store:=τ++ [some [z32],some [gl_sha_rounds],some [u.c8],some [cells]]
def Rk(J:Env)(a:Nat)(p:List UInt8)(n:Nat):Prop:=
 J 2=.ptr a 0 0/\ J 3=.ptr (a+1) 0 0/\ J 4=.ptr (a+2) 0 0/\ J 5=.vsl 1 (zn p) false/\ J 6=.ptr (a+3) 0 0/\ J 7=.int .i64 n
theorem zid{w:List W}{x:W}{n:Nat}{rest:List AV}(h:w.length=n)(hr:0<rest.length):(ws w++rest).take n++AV.int .u32 x.toNat::(ws w++rest).drop (n+1)=ws (w++ [x])++rest.drop 1:=by
 have hl:(ws w).length=n:=by rw [z4d,h]
 rw [List.take_append_of_le_length (by omega),List.take_of_length_le (by omega),List.drop_append,List.drop_of_length_le (by omega),hl]
 rw [show n+1-n=1 by omega,List.nil_append]
 simp [ws,wc]
theorem z153{p:List UInt8}{n i:Nat}(h:n+4*i+4<=p.length)(hi:i<16):
  ((p.getD (n+4*i) 0).toNat:Int)*16777216+(p.getD (n+4*i+1) 0).toNat*65536+(p.getD (n+4*i+2) 0).toNat*256+(p.getD (n+4*i+3) 0).toNat=((z7q ((p.drop n).take 64) i).toNat:Int):=by
 have e:((((p.drop n).take 64).drop (4*i)).take 4)=[p.getD (n+4*i) 0,p.getD (n+4*i+1) 0,p.getD (n+4*i+2) 0,p.getD (n+4*i+3) 0]:=by
  rw [List.drop_take,List.take_take,List.drop_drop,show min 4 (64-4*i)=4 by omega]
  obtain⟨A,hA⟩:∃A,A=p.drop (n+4*i):=⟨_,rfl⟩
  have g:∀k,p.getD (n+4*i+k) 0=A.getD k 0:=by
   intro k
   rw [hA,List.getD_eq_getElem?_getD,List.getD_eq_getElem?_getD,List.getElem?_drop]
  have g0:=g 0
  rw [Nat.add_zero]at g0
  rw [g0,g 1,g 2,g 3,<-hA]
  have hl:4<=A.length:=by rw [hA,List.length_drop];omega
  match A,hl with
  |a::b::c::d::A,_=>rfl
 unfold z7q
 rw [e]
 generalize p.getD (n+4*i) 0=a
 generalize p.getD (n+4*i+1) 0=b
 generalize p.getD (n+4*i+2) 0=c
 generalize p.getD (n+4*i+3) 0=d
 have h1:=a.toNat_lt
 have h2:=b.toNat_lt
 have h3:=c.toNat_lt
 have h4:=d.toNat_lt
 simp only [getS,val,List.take_of_length_le (show [a,b,c,d].length<=8 by simp),List.foldl_cons,List.foldl_nil,BitVec.toNat_ofNat]
 omega
section
variable {k:Nat} {Q:AExit->Env->Store->Prop} {J:Env} {τ:Store} {u:V8} {p:List UInt8} {n:Nat}
theorem zyo{cells:List AV}(K:Rk J τ.length p n)(hp:n+64<=p.length)(hpl:p.length<2000000000)(hc:cells.length=64)
  (hQ:∀J' rest,rest.length=48->Rk J' τ.length p n->Q .normal J' (mkS τ u (ws (z14 ((p.drop n).take 64) 16)++rest))):zW TC 252 k q6c21 Q J (mkS τ u cells):=by
 obtain⟨k2,k3,k4,k5,k6,k7⟩:=K
 obtain⟨q,hq⟩:∃q,q=(p.drop n).take 64:=⟨_,rfl⟩
 rw [<-hq]at hQ
 repeat' (first|apply zs_|apply zb_|apply zc_|apply zt_ rfl|apply zf_ rfl|(apply zd_ rfl<;>intro ht<;>try omega)|((first|apply zr_|apply zk_|apply ze_|apply zq_|(apply zG<;>intro ht));all_goals try simp (disch:=first|omega|(simp only [lens];first|done|omega)) only [go_sem]))
 refine zW.loop (fun m J O'=>∃(i:Nat) (rest:List AV),m+i=16/\ rest.length=64-i/\ Rk J τ.length p n/\ J 8=.int .i64 i/\ O'=mkS τ u (ws (z14 q i)++rest)) 16 ?_ ?_
 ·exact⟨0,cells,by omega,hc,⟨by simp (disch:=first|omega|(simp only [lens];first|done|omega)) only [go_sem,k2],by simp (disch:=first|omega|(simp only [lens];first|done|omega)) only [go_sem,k3],by simp (disch:=first|omega|(simp only [lens];first|done|omega)) only [go_sem,k4],by simp (disch:=first|omega|(simp only [lens];first|done|omega)) only [go_sem,k5],by simp (disch:=first|omega|(simp only [lens];first|done|omega)) only [go_sem,k6],by simp (disch:=first|omega|(simp only [lens];first|done|omega)) only [go_sem,k7]⟩,by simp (disch:=first|omega|(simp only [lens];first|done|omega)) only [go_sem];rfl,rfl⟩
 ·rintro m J O' ⟨i,rest,hm,hr,⟨q2,q3,q4,q5,q6,q7⟩,q8,rfl⟩
  by_cases hi:i<16
  ·have hwd:=z153 (p:=p) (n:=n) (i:=i) (by omega) hi
   rw [<-hq]at hwd
   have hset:=zid (x:=z7q q i) (rest:=rest) (z4m q i) (by omega)
   have hlen:(ws (z14 q i)++rest).length=64:=by rw [List.length_append,z4d,z4m,hr];omega
   have hsc:z14 q (i+1)=z14 q i++ [z7q q i]:=by rw [z14,z3r,z4m,if_pos hi]
   have n0:((n:Int)+4*i).toNat=n+4*i:=by omega
   have n1:((n:Int)+4*i+1).toNat=n+4*i+1:=by omega
   have n2:((n:Int)+4*i+2).toNat=n+4*i+2:=by omega
   have n3:((n:Int)+4*i+3).toNat=n+4*i+3:=by omega
   have b0:=(p.getD (n+4*i) 0).toNat_lt
   have b1:=(p.getD (n+4*i+1) 0).toNat_lt
   have b2:=(p.getD (n+4*i+2) 0).toNat_lt
   have b3:=(p.getD (n+4*i+3) 0).toNat_lt
   have g0:=zj7 (s:=p) (i:=n+4*i) (by omega)
   have e0:=z8z (s:=p) (i:=n+4*i) (by omega)
   have e1:=z8z (s:=p) (i:=n+4*i+1) (by omega)
   have e2:=z8z (s:=p) (i:=n+4*i+2) (by omega)
   have e3:=z8z (s:=p) (i:=n+4*i+3) (by omega)
   have hpb:=zo p
   unfold mkS
   generalize p.getD (n+4*i) 0=x0 at*
   generalize p.getD (n+4*i+1) 0=x1 at*
   generalize p.getD (n+4*i+2) 0=x2 at*
   generalize p.getD (n+4*i+3) 0=x3 at*
   generalize hpb2:zn p=pb at*
   generalize hcc:ws (z14 q i)++rest=cc at*
   repeat' (first|refine zs_ ?_|refine zb_ ?_|refine zc_ ?_|refine zt_ rfl ?_|refine zf_ rfl ?_|(refine zd_ rfl (fun ht=> ?_) (fun ht=> ?_)<;>try (exfalso;omega))|((first|refine zW.regS ?_|refine zk_ ?_|refine ze_ ?_|refine zq_ ?_|(apply zG<;>intro ht));all_goals try simp (disch:=first|omega|(simp only [lens];first|done|omega)) only [go_sem,q2,q3,q4,q5,q6,q7,q8,hlen,n0,n1,n2,n3,e0,e1,e2,e3]))
   refine⟨16-(i+1),by omega,i+1,rest.drop 1,by omega,by rw [List.length_drop];omega,⟨by simp (disch:=first|omega|(simp only [lens];first|done|omega)) only [go_sem,q2],by simp (disch:=first|omega|(simp only [lens];first|done|omega)) only [go_sem,q3],by simp (disch:=first|omega|(simp only [lens];first|done|omega)) only [go_sem,q4],(by simp (disch:=first|omega|(simp only [lens];first|done|omega)) only [go_sem,q5];rw [hpb2]),by simp (disch:=first|omega|(simp only [lens];first|done|omega)) only [go_sem,q6],by simp (disch:=first|omega|(simp only [lens];first|done|omega)) only [go_sem,q7]⟩,by simp,?_⟩
   rw [hwd,hset,hsc]
  ·obtain rfl:i=16:=by omega
   repeat' (first|apply zs_|apply zb_|apply zc_|apply zt_ rfl|apply zf_ rfl|(apply zd_ rfl<;>intro ht<;>try omega)|((first|apply zr_|apply zk_|apply ze_|apply zq_|(apply zG<;>intro ht));all_goals try simp (disch:=first|omega|(simp only [lens];first|done|omega)) only [go_sem,q8]))
   exact hQ _ rest (by omega) ⟨by simp (disch:=first|omega|(simp only [lens];first|done|omega)) only [go_sem,q2],by simp (disch:=first|omega|(simp only [lens];first|done|omega)) only [go_sem,q3],by simp (disch:=first|omega|(simp only [lens];first|done|omega)) only [go_sem,q4],by simp (disch:=first|omega|(simp only [lens];first|done|omega)) only [go_sem,q5],by simp (disch:=first|omega|(simp only [lens];first|done|omega)) only [go_sem,q6],by simp (disch:=first|omega|(simp only [lens];first|done|omega)) only [go_sem,q7]⟩
theorem zyn{q:List UInt8}{rest:List AV}(K:Rk J τ.length p n)(hr:rest.length=48)
  (hQ:∀J',Rk J' τ.length p n->Q .normal J' (mkS τ u (ws (z14 q 64)))):zW TC 252 k q6c34 Q J (mkS τ u (ws (z14 q 16)++rest)):=by
 obtain⟨R,hR⟩:∃R,R=z14 q 64:=⟨_,rfl⟩
 rw [<-hR]at hQ
 obtain⟨k2,k3,k4,k5,k6,k7⟩:=K
 repeat' (first|apply zs_|apply zb_|apply zc_|apply zt_ rfl|apply zf_ rfl|(apply zd_ rfl<;>intro ht<;>try omega)|((first|apply zr_|apply zk_|apply ze_|apply zq_|(apply zG<;>intro ht));all_goals try simp (disch:=first|omega|(simp only [lens];first|done|omega)) only [go_sem]))
 refine zW.loop (fun m J O'=>∃(i:Nat) (rest:List AV),m+i=64/\ 16<=i/\ rest.length=64-i/\ Rk J τ.length p n/\ J 10=.int .i64 i/\ O'=mkS τ u (ws (z14 q i)++rest)) 48 ?_ ?_
 ·exact⟨16,rest,by omega,by omega,hr,⟨by simp (disch:=first|omega|(simp only [lens];first|done|omega)) only [go_sem,k2],by simp (disch:=first|omega|(simp only [lens];first|done|omega)) only [go_sem,k3],by simp (disch:=first|omega|(simp only [lens];first|done|omega)) only [go_sem,k4],by simp (disch:=first|omega|(simp only [lens];first|done|omega)) only [go_sem,k5],by simp (disch:=first|omega|(simp only [lens];first|done|omega)) only [go_sem,k6],by simp (disch:=first|omega|(simp only [lens];first|done|omega)) only [go_sem,k7]⟩,by simp (disch:=first|omega|(simp only [lens];first|done|omega)) only [go_sem];rfl,rfl⟩
 ·clear hr
  rintro m J O' ⟨i,rest,hm,h16,hr,⟨q2,q3,q4,q5,q6,q7⟩,q10,rfl⟩
  have hsl:=z4m q i
  by_cases hi:i<64
  ·have hset:=zid (x:=z3r q (z14 q i)) (rest:=rest) hsl (by omega)
   have hlen:(ws (z14 q i)++rest).length=64:=by rw [List.length_append,z4d,z4m,hr];omega
   have hsc:z14 q (i+1)=z14 q i++ [z3r q (z14 q i)]:=by rw [z14]
   have en:z3r q (z14 q i)=wat (z14 q i) (i-16)+wat (z14 q i) (i-7)+ss0 (wat (z14 q i) (i-15))+ss1 (wat (z14 q i) (i-2)):=by rw [z3r,if_neg (by omega),hsl]
   have hwi:∀j,j<i->(ws (z14 q i)++rest)[j]? =some (.int .u32 (wat (z14 q i) j).toNat):=by
    intro j hj
    rw [List.getElem?_append_left (by rw [z4d];omega),z8l (by omega)]
   have g16:=hwi (i-16) (by omega)
   have g7:=hwi (i-7) (by omega)
   have g15:=hwi (i-15) (by omega)
   have g2:=hwi (i-2) (by omega)
   have t16:((i:Int)-16).toNat=i-16:=by omega
   have t7:((i:Int)-7).toNat=i-7:=by omega
   have t15:((i:Int)-15).toNat=i-15:=by omega
   have t2:((i:Int)-2).toNat=i-2:=by omega
   have r7:32-(7:Int).toNat=25:=rfl
   clear hwi
   generalize z3r q (z14 q i)=nx at*
   generalize wat (z14 q i) (i-16)=w16 at*
   generalize wat (z14 q i) (i-7)=w7 at*
   generalize wat (z14 q i) (i-15)=w15 at*
   generalize wat (z14 q i) (i-2)=w2 at*
   unfold mkS
   generalize hpb2:zn p=pb at*
   generalize hcc:ws (z14 q i)++rest=cc at*
   repeat' (first|refine zs_ ?_|refine zb_ ?_|refine zc_ ?_|refine zt_ rfl ?_|refine zf_ rfl ?_|(refine zd_ rfl (fun ht=> ?_) (fun ht=> ?_)<;>try (exfalso;omega))|((first|refine zW.regS ?_|refine zk_ ?_|refine ze_ ?_|refine zq_ ?_|(apply callW.mk_pu;(first|exact(fun _=>zcj _ _ _ (by omega))))|(apply callW.za;(first|exact(zcj _ _ _ (by omega))))|(apply zG<;>intro ht));all_goals try simp (disch:=first|omega|(simp only [lens];first|done|omega)) only [go_sem,q2,q3,q4,q5,q6,q7,q10,hlen,g16,g7,g15,g2,t16,t7,t15,t2]))
   refine⟨64-(i+1),by omega,i+1,rest.drop 1,by omega,by omega,by rw [List.length_drop];omega,⟨by simp (disch:=first|omega|(simp only [lens];first|done|omega)) only [go_sem,q2],by simp (disch:=first|omega|(simp only [lens];first|done|omega)) only [go_sem,q3],by simp (disch:=first|omega|(simp only [lens];first|done|omega)) only [go_sem,q4],(by simp (disch:=first|omega|(simp only [lens];first|done|omega)) only [go_sem,q5];rw [hpb2]),by simp (disch:=first|omega|(simp only [lens];first|done|omega)) only [go_sem,q6],by simp (disch:=first|omega|(simp only [lens];first|done|omega)) only [go_sem,q7]⟩,by simp,?_⟩
   rw [hsc,<-hset,en]
   have ec:∀s t:W,w16+s+w7+t=w16+w7+s+t:=fun s t=>by rw [BitVec.add_assoc w16 s w7,BitVec.add_comm s w7,<-BitVec.add_assoc w16 w7 s]
   rw [ec]
   rfl
  ·obtain rfl:i=64:=by omega
   have hr0:rest=[]:=List.eq_nil_of_length_eq_zero (by omega)
   rw [hr0,<-hR,List.append_nil]
   clear hsl hR
   repeat' (first|apply zs_|apply zb_|apply zc_|apply zt_ rfl|apply zf_ rfl|(apply zd_ rfl<;>intro ht<;>try omega)|((first|apply zr_|apply zk_|apply ze_|apply zq_|(apply zG<;>intro ht));all_goals try simp (disch:=first|omega|(simp only [lens];first|done|omega)) only [go_sem,q10]))
   exact hQ _ ⟨by simp (disch:=first|omega|(simp only [lens];first|done|omega)) only [go_sem,q2],by simp (disch:=first|omega|(simp only [lens];first|done|omega)) only [go_sem,q3],by simp (disch:=first|omega|(simp only [lens];first|done|omega)) only [go_sem,q4],by simp (disch:=first|omega|(simp only [lens];first|done|omega)) only [go_sem,q5],by simp (disch:=first|omega|(simp only [lens];first|done|omega)) only [go_sem,q6],by simp (disch:=first|omega|(simp only [lens];first|done|omega)) only [go_sem,q7]⟩
end
end
section
theorem k_get{i:Nat}(h:i<64):gl_sha_rounds[i]? =some (.int .u32 (kAt i).toNat):=by
 have:=zjq h
 rwa [List.getElem?_drop,Nat.add_zero]at this
section
variable {k:Nat} {Q:AExit->Env->Store->Prop} {J:Env} {τ:Store} {u:V8} {p:List UInt8} {n:Nat}
theorem zym{q:List UInt8}(K:Rk J τ.length p n)
  (hQ:∀J',Rk J' τ.length p n->Q .normal J' (mkS τ (mixS u q) (ws (z14 q 64)))):zW TC 252 k q6c53 Q J (mkS τ u (ws (z14 q 64))):=by
 obtain⟨R,hR⟩:∃R,R=z14 q 64:=⟨_,rfl⟩
 have hRl:R.length=64:=by rw [hR,z4m]
 have hwR:(ws R).length=64:=by rw [z4d,hRl]
 have hst:∀n,rnds q u (n+1)=rnd (rnds q u n) (kAt n) (wat R n):=fun n=>by rw [rnds,hR]
 obtain⟨U,hU⟩:∃U,U=rnds q u 64:=⟨_,rfl⟩
 have hmix:mixS u q=U.add u:=by rw [mixS,hU]
 rw [hmix]at hQ
 rw [<-hR]at hQ ⊢
 obtain⟨k2,k3,k4,k5,k6,k7⟩:=K
 unfold mkS
 refine zs_ ?_
 (refine zW.regS ?_;(simp (disch:=first|omega|(simp only [lens];first|done|omega)) only [go_sem,k4,V8.c8]))
 (refine zW.slots [2,3,4,5,6,7,13,14,15,16,17,18,19,20] ?_;intro J1 hs;simp (disch:=first|omega|(simp only [lens];first|done|omega)) only [go_sem,k2,k3,k4,k5,k6,k7]at hs;obtain⟨s2,s3,s4,s5,s6,s7,s13,s14,s15,s16,s17,s18,s19,s20⟩:=hs)
 refine zs_ ?_
 refine zs_ ?_
 (refine zW.regS ?_;(simp (disch:=first|omega|(simp only [lens];first|done|omega)) only [go_sem]))
 refine zb_ ?_
 refine zW.loop (fun m J O'=>∃i:Nat,m+i=64/\ Rk J τ.length p n/\ J 21=.int .i64 i/\ J 13=.int .u32 (rnds q u i).a.toNat/\ J 14=.int .u32 (rnds q u i).b.toNat/\ J 15=.int .u32 (rnds q u i).c.toNat/\ J 16=.int .u32 (rnds q u i).d.toNat ∧
  J 17=.int .u32 (rnds q u i).e.toNat/\ J 18=.int .u32 (rnds q u i).f.toNat/\ J 19=.int .u32 (rnds q u i).g.toNat/\ J 20=.int .u32 (rnds q u i).h.toNat/\ O'=mkS τ u (ws R)) 64 ?_ ?_
 ·exact⟨0,by omega,⟨by simp (disch:=first|omega|(simp only [lens];first|done|omega)) only [go_sem,s2],by simp (disch:=first|omega|(simp only [lens];first|done|omega)) only [go_sem,s3],by simp (disch:=first|omega|(simp only [lens];first|done|omega)) only [go_sem,s4],by simp (disch:=first|omega|(simp only [lens];first|done|omega)) only [go_sem,s5],by simp (disch:=first|omega|(simp only [lens];first|done|omega)) only [go_sem,s6],by simp (disch:=first|omega|(simp only [lens];first|done|omega)) only [go_sem,s7]⟩,by simp (disch:=first|omega|(simp only [lens];first|done|omega)) only [go_sem];rfl,by simp (disch:=first|omega|(simp only [lens];first|done|omega)) only [go_sem,s13];rfl,by simp (disch:=first|omega|(simp only [lens];first|done|omega)) only [go_sem,s14];rfl,by simp (disch:=first|omega|(simp only [lens];first|done|omega)) only [go_sem,s15];rfl,by simp (disch:=first|omega|(simp only [lens];first|done|omega)) only [go_sem,s16];rfl,by simp (disch:=first|omega|(simp only [lens];first|done|omega)) only [go_sem,s17];rfl,by simp (disch:=first|omega|(simp only [lens];first|done|omega)) only [go_sem,s18];rfl,by simp (disch:=first|omega|(simp only [lens];first|done|omega)) only [go_sem,s19];rfl,by simp (disch:=first|omega|(simp only [lens];first|done|omega)) only [go_sem,s20];rfl,rfl⟩
 ·clear s2 s3 s4 s5 s6 s7 s13 s14 s15 s16 s17 s18 s19 s20
  rintro m J O' ⟨i,hm,⟨q2,q3,q4,q5,q6,q7⟩,q21,q13,q14,q15,q16,q17,q18,q19,q20,rfl⟩
  by_cases hi:i<64
  ·have hk:=k_get hi
   have hw:=z8l (w:=R) (i:=i) (by omega)
   have hst:=hst i
   generalize rnds q u i=v at*
   obtain⟨a,b,c,d,e,f,g,h⟩:=v
   simp only at q13 q14 q15 q16 q17 q18 q19 q20
   generalize kAt i=kk at*
   generalize wat R i=ww at*
   generalize hpb:zn p=pb at*
   unfold mkS
   refine zs_ ?_
   refine zs_ ?_
   (refine zW.regS ?_;(simp (disch:=first|omega|(simp only [lens];first|done|omega)) only [go_sem,q21]))
   refine zt_ rfl ?_
   refine zk_ ?_
   simp (disch:=first|omega|(simp only [lens];first|done|omega)) only [go_sem]
   refine zs_ ?_
   refine zb_ ?_
   refine zs_ ?_
   (refine zW.regS ?_;(simp (disch:=first|omega|(simp only [lens];first|done|omega)) only [go_sem,q3,q6,q17,q18,q19,q20,q21,hwR,hk,hw,z98]);repeat' (apply callW.za;(first|exact(zcj _ _ _ (by omega)));all_goals try (simp (disch:=first|omega|(simp only [lens];first|done|omega)) only [go_sem,q3,q6,q17,q18,q19,q20,q21,hwR,hk,hw,z98])))
   (refine zW.slots [2,3,4,5,6,7,13,14,15,16,17,18,19,20,21,22] ?_;intro J2 hs;simp (disch:=first|omega|(simp only [lens];first|done|omega)) only [go_sem,q2,q3,q4,q5,q6,q7,q13,q14,q15,q16,q17,q18,q19,q20,q21]at hs;obtain⟨s2,s3,s4,s5,s6,s7,s13,s14,s15,s16,s17,s18,s19,s20,s21,s22⟩:=hs)
   refine zs_ ?_
   (refine zW.regS ?_;(simp (disch:=first|omega|(simp only [lens];first|done|omega)) only [go_sem,s13,s14,s15]);repeat' (apply callW.za;(first|exact(zcj _ _ _ (by omega)));all_goals try (simp (disch:=first|omega|(simp only [lens];first|done|omega)) only [go_sem,s13,s14,s15])))
   (refine zW.slots [2,3,4,5,6,7,13,14,15,16,17,18,19,20,21,22,23] ?_;intro J3 hs;simp (disch:=first|omega|(simp only [lens];first|done|omega)) only [go_sem,s2,s3,s4,s5,s6,s7,s13,s14,s15,s16,s17,s18,s19,s20,s21,s22]at hs;obtain⟨s2,s3,s4,s5,s6,s7,s13,s14,s15,s16,s17,s18,s19,s20,s21,s22,s23⟩:=hs)
   (refine zW.regS ?_;(simp (disch:=first|omega|(simp only [lens];first|done|omega)) only [go_sem,s13,s14,s15,s16,s17,s18,s19,s22,s23]))
   (refine zW.slots [2,3,4,5,6,7,13,14,15,16,17,18,19,20,21] ?_;intro J4 hs;simp (disch:=first|omega|(simp only [lens];first|done|omega)) only [go_sem,s2,s3,s4,s5,s6,s7,s21]at hs;obtain⟨s2,s3,s4,s5,s6,s7,s13,s14,s15,s16,s17,s18,s19,s20,s21⟩:=hs)
   (refine zW.regS ?_;(simp (disch:=first|omega|(simp only [lens];first|done|omega)) only [go_sem,s21]))
   refine⟨64-(i+1),by omega,i+1,by omega,⟨s2,s3,s4,by rw [hpb];exact s5,s6,s7⟩,by simp,?_⟩
   rw [hst]
   simp only [rnd,bs1,chW,bs0,majW]
   exact⟨s13,s14,s15,s16,s17,s18,s19,s20⟩
  ·obtain rfl:i=64:=by omega
   rw [<-hU]at q13 q14 q15 q16 q17 q18 q19 q20
   clear hst hU hmix
   obtain⟨a,b,c,d,e,f,g,h⟩:=U
   obtain⟨a',b',c',d',e',f',g',h'⟩:=u
   simp only at q13 q14 q15 q16 q17 q18 q19 q20
   unfold mkS
   unfold mkS at hQ
   simp only [V8.add,V8.c8]at hQ
   simp only [V8.c8]
   generalize hpb:zn p=pb at*
   refine zs_ ?_
   refine zs_ ?_
   (refine zW.regS ?_;(simp (disch:=first|omega|(simp only [lens];first|done|omega)) only [go_sem,q21]))
   refine zf_ rfl ?_
   refine ze_ ?_
   simp (disch:=first|omega|(simp only [lens];first|done|omega)) only [go_sem]
   (refine zW.regS ?_;(simp (disch:=first|omega|(simp only [lens];first|done|omega)) only [go_sem,q4,q13,q14,q15,q16,q17,q18,q19,q20]))
   rw [BitVec.add_comm a' a,BitVec.add_comm b' b,BitVec.add_comm c' c,BitVec.add_comm d' d,BitVec.add_comm e' e,BitVec.add_comm f' f,BitVec.add_comm g' g,BitVec.add_comm h' h]
   exact hQ _ ⟨by simp (disch:=first|omega|(simp only [lens];first|done|omega)) only [go_sem,q2],by simp (disch:=first|omega|(simp only [lens];first|done|omega)) only [go_sem,q3],by simp (disch:=first|omega|(simp only [lens];first|done|omega)) only [go_sem,q4],(by simp (disch:=first|omega|(simp only [lens];first|done|omega)) only [go_sem,q5];rw [hpb]),by simp (disch:=first|omega|(simp only [lens];first|done|omega)) only [go_sem,q6],by simp (disch:=first|omega|(simp only [lens];first|done|omega)) only [go_sem,q7]⟩
end
end
section
theorem sum_r1{C:Ctx}{K:Env->Store->Prop}{H:Hist}{J:Env}{O:Store}:zu C K q6r1 H J O=zu C K (q6r1.drop 1) H (upd J 26 (.agg gl_sha_rounds)) O:=by kernel_rfl
theorem zrd{l:List W}{i:Nat}(h:i<4*l.length):(l.flatMap fun x=>be 4 x.toNat)[i]? =(be 4 (wat l (i/4)).toNat)[i%4]?:=by
 induction l generalizing i with
 |nil=>simp at h
 |cons x l ih=>
  have hb:(be 4 x.toNat).length=4:=z3u _ _
  rw [List.flatMap_cons]
  by_cases hi:i<4
  ·rw [List.getElem?_append_left (by omega),Nat.div_eq_of_lt hi,Nat.mod_eq_of_lt hi];rfl
  ·simp only [List.length_cons]at h
   rw [List.getElem?_append_right (by omega),hb,ih (by omega),show i/4=(i-4)/4+1 by omega,show (i-4)%4=i%4 by omega]
   rfl
theorem zos(x:Nat){j:Nat}(h:j<4):(be 4 x)[j]? =some (UInt8.ofNat (x/2^(24-8*j))):=by
 have e:be 4 x=[UInt8.ofNat (x/256^3),UInt8.ofNat (x/256^2),UInt8.ofNat (x/256^1),UInt8.ofNat (x/256^0)]:=by
  simp only [z8y]
  rfl
 rw [e]
 have hj:j=0 \/j=1 \/j=2 \/j=3:=by omega
 rcases hj with rfl|rfl|rfl|rfl<;>rfl
theorem zv2(v:V8){i:Nat}(h:i<32):(outV v)[i]? =some (UInt8.ofNat ((wat v.l (i/4)).toNat/2^(24-8*(i%4)))):=by
 unfold outV
 rw [zrd (by simp [V8.l];omega),zos _ (Nat.mod_lt _ (by decide))]
def z4j(v:V8)(i:Nat):List AV:=z10 ((outV v).take i)++List.replicate (32-i) (.int .u8 0)
theorem zu8(v:V8){i:Nat}(h:i<=32):(z4j v i).length=32:=by simp [z4j,zw,z56];omega
theorem zu9(v:V8){i:Nat}(h:i<32){b:Int}(hb:b=(((wat v.l (i/4)).toNat/2^(24-8*(i%4))%256:Nat):Int)):
  (z4j v i).take i++AV.int .u8 b::(z4j v i).drop (i+1)=z4j v (i+1):=by
 have h1:(z10 ((outV v).take i)).length=i:=by rw [zw,List.length_take,z56];omega
 have hg:=zv2 v h
 have hs:(outV v).take (i+1)=(outV v).take i++ [UInt8.ofNat ((wat v.l (i/4)).toNat/2^(24-8*(i%4)))]:=by
  rw [List.take_add_one,hg];rfl
 unfold z4j
 rw [List.take_append_of_le_length (by omega),List.take_of_length_le (by omega),List.drop_append,List.drop_of_length_le (by omega),h1,show i+1-i=1 by omega,List.nil_append,hs]
 rw [List.drop_replicate,show 32-i-1=32-(i+1)by omega]
 simp [z10,hb]
theorem zyl(O:Store)(s:List UInt8)(h:s.length<900000000):ACallsTo TC 94 [.str s] O (.agg (z10 (shaS s))) O:=by
 obtain⟨p,hp⟩:∃p,p=padS s:=⟨_,rfl⟩
 obtain⟨hp1,hp2⟩:=zkr s
 rw [<-hp]at hp1 hp2
 obtain⟨N,hN⟩:∃N,p.length=64*N:=⟨p.length/64,by omega⟩
 obtain⟨V,hV⟩:∃V,V=blocks N v0 p:=⟨_,rfl⟩
 have hS:shaS s=outV V:=by
  unfold shaS
  rw [<-hp,hV]
  have:p.length/64=N:=by omega
  rw [this]
 rw [hS]
 have hf:=fun O=>pad_to O s (by omega)
 rw [<-hp]at hf
 refine ACallsTo.of_body q6ok (by simp) fun hw _=> ?_
 refine zs_ ?_
 refine zr_ ?_
 simp (disch:=first|omega|(simp only [lens];first|done|omega)) only [go_sem]
 refine zs_ ?_
 refine zr_ ?_
 rw [sum_r1]
 simp (disch:=first|omega|(simp only [lens];first|done|omega)) only [go_sem,z98]
 refine zs_ ?_
 refine zr_ ?_
 simp (disch:=first|omega|(simp only [lens];first|done|omega)) only [go_sem]
 refine zs_ ?_
 repeat' (first|apply zs_|apply zb_|apply zc_|apply zt_ rfl|apply zf_ rfl|(apply zd_ rfl<;>intro ht<;>try omega)|((first|apply zr_|apply zk_|apply ze_|apply zq_|(apply callW.mk_pu;(first|exact(fun _=>hf _)))|(apply callW.za;(first|exact(hf _)))|(apply zG<;>intro ht));all_goals try simp (disch:=first|omega|(simp only [lens];first|done|omega)) only [go_sem]))
 refine zW.loop (fun m J O'=>∃(u:V8) (n:Nat) (cells:List AV),n+64*m=p.length/\ Rk J O.length p n/\ cells.length=64/\ blocks m u (p.drop n)=V/\ O'=mkS O u cells) N ?_ ?_
 ·exact⟨v0,0,List.replicate 64 (.int .u32 0),by omega,⟨by simp (disch:=first|omega|(simp only [lens];first|done|omega)) only [go_sem],by simp (disch:=first|omega|(simp only [lens];first|done|omega)) only [go_sem],by simp (disch:=first|omega|(simp only [lens];first|done|omega)) only [go_sem],by simp (disch:=first|omega|(simp only [lens];first|done|omega)) only [go_sem],by simp (disch:=first|omega|(simp only [lens];first|done|omega)) only [go_sem],by simp (disch:=first|omega|(simp only [lens];first|done|omega)) only [go_sem];rfl⟩,rfl,by rw [List.drop_zero];exact hV.symm,rfl⟩
 ·rintro m J O' ⟨u,n,cells,hn,⟨q2,q3,q4,q5,q6,q7⟩,hc,hb,rfl⟩
  have hpb:=zo p
  cases m with
  |succ m=>
   refine zs_ ?_
   refine zs_ ?_
   (refine zW.regS ?_;(simp (disch:=first|omega|(simp only [lens];first|done|omega)) only [go_sem,q5,q7,hpb]))
   refine zt_ rfl ?_
   refine zk_ ?_
   simp (disch:=first|omega|(simp only [lens];first|done|omega)) only [go_sem]
   refine zs_ ?_
   refine zb_ ?_
   refine zs_ ?_
   refine zyo (p:=p) (n:=n) (u:=u) (cells:=cells) ⟨by simp (disch:=first|omega|(simp only [lens];first|done|omega)) only [go_sem,q2],by simp (disch:=first|omega|(simp only [lens];first|done|omega)) only [go_sem,q3],by simp (disch:=first|omega|(simp only [lens];first|done|omega)) only [go_sem,q4],by simp (disch:=first|omega|(simp only [lens];first|done|omega)) only [go_sem,q5],by simp (disch:=first|omega|(simp only [lens];first|done|omega)) only [go_sem,q6],by simp (disch:=first|omega|(simp only [lens];first|done|omega)) only [go_sem,q7]⟩ (by omega) (by omega) hc ?_
   intro J1 rest hr K1
   refine zs_ ?_
   refine zyn K1 hr ?_
   intro J2 K2
   refine zym K2 ?_
   intro J3 ⟨t2,t3,t4,t5,t6,t7⟩
   simp only [z2w,blkQ]
   (refine zW.regS ?_;(simp (disch:=first|omega|(simp only [lens];first|done|omega)) only [go_sem,t7]))
   refine⟨m,by omega,mixS u ((p.drop n).take 64),n+64,ws (z14 ((p.drop n).take 64) 64),by omega,⟨by simp (disch:=first|omega|(simp only [lens];first|done|omega)) only [go_sem,t2],by simp (disch:=first|omega|(simp only [lens];first|done|omega)) only [go_sem,t3],by simp (disch:=first|omega|(simp only [lens];first|done|omega)) only [go_sem,t4],by simp (disch:=first|omega|(simp only [lens];first|done|omega)) only [go_sem,t5],by simp (disch:=first|omega|(simp only [lens];first|done|omega)) only [go_sem,t6],by simp (disch:=first|omega|(simp only [lens];first|done|omega)) only [go_sem];rw [Int.natCast_add];rfl⟩,by rw [z4d,z4m],?_,rfl⟩
   rw [<-hb,blocks,List.drop_drop]
  |zero=>
   have hd:p.drop n=[]:=List.drop_of_length_le (by omega)
   rw [hd]at hb
   have hu:u=V:=hb
   subst hu
   clear hb hd hV
   unfold mkS
   repeat' (first|apply zs_|apply zb_|apply zc_|apply zt_ rfl|apply zf_ rfl|(apply zd_ rfl<;>intro ht<;>try omega)|((first|apply zr_|apply zk_|apply ze_|apply zq_|(apply zG<;>intro ht));all_goals try simp (disch:=first|omega|(simp only [lens];first|done|omega)) only [go_sem,q5,q7,hpb]))
   refine zW.loop (fun m J O'=>∃i:Nat,m+i=32/\ J 2=.ptr O.length 0 0/\ J 4=.ptr (O.length+2) 0 0/\ J 24=.ptr (O.length+4) 0 0/\ J 25=.int .i64 i/\ O'=O++ [some [z32],some [gl_sha_rounds],some [u.c8],some [cells],some [z4j u i]]) 32 ?_ ?_
   ·exact⟨0,by omega,by simp (disch:=first|omega|(simp only [lens];first|done|omega)) only [go_sem,q2],by simp (disch:=first|omega|(simp only [lens];first|done|omega)) only [go_sem,q4],by simp (disch:=first|omega|(simp only [lens];first|done|omega)) only [go_sem],by simp (disch:=first|omega|(simp only [lens];first|done|omega)) only [go_sem];rfl,rfl⟩
   ·clear q2 q3 q4 q5 q6 q7
    rintro m J O' ⟨i,hm,q2,q4,q24,q25,rfl⟩
    have hlen:=zu8 u (i:=i) (by omega)
    have h8:u.c8.length=8:=rfl
    have hz:z32.length=32:=rfl
    by_cases hi:i<32
    ·have hst:=zu9 u hi (b:=((((wat u.l (i/4)).toNat/2^(24-8*(i%4))%256:Nat)):Int)) rfl
     have hw:=z8l (w:=u.l) (i:=i/4) (by simp [V8.l];omega)
     rw [ws_l]at hw
     generalize wat u.l (i/4)=x at*
     generalize z4j u i=cc at*
     have hd4:((i:Int)/4).toNat=i/4:=by omega
     have hsh:(24-8*((i:Int)%4)).toNat=24-8*(i%4):=by omega
     repeat' (first|refine zs_ ?_|refine zb_ ?_|refine zc_ ?_|refine zt_ rfl ?_|refine zf_ rfl ?_|(refine zd_ rfl (fun ht=> ?_) (fun ht=> ?_)<;>try (exfalso;omega))|((first|refine zW.regS ?_|refine zk_ ?_|refine ze_ ?_|refine zq_ ?_|(apply zG<;>intro ht));all_goals try simp (disch:=first|omega|(simp only [lens];first|done|omega)) only [go_sem,q2,q4,q24,q25,hlen,h8,hw,hd4,hsh]))
     refine⟨32-(i+1),by omega,i+1,by omega,by simp,?_⟩
     rw [BitVec.toNat_ushiftRight,Nat.shiftRight_eq_div_pow,<-hst,Int.natCast_emod]
     rfl
    ·obtain rfl:i=32:=by omega
     have e32:z4j u 32=z10 (outV u):=by
      unfold z4j
      rw [List.take_of_length_le (by rw [z56];decide)]
      exact List.append_nil _
     have hd:List.drop 32 z32=[]:=rfl
     have hl:(z10 (outV u)).length=32:=by rw [zw,z56]
     rw [e32]at*
     repeat' (first|apply zs_|apply zb_|apply zc_|apply zt_ rfl|apply zf_ rfl|(apply zd_ rfl<;>intro ht<;>try omega)|((first|apply zr_|apply zk_|apply ze_|apply zq_|(apply zG<;>intro ht));all_goals try simp (disch:=first|omega|(simp only [lens];first|done|omega)) only [go_sem,q2,q4,q24,q25,hl,h8,hd,hz]))
     exact DownV.pure hw (z61 (z3q _))
end
section
set_option maxRecDepth 10000
def qdr0:yW:=[
 yI 1 (.box (.t 0)),
 yI 2 (.alloc zZ0)]
def qdr1:yW:=[
 yL 4 false 1 1,
 yI 5 (.lenSl (.t 4)),
 yJ 6 .eql 5 .i64 0]
def qdr2:yW:=[
 yI 7 (.call (.v (.fn 85 [])) [(.v (.str []))]),
 yS 32 2 7]
def qdc3:yX:=yq qdr2 .ret
def qdc4:yX:=.cond (.t 6) qdc3 .skip
def qdc5:yX:=yq qdr1 qdc4
def qdr6:yW:=[
 yI 3 (.alloc [.nilfn])]
def qdr7:yW:=[
 yI 8 (.mkfn 89 [(.t 1),(.t 3)]),
 yS 1 3 8]
def qdr8:yW:=[
 yL 9 false 1 3,
 yL 10 false 1 1,
 yI 11 (.lenSl (.t 10)),
 yI 12 (.call (.t 9) [(.v (.int .i64 0)),(.t 11)]),
 yS 32 2 12]
def qdc9:yX:=yq qdr8 .ret
def qdc10:yX:=yq qdr7 qdc9
def qdc11:yX:=yq qdr6 qdc10
def qdc12:yX:=.seq qdc5 qdc11
def qdc13:yX:=yq qdr0 qdc12
attribute [go_sem] qdr0 qdr1 qdr2 qdr6 qdr7 qdr8
theorem qdok:cFn TC 42=some (13,[.c 2 true 32],qdc13):=by kernel_rfl
def qer0:yW:=[
 yI 2 (.box (.t 0)),
 yI 3 (.box (.t 1)),
 yI 4 (.alloc zZ0)]
def qer1:yW:=[
 ⟨some 5,none,.rd,.load true 32 (.t 2)⟩,
 ⟨some 6,none,.ef,.call (.v (.fn 84 [])) [(.t 5)]⟩,
 yI 7 (.bin .add .none (.v (.str [1])) (.t 6)),
 ⟨some 8,none,.rd,.load true 32 (.t 3)⟩,
 yC 9 84 8,
 yB 10 .add 7 9,
 yC 11 85 10,
 yS 32 4 11]
def qec2:yX:=yq qer1 .ret
def qec3:yX:=yq qer0 qec2
attribute [go_sem] qer0 qer1
theorem qeok:cFn TC 91=some (12,[.c 4 true 32],qec3):=by kernel_rfl
def qfr0:yW:=[
 yK 2 .i64 0]
def qfr1:yW:=[
 yM 4 0,
 yJ 5 .lss 4 .i64 2]
def qfr2:yW:=[
 yK 2 .i64 0]
def qfc3:yX:=yq qfr2 .ret
def qfc4:yX:=.cond (.t 5) qfc3 .skip
def qfc5:yX:=yq qfr1 qfc4
def qfr6:yW:=[
 yK 3 .i64 1]
def qfr7:yW:=[
 yM 6 3,
 yM 7 0,
 yM 8 3,
 yB 9 .sub 7 8,
 yB 10 .lss 6 9]
def qfc8:yX:=.cond (.t 10) .skip (.exit 0)
def qfc9:yX:=yq qfr7 qfc8
def qfr10:yW:=[
 yM 11 3,
 yJ 12 .mul 11 .i64 2,
 yM 3 12]
def qfc11:yX:=.block 1 (.reg qfr10)
def qfc12:yX:=.seq qfc9 qfc11
def qfc13:yX:=.loop qfc12
def qfr14:yW:=[
 yM 13 3,
 yM 2 13]
def qfc15:yX:=yq qfr14 .ret
def qfc16:yX:=.seq (.block 0 qfc13) qfc15
def qfc17:yX:=yq qfr6 qfc16
def qfc18:yX:=.seq qfc5 qfc17
def qfc19:yX:=yq qfr0 qfc18
attribute [go_sem] qfr0 qfr1 qfr2 qfr6 qfr7 qfr10 qfr14
theorem qfok:cFn TC 90=some (14,[.t 2],qfc19):=by kernel_rfl
def qgr0:yW:=[
 yI 6 (.alloc zZ0)]
def qgr1:yW:=[
 yM 8 1,
 yM 9 0,
 yB 10 .sub 8 9,
 yC 11 90 10,
 yM 7 11]
def qgr2:yW:=[
 yM 12 7,
 yJ 13 .eql 12 .i64 0]
def qgr3:yW:=[
 yL 14 false 1 2,
 yM 15 0,
 yI 16 (.iaSl 32 (.t 14) (.t 15)),
 yL 17 true 32 16,
 yS 32 6 17]
def qgc4:yX:=yq qgr3 .ret
def qgc5:yX:=.cond (.t 13) qgc4 .skip
def qgc6:yX:=yq qgr2 qgc5
def qgr7:yW:=[
 ⟨some 18,none,.rd,.load false 1 (.t 3)⟩,
 yM 19 0,
 yM 20 0,
 yM 21 7,
 yB 22 .add 20 21,
 ⟨some 23,none,.ef,.call (.t 18) [(.t 19),(.t 22)]⟩,
 ⟨some 24,none,.rd,.load false 1 (.t 3)⟩,
 yM 25 0,
 yM 26 7,
 yB 27 .add 25 26,
 yM 28 1,
 yI 29 (.call (.t 24) [(.t 27),(.t 28)]),
 yD 30 91 23 29,
 yS 32 6 30]
def qgc8:yX:=yq qgr7 .ret
def qgc9:yX:=.seq qgc6 qgc8
def qgc10:yX:=yq qgr1 qgc9
def qgc11:yX:=yq qgr0 qgc10
attribute [go_sem] qgr0 qgr1 qgr2 qgr3 qgr7
theorem qgok:cFn TC 89=some (31,[.c 6 true 32],qgc11):=by kernel_rfl
def qhr0:yW:=[
 yI 1 (.box (.t 0)),
 yI 2 (.mv (.v (.str [])))]
def qhr1:yW:=[
 yI 3 (.mv (.v .nilsl))]
def qhr2:yW:=[
 yK 4 .i64 0]
def qhr3:yW:=[
 yM 5 4,
 yJ 6 .lss 5 .i64 32]
def qhc4:yX:=.cond (.t 6) .skip (.exit 0)
def qhc5:yX:=yq qhr3 qhc4
def qhr6:yW:=[
 yM 9 3,
 yM 10 4,
 yI 11 (.iaArr 32 1 (.t 1) (.t 10)),
 yL 12 false 1 11,
 yI 13 (.lit 1 [(.t 12)]),
 yI 14 (.appB (.t 9) (.t 13)),
 yM 3 14]
def qhr7:yW:=[
 yM 7 4,
 yJ 8 .add 7 .i64 1,
 yM 4 8]
def qhc8:yX:=.seq (.block 1 (.reg qhr6)) (.reg qhr7)
def qhc9:yX:=.seq qhc5 qhc8
def qhc10:yX:=.loop qhc9
def qhc11:yX:=.block 0 qhc10
def qhc12:yX:=yq qhr2 qhc11
def qhr13:yW:=[
 yM 15 3,
 yI 16 (.conv .str (.t 15)),
 yM 2 16]
def qhc14:yX:=yq qhr13 .ret
def qhc15:yX:=.seq qhc12 qhc14
def qhc16:yX:=yq qhr1 qhc15
def qhc17:yX:=yq qhr0 qhc16
attribute [go_sem] qhr0 qhr1 qhr2 qhr3 qhr6 qhr7 qhr13
theorem qhok:cFn TC 96=some (17,[.t 2],qhc17):=by kernel_rfl
def qir0:yW:=[
 yI 1 (.box (.t 0)),
 yI 2 (.mv (.v (.str [])))]
def qir1:yW:=[
 yI 3 (.slice (.arr 32 1) (.t 1) none none none),
 yI 4 (.conv .str (.t 3)),
 yM 2 4]
def qic2:yX:=yq qir1 .ret
def qic3:yX:=yq qir0 qic2
attribute [go_sem] qir0 qir1
theorem qiok:cFn TC 84=some (5,[.t 2],qic3):=by kernel_rfl
end
section
theorem zfp(s:List UInt8):(shaS s).length=32:=z56 _
def z42(a b:List UInt8):List UInt8:=shaS (1::(a++b))
theorem zeh(a b:List UInt8):(z42 a b).length=32:=zfp _
theorem zde:∀(l:List UInt8),chunk 1 l.length (z10 l)=zn l
 | []=>rfl
 |b::l=>by
  have:=zde l
  simp only [z10,zn]at this
  simp [z10,zn,chunk,B8]at this ⊢
  exact this
theorem z80(O:Store)(h:List UInt8)(hl:h.length=32):ACallsTo TC 84 [.agg (z10 h)] O (.str h) O:=by
 refine ACallsTo.of_body qiok (by simp) fun hw _=> ?_
 have h1:=zw h
 have hc:=zde h
 rw [hl]at h1 hc
 repeat' (first|apply zs_|apply zb_|apply zc_|apply zt_ rfl|apply zf_ rfl|(apply zd_ rfl<;>intro ht<;>try omega)|((first|apply zr_|apply zk_|apply ze_|apply zq_|(apply zG<;>intro ht));all_goals try simp (disch:=first|omega|(simp only [lens];first|done|omega)) only [go_sem,h1,hc]))
 exact DownV.pure hw (z1d _ rfl)
def OwnN(sz:Nat)(τ O':Store)(v:AV)(es:List (List AV)):Prop:=
 ∃news,O'=τ++news/\ ((es=[]/\ v=.nilsl) \/ ∃j,es ≠ []/\ v=.sl (τ.length+j) 0 es.length none sz/\ news[j]? =some (some es))
theorem OwnN.len{sz:Nat}{τ O':Store}{v:AV}{es:List (List AV)}(h:OwnN sz τ O' v es):z1k v=some (.int .i64 es.length):=by
 obtain⟨news,rfl,⟨rfl,rfl⟩| ⟨j,_,rfl,h⟩⟩:=h<;>rfl
theorem OwnN.appB{sz:Nat}{τ O':Store}{v:AV}{es ys:List (List AV)}(h:OwnN sz τ O' v es):z4e O' v ys=aApp O' 1 v ys:=by
 obtain⟨news,rfl,⟨rfl,rfl⟩| ⟨j,_,rfl,h⟩⟩:=h<;>rfl
theorem OwnN.nil{sz:Nat}{τ news:Store}:OwnN sz τ (τ++news) .nilsl []:=⟨news,rfl,.inl ⟨rfl,rfl⟩⟩
theorem OwnN.ext{sz:Nat}{τ O':Store}{v:AV}{es:List (List AV)}(h:OwnN sz τ O' v es):∃news,O'=τ++news:=by
 obtain⟨news,h,_⟩:=h;exact⟨news,h⟩
theorem OwnN.more{sz:Nat}{τ O':Store}{v:AV}{es:List (List AV)}(h:OwnN sz τ O' v es)(y:Store):OwnN sz τ (O'++y) v es:=by
 obtain⟨news,rfl,h| ⟨j,h0,rfl,h⟩⟩:=h
 ·exact⟨news++y,by rw [List.append_assoc],.inl h⟩
 ·exact⟨news++y,by rw [List.append_assoc],.inr ⟨j,h0,rfl,by rw [List.getElem?_append_left (List.getElem?_eq_some_iff.1 h).1];exact h⟩⟩
theorem OwnN.app{sz:Nat}{τ O':Store}{v:AV}{es ys:List (List AV)}(h:OwnN sz τ O' v es)(h0:ys.length ≠ 0)(hl:es.length+ys.length<=1073741824):
  ∃v' O'',aApp O' sz v ys=some (v',O'')/\ OwnN sz τ O'' v' (es++ys):=by
 have hne:es++ys ≠ []:=fun e=>h0 (by rw [(List.append_eq_nil_iff.1 e).2];rfl)
 obtain⟨news,rfl,⟨rfl,rfl⟩| ⟨j,_,rfl,h⟩⟩:=h
 ·refine⟨_,_,by rw [zd0,if_neg h0,if_pos (by simpa using hl)],news++ [some ys],by rw [List.append_assoc],.inr ⟨news.length,hne,by simp,by rw [List.getElem?_append_right (Nat.le_refl _)];simp⟩⟩
 ·have hj:=(List.getElem?_eq_some_iff.1 h).1
  have hg:(τ++news)[τ.length+j]? =some (some es):=by rw [List.getElem?_append_right (by omega),Nat.add_sub_cancel_left];exact h
  refine⟨.sl (τ++news).length 0 (es.length+ys.length) none sz,(τ++news).set (τ.length+j) none++ [some (es++ys)],?_,news.set j none++ [some (es++ys)],?_,.inr ⟨news.length,hne,by simp,by rw [List.getElem?_append_right (by simp)];simp⟩⟩
  ·rw [zd1,if_neg h0,hg]
   simp only
   rw [if_pos ⟨trivial,by omega,by omega⟩,if_neg (by omega),List.drop_zero,List.take_of_length_le (Nat.le_refl _)]
  ·rw [List.set_append_right _ _ (by omega),Nat.add_sub_cancel_left,List.append_assoc]
theorem OwnN.sl{sz:Nat}{τ O':Store}{v:AV}{es:List (List AV)}(h:OwnN sz τ O' v es)(h0:es ≠ []):∃r,v=.sl r 0 es.length none sz/\ O'[r]? =some (some es)/\ τ.length<=r:=by
 obtain⟨news,rfl,⟨rfl,rfl⟩| ⟨j,_,rfl,h⟩⟩:=h
 ·exact absurd rfl h0
 ·exact⟨_,rfl,by rw [List.getElem?_append_right (by omega),Nat.add_sub_cancel_left];exact h,by omega⟩
def SlV(sz:Nat)(es:List (List AV))(x:AV):Prop:=(x=.nilsl/\ es=[]) \/ ∃ex,x=.vsl sz es ex
theorem SlV.len{sz:Nat}{es:List (List AV)}{x:AV}(h:SlV sz es x):z1k x=some (.int .i64 es.length):=by
 rcases h with⟨rfl,rfl⟩| ⟨ex,rfl⟩<;>rfl
theorem SlV.vsl{sz:Nat}{es:List (List AV)}{x:AV}(h:SlV sz es x)(h0:0<es.length):∃ex,x=.vsl sz es ex:=by
 rcases h with⟨rfl,rfl⟩|h
 ·simp at h0
 ·exact h
def zz(sz:Nat)(es:List (List AV)):AV:=if es=[]then .nilsl else .vsl sz es false
theorem z1y(sz:Nat)(es:List (List AV)):SlV sz es (zz sz es):=by
 unfold zz
 split
 ·rename_i h;exact .inl ⟨rfl,h⟩
 ·exact .inr ⟨false,rfl⟩
def ownV(O:Store)(sz:Nat)(es:List (List AV)):AV:=if es=[]then .nilsl else .sl O.length 0 es.length none sz
def ownS(O:Store)(es:List (List AV)):Store:=if es=[]then O else O++ [some es]
theorem z9l(O:Store)(sz:Nat)(es:List (List AV)):OwnN sz O (ownS O es) (ownV O sz es) es:=by
 unfold ownV ownS
 by_cases h:es=[]
 ·rw [if_pos h,if_pos h];exact⟨[],by simp,.inl ⟨h,rfl⟩⟩
 ·rw [if_neg h,if_neg h];exact⟨[some es],rfl,.inr ⟨0,h,rfl,rfl⟩⟩
theorem OwnN.froze{sz:Nat}{O O':Store}{v:AV}{es:List (List AV)}(hw:Wf O.length O)(h:OwnN sz O O' v es)(hr:RLss O.length es):DownV O.length v O' (zz sz es) O:=by
 unfold zz
 obtain⟨news,rfl,⟨rfl,rfl⟩| ⟨j,h0,rfl,h⟩⟩:=h
 ·rw [if_pos rfl];exact DownV.pure hw (z1d _ rfl)
 ·have e:(es.drop 0).take es.length=es:=by rw [List.drop_zero,List.take_of_length_le (Nat.le_refl _)]
  have:=DownV.froze (off:=0) (len:=es.length) (esz:=sz) (lim:=none) hw h (by omega) (by rw [e];exact hr)
  rw [e]at this
  rw [if_neg h0];exact this
theorem OwnN.own{sz:Nat}{O O':Store}{v:AV}{es:List (List AV)}(hw:Wf O.length O)(h:OwnN sz O O' v es)(hr:RLss O.length es):DownV O.length v O' (ownV O sz es) (ownS O es):=by
 unfold ownV ownS
 obtain⟨news,rfl,⟨rfl,rfl⟩| ⟨j,h0,rfl,h⟩⟩:=h
 ·rw [if_pos rfl,if_pos rfl];exact DownV.pure hw (z1d _ rfl)
 ·rw [if_neg h0,if_neg h0];exact DownV.own (off:=0) (len:=es.length) (esz:=sz) (lim:=none) hw h hr
theorem zoy{l:List UInt8}{i:Nat}(h:i<l.length):(z10 l)[i]? =some (.int .u8 (l.getD i 0).toNat):=by
 simp [z10,List.getD_eq_getElem?_getD,List.getElem?_eq_getElem h]
theorem zyj(O:Store)(h:List UInt8)(hl:h.length=32):ACallsTo TC 96 [.agg (z10 h)] O (.str h) O:=by
 refine ACallsTo.of_body qhok (by simp) fun hw _=> ?_
 have h1:=zw h
 rw [hl]at h1
 repeat' (first|apply zs_|apply zb_|apply zc_|apply zt_ rfl|apply zf_ rfl|(apply zd_ rfl<;>intro ht<;>try omega)|((first|apply zr_|apply zk_|apply ze_|apply zq_|(apply zG<;>intro ht));all_goals try simp (disch:=first|omega|(simp only [lens];first|done|omega)) only [go_sem,h1]))
 refine zW.loop (fun m J O'=>∃i:Nat,m+i=32/\ J 1=.ptr O.length 0 0/\ J 4=.int .i64 i/\ OwnN 1 (O++ [some [z10 h]]) O' (J 3) (zn (h.take i))) 32 ?_ ?_
 ·refine⟨0,by omega,by simp (disch:=first|omega|(simp only [lens];first|done|omega)) only [go_sem],by simp (disch:=first|omega|(simp only [lens];first|done|omega)) only [go_sem];rfl,?_⟩
  simp (disch:=first|omega|(simp only [lens];first|done|omega)) only [go_sem]
  have:=OwnN.nil (sz:=1) (τ:=O++ [some [z10 h]]) (news:=[])
  rwa [List.append_nil]at this
 ·rintro m J O' ⟨i,hm,q1,q4,hO⟩
  by_cases hi:i<32
  ·have hg:=zoy (l:=h) (i:=i) (by omega)
   have hs:h.take (i+1)=h.take i++ [h.getD i 0]:=by
    rw [List.take_add_one,List.getD_eq_getElem?_getD,List.getElem?_eq_getElem (by omega)];rfl
   obtain⟨v',O2,he,hO2⟩:=hO.app (ys:=zn [h.getD i 0]) (by simp [zn]) (by simp [zo];omega)
   have ho:O'[O.length]? =some (some [z10 h]):=by
    obtain⟨news,rfl,_⟩:=hO
    rw [List.append_assoc,List.getElem?_append_right (Nat.le_refl _),Nat.sub_self];rfl
   have hb:zn [h.getD i 0]=[[.int .u8 (h.getD i 0).toNat]]:=rfl
   rw [hb]at he
   rw [<-hO.appB]at he
   generalize h.getD i 0=x at*
   generalize hv:J 3=v at*
   repeat' (first|apply zs_|apply zb_|apply zc_|apply zt_ rfl|apply zf_ rfl|(apply zd_ rfl<;>intro ht<;>try omega)|((first|apply zr_|apply zk_|apply ze_|apply zq_|(apply zG<;>intro ht));all_goals try simp (disch:=first|omega|(simp only [lens];first|done|omega)) only [go_sem,q1,q4,hv,ho,h1,hg,he]))
   refine⟨32-(i+1),by omega,i+1,by omega,by simp,?_⟩
   rw [hs,<-zhn]
   exact hO2
  ·obtain rfl:i=32:=by omega
   rw [List.take_of_length_le (by omega)]at hO
   obtain⟨r,q3,hg,_⟩:=hO.sl (by intro e;have:=zo h;rw [e]at this;simp at this;omega)
   rw [zo]at q3
   repeat' (first|apply zs_|apply zb_|apply zc_|apply zt_ rfl|apply zf_ rfl|(apply zd_ rfl<;>intro ht<;>try omega)|((first|apply zr_|apply zk_|apply ze_|apply zq_|(apply zG<;>intro ht));all_goals try simp (disch:=first|omega|(simp only [lens];first|done|omega)) only [go_sem,q1,q4,q3,hg]))
   obtain⟨news,rfl,_⟩:=hO
   rw [List.append_assoc]
   exact DownV.pure hw (z1d _ rfl)
theorem zgi(O:Store)(a b:List UInt8)(ha:a.length=32)(hb:b.length=32):ACallsTo TC 91 [.agg (z10 a),.agg (z10 b)] O (.agg (z10 (z42 a b))) O:=by
 refine ACallsTo.of_body qeok (by simp) fun hw _=> ?_
 have h1:=zw a
 have h2:=zw b
 have h3:=zw (z42 a b)
 rw [ha]at h1
 rw [hb]at h2
 rw [zeh]at h3
 obtain⟨n,hn⟩:∃n,n=z42 a b:=⟨_,rfl⟩
 have hs:∀O,ACallsTo TC 85 [.str (1::(a++b))] O (.agg (z10 n)) O:=fun O=>by rw [hn];exact z8f O _ (by simp;omega)
 rw [<-hn]at h3 ⊢
 repeat' (first|refine zs_ ?_|refine zb_ ?_|refine zc_ ?_|refine zt_ rfl ?_|refine zf_ rfl ?_|(refine zd_ rfl (fun ht=> ?_) (fun ht=> ?_)<;>try (exfalso;omega))|((first|refine zW.regS ?_|refine zk_ ?_|refine ze_ ?_|refine zq_ ?_|(apply callW.mk_pu;(first|exact(fun _=>z80 _ _ ha)|exact(fun _=>z80 _ _ hb)|exact(fun _=>hs _)))|(apply callW.za;(first|exact(z80 _ _ ha)|exact(z80 _ _ hb)|exact(hs _)))|(apply zG<;>intro ht));all_goals try simp (disch:=first|omega|(simp only [lens];first|done|omega)) only [go_sem,h1,h2,h3]))
 exact DownV.pure hw (z61 (z3q _))
end
section
def z1h(n:Nat):Nat:=if n<2 then 0 else 2^Nat.log2 (n-1)
theorem zfy{n:Nat}(h:2<=n):z1h n<n/\ n<=2*z1h n/\ 0<z1h n:=by
 unfold z1h
 rw [if_neg (by omega)]
 have h1:=Nat.log2_self_le (n:=n-1) (by omega)
 have h2:=Nat.lt_log2_self (n:=n-1)
 rw [Nat.pow_succ]at h2
 have h3:0<2^Nat.log2 (n-1):=Nat.pow_pos (by decide)
 omega
theorem zmp{n j:Nat}(h1:2^j<n)(h2:n<=2^(j+1)):z1h n=2^j:=by
 have h3:0<2^j:=Nat.pow_pos (by decide)
 unfold z1h
 rw [if_neg (by omega)]
 have h4:=Nat.log2_self_le (n:=n-1) (by omega)
 have h5:=Nat.lt_log2_self (n:=n-1)
 congr 1
 generalize Nat.log2 (n-1)=i at*
 have a1:2^j<2^(i+1):=by omega
 have a2:2^i<2^(j+1):=by omega
 have b1:=(Nat.pow_lt_pow_iff_right (by decide:1<2)).1 a1
 have b2:=(Nat.pow_lt_pow_iff_right (by decide:1<2)).1 a2
 omega
theorem zgk(O:Store)(n:Nat)(h:n<1000000000000):ACallsTo TC 90 [.int .i64 n] O (.int .i64 (z1h n)) O:=by
 refine ACallsTo.of_body qfok (by simp) fun hw _=> ?_
 by_cases h2:n<2
 ·have e:z1h n=0:=by unfold z1h;rw [if_pos h2]
  rw [e]
  repeat' (first|apply zs_|apply zb_|apply zc_|apply zt_ rfl|apply zf_ rfl|(apply zd_ rfl<;>intro ht<;>try omega)|((first|apply zr_|apply zk_|apply ze_|apply zq_|(apply zG<;>intro ht));all_goals try simp (disch:=first|omega|(simp only [lens];first|done|omega)) only [go_sem]))
  exact DownV.same hw (z1d _ rfl)
 ·repeat' (first|apply zs_|apply zb_|apply zc_|apply zt_ rfl|apply zf_ rfl|(apply zd_ rfl<;>intro ht<;>try omega)|((first|apply zr_|apply zk_|apply ze_|apply zq_|(apply zG<;>intro ht));all_goals try simp (disch:=first|omega|(simp only [lens];first|done|omega)) only [go_sem]))
  refine zW.loop (fun m J O'=>∃j:Nat,m=n-2^j/\ 2^j<n/\ J 0=.int .i64 n/\ J 3=.int .i64 ((2^j:Nat):Int)/\ O'=O) (n-1) ?_ ?_
  ·exact⟨0,rfl,by omega,by simp (disch:=first|omega|(simp only [lens];first|done|omega)) only [go_sem],by simp (disch:=first|omega|(simp only [lens];first|done|omega)) only [go_sem];rfl,rfl⟩
  ·rintro m J O' ⟨j,hm,hj,q0,q3,rfl⟩
   have hp:0<2^j:=Nat.pow_pos (by decide)
   have hs:2^(j+1)=2^j*2:=Nat.pow_succ ..
   generalize hk:2^j=k at*
   by_cases hc:(k:Int)<n-k
   ·repeat' (first|apply zs_|apply zb_|apply zc_|apply zt_ rfl|apply zf_ rfl|(apply zd_ rfl<;>intro ht<;>try omega)|((first|apply zr_|apply zk_|apply ze_|apply zq_|(apply zG<;>intro ht));all_goals try simp (disch:=first|omega|(simp only [lens];first|done|omega)) only [go_sem,q0,q3]))
    exact⟨n-k*2,by omega,j+1,by rw [hs],by omega,by rw [hs];rfl⟩
   ·have e:z1h n=k:=by rw [<-hk];exact zmp (by omega) (by omega)
    rw [e]
    repeat' (first|apply zs_|apply zb_|apply zc_|apply zt_ rfl|apply zf_ rfl|(apply zd_ rfl<;>intro ht<;>try omega)|((first|apply zr_|apply zk_|apply ze_|apply zq_|(apply zG<;>intro ht));all_goals try simp (disch:=first|omega|(simp only [lens];first|done|omega)) only [go_sem,q0,q3]))
    exact DownV.same hw (z1d _ rfl)
def z7n:Nat->List (List UInt8)->List UInt8
 | 0,_=>[]
 | _+1,[]=>shaS []
 | _+1,[h]=>h
 |f+1,a::b::l=>z42 (z7n f ((a::b::l).take (z1h (l.length+2)))) (z7n f ((a::b::l).drop (z1h (l.length+2))))
theorem zca:∀(f g:Nat) (l:List (List UInt8)),l.length<f->l.length<g->z7n f l=z7n g l
 | 0,_,_,h,_=>by omega
 | _+1,0,_,_,h=>by omega
 |f+1,g+1,[],_,_=>rfl
 |f+1,g+1,[_],_,_=>rfl
 |f+1,g+1,a::b::l,h,h'=>by
  obtain⟨s1,s2,s3⟩:=zfy (n:=l.length+2) (by omega)
  simp only [List.length_cons]at h h'
  simp only [z7n]
  rw [zca f g ((a::b::l).take (z1h (l.length+2))) (by rw [List.length_take];simp;omega) (by rw [List.length_take];simp;omega),
   zca f g ((a::b::l).drop (z1h (l.length+2))) (by rw [List.length_drop];simp;omega) (by rw [List.length_drop];simp;omega)]
def z27(l:List (List UInt8)):List UInt8:=z7n (l.length+1) l
theorem zyt:z27 []=shaS []:=rfl
theorem zff{l:List (List UInt8)}(h:2<=l.length):z27 l=z42 (z27 (l.take (z1h l.length))) (z27 (l.drop (z1h l.length))):=by
 match l,h with
 |a::b::l,_=>
  obtain⟨s1,s2,s3⟩:=zfy (n:=l.length+2) (by omega)
  unfold z27
  simp only [z7n,List.length_cons]
  congr 1
  ·refine zca _ _ _ ?_ (Nat.lt_succ_self _)
   rw [List.length_take]
   simp only [List.length_cons]
   omega
  ·refine zca _ _ _ ?_ (Nat.lt_succ_self _)
   rw [List.length_drop]
   simp only [List.length_cons]
   omega
def H32(l:List (List UInt8)):Prop:=∀h ∈ l,h.length=32
theorem H32.take{l:List (List UInt8)}(h:H32 l)(n:Nat):H32 (l.take n):=fun x hx=>h x (List.mem_of_mem_take hx)
theorem H32.drop{l:List (List UInt8)}(h:H32 l)(n:Nat):H32 (l.drop n):=fun x hx=>h x (List.mem_of_mem_drop hx)
theorem z9s{l:List (List UInt8)}(h:H32 l):(z27 l).length=32:=by
 match l,h with
 | [],_=>exact zfp _
 | [x],h=>exact h x (by simp)
 |a::b::l,_=>rw [zff (by simp)];exact zeh _ _
end
section
def z2f(l:List (List UInt8)):List (List AV):=l.map z10
theorem zji(l:List (List UInt8)):(z2f l).length=l.length:=by simp [z2f]
theorem zfd{k:Nat}:∀(l:List (List UInt8)),RLss k (z2f l)
 | []=>by simp [z2f,RLss]
 |h::l=>by have:=zfd (k:=k) l;simp only [z2f]at this;simp [z2f,RLss,this,z3q]
theorem znz(hs:List (List UInt8))(hH:H32 hs)(hl:hs.length<1000000000)(ex:Bool)(r1 r3:Nat):
  ∀(d:Nat) (O:Store) (a:Nat),0<d->a+d<=hs.length->O[r1]? =some (some [[.vsl 32 (z2f hs) ex]])->O[r3]? =some (some [[.fn 89 [.ptr r1 0 0,.ptr r3 0 0]]])->
   ACallsTo TC 89 [.int .i64 a,.int .i64 ((a+d:Nat):Int),.ptr r1 0 0,.ptr r3 0 0] O (.agg (z10 (z27 ((hs.drop a).take d)))) O:=by
 intro d
 induction d using Nat.strongRecOn with
 | _ d ih=>
  intro O a h0 had hg1 hg3
  have hr1:=(List.getElem?_eq_some_iff.1 hg1).1
  have hr3:=(List.getElem?_eq_some_iff.1 hg3).1
  obtain⟨L,hL⟩:∃L,L=(hs.drop a).take d:=⟨_,rfl⟩
  have hLl:L.length=d:=by rw [hL,List.length_take,List.length_drop];omega
  have hLH:H32 L:=by rw [hL];exact(hH.drop a).take d
  have hn:=z9s hLH
  have hc:=zw (z27 L)
  rw [hn]at hc
  rw [<-hL]
  have hsub:((a+d:Nat):Int)-a=d:=by omega
  by_cases h1:d=1
  ·have e0:z1h d=0:=by unfold z1h;rw [if_pos (by omega)]
   have hsp:=fun O=>zgk O d (by omega)
   rw [e0]at hsp
   obtain⟨x,hx⟩:∃x,hs[a]? =some x:=⟨_,List.getElem?_eq_getElem (by omega)⟩
   have hgr:(z2f hs)[a]? =some (z10 x):=by simp [z2f,hx]
   have eL:z27 L=x:=by
    have:L=[x]:=by
     rw [hL,h1]
     apply List.ext_getElem?
     intro i
     cases i with
     |zero=>simp [List.getElem?_take,List.getElem?_drop,hx]
     |succ i=>simp [List.getElem?_take]
    rw [this];rfl
   rw [eL]at hc ⊢
   have hrl:=zji hs
   clear eL
   generalize z2f hs=rows at*
   refine ACallsTo.of_body qgok (by simp) fun hw _=> ?_
   repeat' (first|apply zs_|apply zb_|apply zc_|apply zt_ rfl|apply zf_ rfl|(apply zd_ rfl<;>intro ht<;>try omega)|((first|apply zr_|apply zk_|apply ze_|apply zq_|(apply callW.mk_pu;(first|exact(fun _=>hsp _)))|(apply callW.za;(first|exact(hsp _)))|(apply zG<;>intro ht));all_goals try simp (disch:=first|omega|(simp only [lens];first|done|omega)) only [go_sem,hsub,hg1,hgr,hc]))
   exact DownV.pure hw (z61 (z3q _))
  ·obtain⟨s1,s2,s3⟩:=zfy (n:=d) (by omega)
   have hsp:=fun O=>zgk O d (by omega)
   have eL:=zff (l:=L) (by omega)
   rw [hLl]at eL
   have t1:L.take (z1h d)=(hs.drop a).take (z1h d):=by rw [hL,List.take_take,Nat.min_eq_left (by omega)]
   have t2:L.drop (z1h d)=(hs.drop (a+z1h d)).take (d-z1h d):=by rw [hL,List.drop_take,List.drop_drop]
   generalize hk:z1h d=k at*
   have i1:=fun y=>ih k (by omega) (O++y) a (by omega) (by omega) (by rw [gapp hr1];exact hg1) (by rw [gapp hr3];exact hg3)
   have i2:=fun y=>ih (d-k) (by omega) (O++y) (a+k) (by omega) (by omega) (by rw [gapp hr1];exact hg1) (by rw [gapp hr3];exact hg3)
   rw [<-t1]at i1
   rw [<-t2]at i2
   rw [show a+k+(d-k)=a+d by omega]at i2
   have n1:=z9s (hLH.take k)
   have n2:=z9s (hLH.drop k)
   have e1:((a:Int)+k)=((a+k:Nat):Int):=by omega
   rw [eL]at hc ⊢
   generalize z27 (L.take k)=A at*
   generalize z27 (L.drop k)=B at*
   have k0:¬(k:Int)=0:=by omega
   refine ACallsTo.of_body qgok (by simp) fun hw _=> ?_
   repeat' (first|refine zs_ ?_|refine zb_ ?_|refine zc_ ?_|refine zt_ rfl ?_|refine zf_ rfl ?_|(refine zd_ rfl (fun ht=> ?_) (fun ht=> ?_)<;>try (exfalso;omega))|((first|refine zW.regS ?_|refine zk_ ?_|refine ze_ ?_|refine zq_ ?_|(apply callW.mk_pu;(first|exact(fun _=>hsp _)|exact(fun _=>i1 _)|exact(fun _=>i2 _)|exact(fun _=>zgi _ _ _ n1 n2)))|(apply callW.za;(first|exact(hsp _)|exact(i1 _)|exact(i2 _)|exact(zgi _ _ _ n1 n2)))|(apply zG<;>intro ht));all_goals try simp (disch:=first|omega|(simp only [lens];first|done|omega)) only [go_sem,hsub,hg1,hg3,hc,e1]))
   exact DownV.pure hw (z61 (z3q _))
theorem z14u(O:Store)(hs:List (List UInt8))(x:AV)(hx:SlV 32 (z2f hs) x)(hH:H32 hs)(hl:hs.length<1000000000):ACallsTo TC 42 [x] O (.agg (z10 (z27 hs))) O:=by
 have hc:=zw (z27 hs)
 rw [z9s hH]at hc
 have hrl:=zji hs
 by_cases h0:hs=[]
 ·subst h0
  have hx':=hx.len
  unfold z1k at hx'
  refine ACallsTo.of_body qdok (by simp) fun hw _=> ?_
  rw [zyt]at hc ⊢
  rcases hx with⟨rfl,h⟩| ⟨ex,rfl⟩
  ·repeat' (first|apply zs_|apply zb_|apply zc_|apply zt_ rfl|apply zf_ rfl|(apply zd_ rfl<;>intro ht<;>try omega)|((first|apply zr_|apply zk_|apply ze_|apply zq_|(apply callW.mk_pu;(first|exact(fun _=>z8f _ [] (by simp))))|(apply callW.za;(first|exact(z8f _ [] (by simp))))|(apply zG<;>intro ht));all_goals try simp (disch:=first|omega|(simp only [lens];first|done|omega)) only [go_sem,hc]))
   exact DownV.pure hw (z61 (z3q _))
  ·repeat' (first|apply zs_|apply zb_|apply zc_|apply zt_ rfl|apply zf_ rfl|(apply zd_ rfl<;>intro ht<;>try omega)|((first|apply zr_|apply zk_|apply ze_|apply zq_|(apply callW.mk_pu;(first|exact(fun _=>z8f _ [] (by simp))))|(apply callW.za;(first|exact(z8f _ [] (by simp))))|(apply zG<;>intro ht));all_goals try simp (disch:=first|omega|(simp only [lens];first|done|omega)) only [go_sem,hc,hrl]))
   exact DownV.pure hw (z61 (z3q _))
 ·have hpos:0<hs.length:=List.length_pos_iff.2 h0
  obtain⟨ex,rfl⟩:=hx.vsl (by rw [hrl];exact hpos)
  have h1:=znz hs hH hl ex O.length (O.length+2) hs.length
  refine ACallsTo.of_body qdok (by simp) fun hw _=> ?_
  have h1:=fun O'=>h1 O' 0 hpos (by omega)
  simp only [Nat.zero_add,List.drop_zero,List.take_length]at h1
  generalize z27 hs=R at*
  generalize z2f hs=rows at*
  repeat' (first|apply zs_|apply zb_|apply zc_|apply zt_ rfl|apply zf_ rfl|(apply zd_ rfl<;>intro ht<;>try omega)|((first|apply zr_|apply zk_|apply ze_|apply zq_|(apply callW.mk_pu;(first|exact(fun _=>h1 _ (by simp) (by simp))))|(apply callW.za;(first|exact(h1 _ (by simp) (by simp))))|(apply zG<;>intro ht));all_goals try simp (disch:=first|omega|(simp only [lens];first|done|omega)) only [go_sem,hc,hrl]))
  exact DownV.pure hw (z61 (z3q _))
end
section
def RdSl(O:Store)(sz:Nat)(es:List (List AV))(x:AV):Prop:=
 SlV sz es x \/ ∃r off lim o,x=.sl r off es.length lim sz/\ O[r]? =some (some o)/\ off+es.length<=o.length/\ (o.drop off).take es.length=es
theorem RdSl.of{O:Store}{sz:Nat}{es:List (List AV)}{x:AV}(h:SlV sz es x):RdSl O sz es x:=.inl h
theorem OwnN.rd{sz:Nat}{τ O':Store}{v:AV}{es:List (List AV)}(h:OwnN sz τ O' v es):RdSl O' sz es v:=by
 by_cases h0:es=[]
 ·obtain⟨news,rfl,⟨rfl,rfl⟩| ⟨j,h1,_⟩⟩:=h
  ·exact .inl (.inl ⟨rfl,rfl⟩)
  ·exact absurd h0 h1
 ·obtain⟨r,rfl,hg,_⟩:=h.sl h0
  exact .inr ⟨r,0,none,es,rfl,hg,by omega,by rw [List.drop_zero,List.take_of_length_le (Nat.le_refl _)]⟩
theorem RdSl.app{O y:Store}{sz:Nat}{es:List (List AV)}{x:AV}(h:RdSl O sz es x):RdSl (O++y) sz es x:=by
 rcases h with h| ⟨r,off,lim,o,rfl,hg,h1,h2⟩
 ·exact .inl h
 ·exact .inr ⟨r,off,lim,o,rfl,by rw [gapp (List.getElem?_eq_some_iff.1 hg).1];exact hg,h1,h2⟩
theorem RdSl.len{O:Store}{sz:Nat}{es:List (List AV)}{x:AV}(h:RdSl O sz es x):z1k x=some (.int .i64 es.length):=by
 rcases h with h| ⟨r,off,lim,o,rfl,_⟩
 ·exact h.len
 ·rfl
theorem RdSl.lend{O:Store}{sz:Nat}{es:List (List AV)}{x:AV}(h:RdSl O sz es x)(hr:RLss 0 es):∃x0,SlV sz es x0/\ DR (z41 O) x0 x:=by
 rcases h with h| ⟨r,off,lim,o,rfl,hg,h1,h2⟩
 ·refine⟨x,h,DR.refl (k:=0) (by omega) x ?_⟩
  rcases h with⟨rfl,_⟩| ⟨ex,rfl⟩
  ·simp [RL]
  ·simpa only [RL]using hr
 ·refine⟨.vsl sz es false,.inr ⟨false,rfl⟩,?_⟩
  simp only [DR,z41]
  exact .inr (.inl ⟨r,off,lim,o,rfl,trivial,hg,h1,by simp,by rw [h2];exact DRss.refl (k:=0) (by omega) es hr⟩)
theorem zt7{O:Store}{r i off cap esz:Nat}{o es:List (List AV)}{cs rest:List AV}(hg:O[r]? =some (some o))(hi:o[i]? =some cs)(ho:off<=cs.length)(hd:cs.drop off=es.flatten++rest)(he:∀e ∈ es,e.length=esz)(hn:es.length ≠ 0)(hr:RLss 0 es):
  DR (z41 O) (.vsl esz es false) (.asl r i off es.length cap esz):=by
 simp only [DR,z41]
 exact .inr (.inr ⟨r,i,off,cap,o,cs,es,rest,rfl,trivial,hg,hi,ho,hd,he,hn,by simp,DRss.refl (k:=0) (by omega) es hr⟩)
theorem rl0{a:AV}(h:RL 0 a)(O:Store):DR (z41 O) a a:=DR.refl (k:=0) (by omega) a h
theorem drs1{D:DC}{a b:AV}(h:DR D a b):DRs D [a] [b]:=by simp only [DRs];exact⟨b,[],rfl,h,rfl⟩
theorem drsc{D:DC}{a b:AV}{l m:List AV}(h:DR D a b)(h2:DRs D l m):DRs D (a::l) (b::m):=by simp only [DRs];exact⟨b,m,rfl,h,h2⟩
theorem zfq(k:Nat):∀(l:List UInt8),shs k (z10 l)=z10 l
 | []=>rfl
 |b::l=>by have:=zfq k l;simp only [z10]at this;simp [z10,shs,sh,this]
theorem zzh(k:Nat)(l:List UInt8):sh k (.agg (z10 l))=.agg (z10 l):=by simp only [sh,zfq]
theorem z9w(k:Nat):shS k []=[]:=rfl
theorem z14t(O:Store)(hs:List (List UInt8))(x:AV)(hx:RdSl O 32 (z2f hs) x)(hH:H32 hs)(hl:hs.length<1000000000):ACallsTo TC 42 [x] O (.agg (z10 (z27 hs))) O:=by
 obtain⟨x0,h0,hd⟩:=hx.lend (zfd hs)
 have:=ACallsTo.lend glok (z14u [] hs x0 h0 hH hl) (drs1 hd)
 rwa [zzh,z9w,List.append_nil]at this
theorem ziu:∀(a b:List UInt8),z1w (z10 a) (z10 b)=decide (a=b)
 | [],[]=>rfl
 | [],_::_=>rfl
 | _::_,[]=>rfl
 |a::l,b::m=>by
  have ih:=ziu l m
  simp only [z10,List.map_cons,z1w,z7c]at ih ⊢
  rw [ih,Bool.eq_iff_iff]
  simp [<-UInt8.toNat_inj]
  intro _
  omega
theorem zjs:∀(l:List UInt8),(z10 l).map z1p=List.replicate l.length (some (LK.i .u8))
 | []=>rfl
 | _::l=>by have:=zjs l;simp only [z10]at this;simp [z10,z1p,this,List.replicate_succ]
theorem zt3{l:List UInt8}(h:l.length=32):(z10 l).map z1p=(List.replicate 32 (LK.i .u8)).map some:=by rw [zjs,h];rfl
end
section
set_option maxRecDepth 10000

end
section
def subF:Nat->List (List UInt8)->Nat->Bool->List (List UInt8)
 | 0,_,_,_=>[]
 |f+1,l,m,known=>
  if m=l.length then(if known then []else [z27 l])
  else if m<=z1h l.length then subF f (l.take (z1h l.length)) m known++ [z27 (l.drop (z1h l.length))]
  else subF f (l.drop (z1h l.length)) (m-z1h l.length) false++ [z27 (l.take (z1h l.length))]
def subS(l:List (List UInt8))(m:Nat)(known:Bool):List (List UInt8):=subF (l.length+1) l m known
theorem DownV.tup2{k:Nat}{v v2:AV}{O O2:Store}{i:IntKind}{e:Int}(h:DownV k v O v2 O2):DownV k (.tup [v,.int i e]) O (.tup [v2,.int i e]) O2:=by
 obtain⟨D,a,b,c⟩:=h
 exact⟨D,a,b,by simp only [DR,DRs];exact⟨_,rfl,_,_,rfl,c,_,_,rfl,rfl,rfl⟩⟩
theorem zj0{O O':Store}(h:O.length<=O'.length)(h2:∀q,q<O.length->O'[q]? =O[q]?):∃y,O'=O++y:=by
 refine⟨O'.drop O.length,?_⟩
 have e:O'.take O.length=O:=by
  refine List.ext_getElem? fun i=> ?_
  by_cases hi:i<O.length
  ·rw [List.getElem?_take_of_lt hi];exact h2 i hi
  ·rw [List.getElem?_eq_none (by simp;omega),List.getElem?_eq_none (by omega)]
 calc O'=O'.take O.length++O'.drop O.length:=(List.take_append_drop _ _).symm
  _=O++O'.drop O.length:=by rw [e]
def zbs(hs:List (List UInt8))(m:Int):List (List UInt8):=if 0<m/\ m<hs.length then subS hs m.toNat true else []
def zbr(hs:List (List UInt8))(m:Int):Int:=if m<0 \/(hs.length:Int)<m then 2 else 0
def ProofP(O:Store)(hs:List (List UInt8))(m:Int)(v:AV)(O':Store):Prop:=∃v2,v=.tup [v2,.int .i64 (zbr hs m)]/\ OwnN 32 O O' v2 (z2f (zbs hs m))
theorem ProofP.ex(O:Store)(hs:List (List UInt8))(m:Int):∃v O',ProofP O hs m v O':=⟨_,_,_,rfl,z9l O 32 _⟩
theorem ProofP.none{O:Store}{hs:List (List UInt8)}{m:Int}(h:zbs hs m=[]):ProofP O hs m (.tup [.nilsl,.int .i64 (zbr hs m)]) O:=⟨.nilsl,rfl,by rw [h];exact⟨[],by simp,.inl ⟨rfl,rfl⟩⟩⟩
end
section
def OwnA(sz:Nat)(τ O':Store)(v:AV)(es:List (List AV)):Prop:=OwnN sz τ O' v es \/(v=.vsl sz es true/\ es ≠ []/\ ∃news,O'=τ++news)
theorem OwnA.app{sz:Nat}{τ O':Store}{v:AV}{es ys:List (List AV)}(h:OwnA sz τ O' v es)(h0:ys.length ≠ 0)(hl:es.length+ys.length<=1073741824):
  ∃v' O'',aApp O' sz v ys=some (v',O'')/\ OwnN sz τ O'' v' (es++ys):=by
 rcases h with h| ⟨rfl,h1,news,rfl⟩
 ·exact h.app h0 hl
 ·refine⟨.sl (τ++news).length 0 (es.length+ys.length) none sz,(τ++news)++ [some (es++ys)],by rw [z8w,if_neg h0,if_pos ⟨rfl,rfl,hl⟩],news++ [some (es++ys)],by rw [List.append_assoc],.inr ⟨news.length,by simp [h1],by simp,by rw [List.getElem?_append_right (Nat.le_refl _)];simp⟩⟩
theorem OwnA.rd{sz:Nat}{τ O':Store}{v:AV}{es:List (List AV)}(h:OwnA sz τ O' v es):RdSl O' sz es v:=by
 rcases h with h| ⟨rfl,_⟩
 ·exact h.rd
 ·exact .inl (.inr ⟨true,rfl⟩)
theorem OwnA.more{sz:Nat}{τ O':Store}{v:AV}{es:List (List AV)}(h:OwnA sz τ O' v es)(y:Store):OwnA sz τ (O'++y) v es:=by
 rcases h with h| ⟨rfl,h1,news,rfl⟩
 ·exact .inl (h.more y)
 ·exact .inr ⟨rfl,h1,news++y,by rw [List.append_assoc]⟩
theorem OwnA.ext{sz:Nat}{τ O':Store}{v:AV}{es:List (List AV)}(h:OwnA sz τ O' v es):∃news,O'=τ++news:=by
 rcases h with h| ⟨_,_,h⟩
 ·exact h.ext
 ·exact h
theorem OwnA.down{sz:Nat}{O O':Store}{v:AV}{es:List (List AV)}(hw:Wf O.length O)(h:OwnA sz O O' v es)(hr:RLss O.length es):∃v2 O2,OwnA sz O O2 v2 es/\ DownV O.length v O' v2 O2:=by
 rcases h with h| ⟨rfl,h1,news,rfl⟩
 ·exact⟨_,_,.inl (z9l O sz es),h.own hw hr⟩
 ·exact⟨_,O,.inr ⟨rfl,h1,[],by simp⟩,DownV.pure hw (by simpa only [RL]using hr)⟩
def OwnQ(kn:Bool)(τ O':Store)(v:AV)(es:List (List AV)):Prop:=OwnA 32 τ O' v es/\ (kn=true->OwnN 32 τ O' v es)
theorem OwnQ.is(kn:Bool)(O:Store)(es:List (List AV)):OwnQ kn O (ownS O es) (ownV O 32 es) es:=⟨.inl (z9l O 32 es),fun _=>z9l O 32 es⟩
theorem OwnQ.down{kn:Bool}{O O':Store}{v:AV}{es:List (List AV)}(hw:Wf O.length O)(h:OwnN 32 O O' v es)(hr:RLss O.length es):∃v2 O2,OwnQ kn O O2 v2 es/\ DownV O.length v O' v2 O2:=
 ⟨_,_,OwnQ.is kn O es,h.own hw hr⟩
end
section
def RefP(O:Store)(hs:List (List UInt8))(m:Int)(v:AV)(O':Store):Prop:=∃v2,v=.tup [v2,.int .i64 (zbr hs m)]/\ OwnA 32 O O' v2 (z2f (zbs hs m))
def st(i last:Nat):Nat × Nat:=if h:i%2=1 then st (i/2) (last/2)else(i,last)
termination_by i
decreasing_by omega
def lp(i last:Nat):List Bool:=
 if h:last=0 then []else if i%2=1 then true::lp (i/2) (last/2)else if i=last then lp (i/2) (last/2)else false::lp (i/2) (last/2)
termination_by last
decreasing_by all_goals omega
def run:List Bool->List (List UInt8)->List UInt8->List UInt8->Option (List UInt8 × List UInt8)
 | [],[],a,b=>some (a,b)
 |true::p,h::ps,a,b=>run p ps (z42 h a) (z42 h b)
 |false::p,h::ps,a,b=>run p ps a (z42 b h)
 | _,_,_,_=>none
def chkG(i last:Nat)(o:List UInt8)(ps:List (List UInt8)):Option (List UInt8 × List UInt8):=
 if 0<i then match ps with
  | []=>none
  |h::ps=>run (lp i last) ps h h
 else run (lp i last) ps o o
def chkS(i last:Nat)(o:List UInt8)(ps:List (List UInt8)):Option (List UInt8 × List UInt8):=chkG (st i last).1 (st i last).2 o ps
def fitI(r:Option (List UInt8 × List UInt8))(o nw:List UInt8):Int:=
 match r with
 |some (a,b)=>if a=o/\ b=nw then 0 else 80
 |none=>80
def chkI(m n:Int)(o nw:List UInt8)(ps:List (List UInt8)):Int:=
 if n<0 \/4096<n \/m<0 \/n<m then 2
 else if m=0 then(if ps=[]/\ o=z27 []/\ (0<n \/nw=o)then 0 else 80)
 else if m=n then(if ps=[]/\ o=nw then 0 else 80)
 else fitI (chkS (m.toNat-1) (n.toNat-1) o ps) o nw
end
section
structure ChkM(ia ib:Nat)(O O':Store)(o nw:List UInt8)(pv:AV)(ps:List (List UInt8))(a b:List UInt8):Prop where
 hab:(ia=3/\ ib=4) \/(ia=4/\ ib=3)
 len:O.length+5<=O'.length
 keep:∀q,q<O.length->O'[q]? =O[q]?
 g0:O'[O.length]? =some (some [z10 o])
 g1:O'[O.length+1]? =some (some [z10 nw])
 g2:O'[O.length+2]? =some (some [[pv]])
 g3:O'[O.length+ia]? =some (some [z10 a])
 g4:O'[O.length+ib]? =some (some [z10 b])
 hp:SlV 32 (z2f ps) pv
 ha:a.length=32
 hb:b.length=32
theorem ChkM.app{ia ib:Nat}{O O' y:Store}{o nw:List UInt8}{pv:AV}{ps:List (List UInt8)}{a b:List UInt8}(h:ChkM ia ib O O' o nw pv ps a b):ChkM ia ib O (O'++y) o nw pv ps a b:=by
 have hl:=h.len
 have hab:=h.hab
 refine⟨hab,by rw [List.length_append];omega,fun q hq=> ?_,?_,?_,?_,?_,?_,h.hp,h.ha,h.hb⟩
 ·rw [gapp (by omega)];exact h.keep q hq
 ·rw [gapp (by omega)];exact h.g0
 ·rw [gapp (by omega)];exact h.g1
 ·rw [gapp (by omega)];exact h.g2
 ·rw [gapp (by omega)];exact h.g3
 ·rw [gapp (by omega)];exact h.g4
theorem ChkM.setp{ia ib:Nat}{O O':Store}{o nw:List UInt8}{pv:AV}{ps:List (List UInt8)}{a b:List UInt8}(h:ChkM ia ib O O' o nw pv ps a b){qv:AV}{qs:List (List UInt8)}(hq:SlV 32 (z2f qs) qv):ChkM ia ib O (O'.set (O.length+2) (some [[qv]])) o nw qv qs a b:=by
 have hl:=h.len
 have hab:=h.hab
 refine⟨hab,by rw [List.length_set];omega,fun q hq=> ?_,?_,?_,?_,?_,?_,hq,h.ha,h.hb⟩
 ·rw [z1e (by omega)];exact h.keep q hq
 ·rw [z1e (by omega)];exact h.g0
 ·rw [z1e (by omega)];exact h.g1
 ·rw [z1x (by omega)]
 ·rw [z1e (by omega)];exact h.g3
 ·rw [z1e (by omega)];exact h.g4
theorem ChkM.fin{ia ib:Nat}{O O':Store}{o nw:List UInt8}{pv:AV}{ps:List (List UInt8)}{a b:List UInt8}(h:ChkM ia ib O O' o nw pv ps a b)(hw:Wf O.length O){i:Int}:DownV O.length (.int .i64 i) O' (.int .i64 i) O:=by
 have hl:=h.len
 have hab:=h.hab
 obtain⟨y,rfl⟩:=zj0 (by omega) h.keep
 exact DownV.pure hw (z1d _ rfl)
theorem SlV.cells{sz:Nat}{es:List (List AV)}{x:AV}(h:SlV sz es x):cellsOf x=some [x]:=by
 rcases h with⟨rfl,rfl⟩| ⟨ex,rfl⟩<;>rfl
end
section

end
section

end
section
theorem split2:z1h 2=1:=by decide
theorem split4:z1h 4=2:=by decide
theorem ProofP.is{O O':Store}{hs:List (List UInt8)}{m:Int}{v:AV}(h:ProofP O hs m v O'):∃v2,v=.tup [v2,.int .i64 (zbr hs m)]/\ OwnN 32 O O' v2 (z2f (zbs hs m)):=h
end
section
def z7e:Ty:=.row (List.replicate 32 (.int .u8))
theorem zhr:∀(n:Nat) (cs:List AV),z3b (List.replicate n (.int .u8)) cs->∃h:List UInt8,cs=z10 h/\ h.length=n
 | 0,cs,h=>⟨[],by simpa only [List.replicate_zero,z3b,z10,List.map_nil]using h,rfl⟩
 |n+1,cs,h=>by
  simp only [List.replicate_succ,z3b,ShC]at h
  obtain⟨_,b,rfl,⟨x,rfl,h1,h2⟩,h3⟩:=h
  obtain⟨l,rfl,hl⟩:=zhr n b h3
  simp only [IntKind.min,IntKind.max,IntKind.signed,IntKind.bits]at h1 h2
  simp at h1 h2
  refine⟨UInt8.ofNat x.toNat::l,?_,by simp [hl]⟩
  have:((UInt8.ofNat x.toNat).toNat:Int)=x:=by rw [UInt8.toNat_ofNat'];omega
  simp only [z10,List.map_cons,List.singleton_append,this]
theorem zja{cs:List AV}(h:ShC z7e cs):∃l:List UInt8,cs=z10 l/\ l.length=32:=zhr 32 cs (by simpa only [z7e,ShC]using h)
theorem zjb:∀(es:List (List AV)),(∀x ∈ es,ShC z7e x)->∃hs,es=z2f hs/\ H32 hs
 | [],_=>⟨[],rfl,fun _ h=>by simp at h⟩
 |e::es,h=>by
  obtain⟨l,rfl,hl⟩:=zja (h e (by simp))
  obtain⟨hs,rfl,hH⟩:=zjb es (fun x hx=>h x (by simp [hx]))
  refine⟨l::hs,rfl,fun x hx=> ?_⟩
  rcases List.mem_cons.1 hx with rfl|hx
  ·exact hl
  ·exact hH x hx
theorem RefP.ex(O:Store)(hs:List (List UInt8))(m:Int):∃v O',RefP O hs m v O':=⟨_,_,_,rfl,.inl (z9l O 32 _)⟩
end
section
abbrev Hash:={l:List UInt8//l.length=32}
def hc(h:Hash):List AV:=z10 h.1
def hr(l:List Hash):List (List AV):=l.map hc
def hb(l:List Hash):List (List UInt8):=l.map (·.1)
theorem hb_H(l:List Hash):H32 (hb l):=fun x hx=>by
 simp only [hb,List.mem_map]at hx
 obtain⟨h,_,rfl⟩:=hx
 exact h.2
theorem zdw(l:List Hash):(hb l).length=l.length:=by simp [hb]
theorem zry(l:List Hash)(n:Nat):(hb l).take n=hb (l.take n):=by simp [hb,List.map_take]
theorem zrx(l:List Hash)(n:Nat):(hb l).drop n=hb (l.drop n):=by simp [hb,List.map_drop]
theorem ze1(l:List Hash):z2f (hb l)=hr l:=by simp [z2f,hb,hr,hc]
theorem hb_of:∀{l:List (List UInt8)},H32 l->∃m:List Hash,l=hb m
 | [],_=>⟨[],rfl⟩
 |x::l,h=>by
  obtain⟨m,hm⟩:=hb_of (l:=l) fun y hy=>h y (by simp [hy])
  exact⟨⟨x,h x (by simp)⟩::m,by simp [hb,hm]⟩
@[go_sem] theorem z6 (h:Hash):(hc h).length=32:=by rw [hc,zw,h.2]
@[go_sem] theorem zrz (h:Hash):(hc h).drop 32=[]:=List.drop_of_length_le (by rw [z6];decide)
@[go_sem] theorem zs0 (h:Hash):(hc h).take 32=hc h:=List.take_of_length_le (by rw [z6];decide)
@[go_sem] theorem z85 (h:Hash) (l:List AV):(hc h++l).take 32=hc h:=by
 have:=z6 h
 rw [List.take_append_of_le_length (by omega),zs0]
@[go_sem] theorem z84 (h:Hash) (l:List AV):(hc h++l).drop 32=l:=by
 have:=z6 h
 rw [List.drop_append_of_le_length (by omega),zrz,List.nil_append]
@[go_sem] theorem hc_eq (a b:Hash):z1w (hc a) (hc b)=decide (a=b):=by
 rw [hc,hc,ziu,Bool.eq_iff_iff]
 simp [Subtype.ext_iff]
@[go_sem] theorem hc_kinds (h:Hash):(hc h).map z1p=(List.replicate 32 (LK.i .u8)).map some:=zt3 h.2
@[go_sem] theorem zi (l:List Hash):(hr l).length=l.length:=by simp [hr]
@[go_sem] theorem hr_take (l:List Hash) (n:Nat):(hr l).take n=hr (l.take n):=by simp [hr,List.map_take]
@[go_sem] theorem hr_drop (l:List Hash) (n:Nat):(hr l).drop n=hr (l.drop n):=by simp [hr,List.map_drop]
@[go_sem] theorem hr_set (l:List Hash) (i:Nat) (h:Hash):(hr l).set i (hc h)=hr (l.set i h):=by simp [hr,List.map_set]
theorem hr_app(a b:List Hash):hr (a++b)=hr a++hr b:=by simp [hr]
theorem zjg:hr []=[]:=rfl
theorem z9e(h:Hash)(l:List Hash):hr (h::l)=hc h::hr l:=rfl
theorem hr_nil_iff{l:List Hash}:hr l=[] ↔ l=[]:=by simp [hr]
def zeroH:Hash:=⟨List.replicate 32 0,by simp⟩
def hd(l:List Hash)(i:Nat):Hash:=l.getD i zeroH
@[go_sem] theorem zbd {l:List Hash} {i:Nat} (h:i<l.length):(hr l)[i]? =some (hc (hd l i)):=by
 simp [hr,hd,List.getElem?_map,List.getElem?_eq_getElem h]
theorem z9b{l:List Hash}{i:Nat}(h:i<l.length):hd l i=l[i]:=by simp [hd,h]
theorem z7m{k:Nat}(h:Hash):RLs k (hc h):=z3q _
theorem z3x{k:Nat}(l:List Hash):RLss k (hr l):=by rw [<-ze1];exact zfd _
theorem zfr(k:Nat)(h:Hash):shs k (hc h)=hc h:=zfq k _
def z16(a b:Hash):Hash:=⟨z42 a.1 b.1,zeh _ _⟩
def z11(l:List Hash):Hash:=⟨z27 (hb l),z9s (hb_H l)⟩
def shaH(s:List UInt8):Hash:=⟨shaS s,zfp s⟩
theorem zlp(h:Hash):z11 [h]=h:=rfl
theorem zfe{l:List Hash}(h:2<=l.length):z11 l=z16 (z11 (l.take (z1h l.length))) (z11 (l.drop (z1h l.length))):=by
 apply Subtype.ext
 show z27 (hb l)=z42 (z27 (hb _)) (z27 (hb _))
 rw [<-zry,<-zrx]
 have:=zff (l:=hb l) (by rw [zdw];exact h)
 rwa [zdw]at this
theorem zmz(O:Store)(a b:Hash):ACallsTo TC 91 [.agg (hc a),.agg (hc b)] O (.agg (hc (z16 a b))) O:=zgi O a.1 b.1 a.2 b.2
theorem zgj(O:Store)(l:List Hash)(x:AV)(hx:RdSl O 32 (hr l) x)(hl:l.length<1000000000):ACallsTo TC 42 [x] O (.agg (hc (z11 l))) O:=
 z14t O (hb l) x (by rw [ze1];exact hx) (hb_H l) (by rw [zdw];exact hl)
theorem zrw{cs:List AV}(h:ShC z7e cs):∃l:Hash,cs=hc l:=by
 obtain⟨l,rfl,hl⟩:=zja h
 exact⟨⟨l,hl⟩,rfl⟩
end
section
def pushR:Nat->List Hash->Hash->List Hash
 | _,[],h=>[h]
 |m,x::rs,h=>if m%2=1 then pushR (m/2) rs (z16 x h)else h::x::rs
def extR:Nat->List Hash->List Hash->List Hash
 | _,rs,[]=>rs
 |n,rs,x::l=>extR (n+1) (pushR n rs x) l
def ofR(l:List Hash):List Hash:=extR 0 [] l
theorem zch(j:Nat):z1h (2^(j+1))=2^j:=by
 have:0<2^j:=Nat.pow_pos (by decide)
 exact zmp (by rw [Nat.pow_succ];omega) (Nat.le_refl _)
def rootR:List Hash->Hash
 | []=>shaH []
 |x::rs=>rs.foldl (fun o h=>z16 h o) x
end
section

end
section
set_option maxRecDepth 10000
def qjr0:yW:=[
 yI 2 (.mv (.v .nilsl))]
def qjr1:yW:=[
 yM 3 0,
 yI 4 (.bin .eql .slc (.t 3) (.v .nilsl))]
def qjr2:yW:=[
 yI 2 (.mv (.v .nilsl))]
def qjc3:yX:=yq qjr2 .ret
def qjc4:yX:=.cond (.t 4) qjc3 .skip
def qjc5:yX:=yq qjr1 qjc4
def qjr6:yW:=[
 yI 5 (.lit 32 []),
 yM 6 0,
 yI 7 (.app 32 (.t 5) (.t 6)),
 yM 2 7]
def qjc7:yX:=yq qjr6 .ret
def qjc8:yX:=.seq qjc5 qjc7
def qjc9:yX:=yq qjr0 qjc8
attribute [go_sem] qjr0 qjr1 qjr2 qjr6
theorem qjok:cFn TC 105=some (8,[.t 2],qjc9):=by kernel_rfl
end
section
theorem ACallsP.toDown{C:Ctx}{f:FuncId}{args:List AV}{O O2:Store}{v2:AV}{P:AV->Store->Prop}(h:ACallsP C f args O P)
  (hd:Wf O.length O->∀v O',P v O'->DownV O.length v O' v2 O2):ACallsTo C f args O v2 O2:=by
 intro Z w cargs hR ha
 rcases h Z w cargs hR ha with⟨h1,h2⟩| ⟨cv,v,Z',O',w',h1,hp,h2,h3,h4⟩
 ·refine .inl ⟨h1,h2.mono ?_⟩
  rintro e w' ⟨cv,v,Z',O',rfl,hp,k1,k2,k3⟩
  obtain⟨Z2,q1,q2,q3⟩:=(hd hR.wf v O' hp).sound k2 k3 k1 hR.gl (by rw [hR.len];exact Nat.le_refl _)
  exact⟨cv,Z2,rfl,q1,q2,q3⟩
 ·obtain⟨Z2,q1,q2,q3⟩:=(hd hR.wf v O' hp).sound h3 h4 h2 hR.gl (by rw [hR.len];exact Nat.le_refl _)
  exact .inr ⟨cv,Z2,w',h1,q1,q2,q3⟩
theorem slen{O:Store}{r:Nat}{x:Option AObj}(h:O[r]? =some x):r<O.length:=(List.getElem?_eq_some_iff.1 h).1
def FrzD(τ news:Store):DC:=z2m τ news [] id (fun _=>true)
theorem DownV.all{τ news:Store}{v v2:AV}(hw:Wf τ.length τ)(h:DR (FrzD τ news) v2 v):DownV τ.length v (τ++news) v2 τ:=
 ⟨FrzD τ news,rfl,by show DownS τ.length (z2m τ news [] id (fun _=>true)) τ;simpa using zbf (kept:=[]) (idx:=id) (fzl:=fun _=>true) (news:=news) hw (by simp) (by simp) (by simp) (by simp),h⟩
theorem FrzD.same{τ news:Store}{v:AV}(h:RL τ.length v):DR (FrzD τ news) v v:=DR.refl (z7g _ _ _) v h
theorem FrzD.sl{τ news:Store}{r off:Nat}{lim:Option Nat}{esz:Nat}{o es:AObj}(hk:τ.length<=r)(ho:(τ++news)[r]? =some (some o))(hl:off+es.length<=o.length)(he:(o.drop off).take es.length=es)(hr:RLss τ.length es):
  DR (FrzD τ news) (.vsl esz es false) (.sl r off es.length lim esz):=by
 simp only [DR,FrzD,z2m]
 right
 left
 exact⟨r,off,lim,o,rfl,by simpa using hk,ho,hl,by simp,by rw [he];exact DRss.refl (z7g [] id (fun _=>true)) _ hr⟩
theorem drA{D:DC}{a b:List AV}(h:DRs D a b):DR D (.agg a) (.agg b):=by simp only [DR];exact⟨b,rfl,h⟩
theorem drT{D:DC}{a b:List AV}(h:DRs D a b):DR D (.tup a) (.tup b):=by simp only [DR];exact⟨b,rfl,h⟩
theorem OwnN.frz{sz:Nat}{τ news:Store}{v:AV}{es:List (List AV)}(h:OwnN sz τ (τ++news) v es)(hr:RLss τ.length es):DR (FrzD τ news) (zz sz es) v:=by
 by_cases h0:es=[]
 ·obtain⟨n2,_,⟨rfl,rfl⟩| ⟨j,h1,_⟩⟩:=h
  ·simp [zz,DR]
  ·exact absurd h0 h1
 ·obtain⟨r,rfl,hg,hk⟩:=h.sl h0
  unfold zz
  rw [if_neg h0]
  exact FrzD.sl hk hg (by omega) (by simp) hr
def lkp:List (Nat × AV)->Env
 | [],_=> .any
 |(a,v)::l,t=>bif t==a then v else lkp l t
@[go_sem] theorem lkp_cons {a t:Nat} {v:AV} {l:List (Nat × AV)}:lkp ((a,v)::l) t=bif t==a then v else lkp l t:=rfl
def OwnE(sz:Nat)(τ O':Store)(v:AV)(es:List (List AV)):Prop:=OwnN sz τ O' v es \/(es=[]/\ v=.vsl sz [] true/\ ∃news,O'=τ++news)
theorem OwnE.ext{sz:Nat}{τ O':Store}{v:AV}{es:List (List AV)}(h:OwnE sz τ O' v es):∃news,O'=τ++news:=by
 rcases h with h| ⟨_,_,h⟩
 ·exact h.ext
 ·exact h
theorem OwnE.rd{sz:Nat}{τ O':Store}{v:AV}{es:List (List AV)}(h:OwnE sz τ O' v es):RdSl O' sz es v:=by
 rcases h with h| ⟨rfl,rfl,_⟩
 ·exact h.rd
 ·exact .inl (.inr ⟨true,rfl⟩)
theorem OwnE.len{sz:Nat}{τ O':Store}{v:AV}{es:List (List AV)}(h:OwnE sz τ O' v es):z1k v=some (.int .i64 es.length):=h.rd.len
theorem OwnE.app{sz:Nat}{τ O':Store}{v:AV}{es ys:List (List AV)}(h:OwnE sz τ O' v es)(h0:ys.length ≠ 0)(hl:es.length+ys.length<=1073741824):
  ∃v' O'',aApp O' sz v ys=some (v',O'')/\ OwnN sz τ O'' v' (es++ys):=by
 rcases h with h| ⟨rfl,rfl,news,rfl⟩
 ·exact h.app h0 hl
 ·refine⟨.sl (τ++news).length 0 ys.length none sz,(τ++news)++ [some ys],by rw [z8w,if_neg h0,if_pos ⟨rfl,rfl,hl⟩];simp,news++ [some ys],by rw [List.append_assoc],.inr ⟨news.length,?_,by simp,by rw [List.getElem?_append_right (Nat.le_refl _)];simp⟩⟩
  intro e;exact h0 (by rw [(List.append_eq_nil_iff.1 e).2];rfl)
theorem RdSl.elems{O:Store}{sz:Nat}{es:List (List AV)}{x:AV}(h:RdSl O sz es x):z1s O x=some es:=by
 rcases h with(⟨rfl,rfl⟩| ⟨ex,rfl⟩)| ⟨r,off,lim,o,rfl,hg,h1,h2⟩
 ·rfl
 ·rfl
 ·rw [zfu,hg];simp only;rw [if_pos h1,h2]
theorem znh(O:Store)(l:List Hash)(x:AV)(hx:RdSl O 32 (hr l) x)(hl:l.length<1000000):
  ACallsP TC 105 [x] O (fun v O'=>OwnE 32 O O' v (hr l)/\ (x=.nilsl ↔ v=.nilsl)):=by
 rcases hx with(⟨rfl,hnil⟩| ⟨ex,rfl⟩)| ⟨r,off,lim,o,rfl,hg,h1,h2⟩
 ·refine ACallsTo.toP (v:=.nilsl) (O':=O) ?_ ⟨.inl ⟨[],by simp,.inl ⟨hnil,rfl⟩⟩,Iff.rfl⟩
  refine ACallsTo.of_body qjok (by simp) fun hw _=> ?_
  repeat' (first|apply zs_|apply zb_|apply zc_|apply zt_ rfl|apply zf_ rfl|(apply zd_ rfl<;>intro ht<;>try omega)|((first|apply zr_|apply zk_|apply ze_|apply zq_|(apply zG<;>intro ht));all_goals try simp (disch:=first|omega|(simp only [lens];first|done|omega)) only [go_sem]))
  exact DownV.same hw (z1d _ rfl)
 ·by_cases h0:l=[]
  ·subst h0
   refine ACallsTo.toP (v:=.vsl 32 [] true) (O':=O) ?_ ⟨.inr ⟨rfl,rfl,[],by simp⟩,by simp⟩
   refine ACallsTo.of_body qjok (by simp) fun hw _=> ?_
   rw [zjg]
   repeat' (first|apply zs_|apply zb_|apply zc_|apply zt_ rfl|apply zf_ rfl|(apply zd_ rfl<;>intro ht<;>try omega)|((first|apply zr_|apply zk_|apply ze_|apply zq_|(apply zG<;>intro ht));all_goals try simp (disch:=first|omega|(simp only [lens];first|done|omega)) only [go_sem]))
   exact DownV.same hw (z1d _ rfl)
  ·have hne:¬l.length=0:=fun e=>h0 (List.eq_nil_of_length_eq_zero e)
   refine ACallsP.of_keep qjok (by simp) ?_
   repeat' (first|apply zs_|apply zb_|apply zc_|apply zt_ rfl|apply zf_ rfl|(apply zd_ rfl<;>intro ht<;>try omega)|((first|apply zr_|apply zk_|apply ze_|apply zq_|(apply zG<;>intro ht));all_goals try simp (disch:=first|omega|(simp only [lens];first|done|omega)) only [go_sem,hne,z8w]))
   refine .inl ⟨[some (hr l)],by simp,.inr ⟨0,by rw [Ne,hr_nil_iff];exact h0,?_,by simp⟩⟩
   simp [zi]
 ·have hrl:=zi l
  by_cases h0:l=[]
  ·subst h0
   refine ACallsTo.toP (v:=.vsl 32 [] true) (O':=O) ?_ ⟨.inr ⟨rfl,rfl,[],by simp⟩,by simp⟩
   refine ACallsTo.of_body qjok (by simp) fun hw _=> ?_
   rw [zjg]at*
   repeat' (first|apply zs_|apply zb_|apply zc_|apply zt_ rfl|apply zf_ rfl|(apply zd_ rfl<;>intro ht<;>try omega)|((first|apply zr_|apply zk_|apply ze_|apply zq_|(apply zG<;>intro ht));all_goals try simp (disch:=first|omega|(simp only [lens];first|done|omega)) only [go_sem,hg,zfu,h1,h2]))
   exact DownV.same hw (z1d _ rfl)
  ·have hne:¬l.length=0:=fun e=>h0 (List.eq_nil_of_length_eq_zero e)
   rw [hrl]at h1 h2
   refine ACallsP.of_keep qjok (by simp) ?_
   repeat' (first|apply zs_|apply zb_|apply zc_|apply zt_ rfl|apply zf_ rfl|(apply zd_ rfl<;>intro ht<;>try omega)|((first|apply zr_|apply zk_|apply ze_|apply zq_|(apply zG<;>intro ht));all_goals try simp (disch:=first|omega|(simp only [lens];first|done|omega)) only [go_sem,hg,hne,z8w,zfu,h1,h2]))
   refine .inl ⟨[some (hr l)],by simp,.inr ⟨0,by rw [Ne,hr_nil_iff];exact h0,?_,by simp⟩⟩
   simp [zi]
end
section
theorem z9x{l:List Hash}{i:Nat}(h:i<l.length):l.take (i+1)=l.take i++ [hd l i]:=by
 rw [z9b h];exact(List.take_append_getElem h).symm
end
section
def Ext(O O':Store):Prop:=∃news,O'=O++news
theorem Ext.refl(O:Store):Ext O O:=⟨[],by simp⟩
theorem Ext.app{O O' y:Store}(h:Ext O O'):Ext O (O'++y):=by
 obtain⟨n,rfl⟩:=h
 exact⟨n++y,by rw [List.append_assoc]⟩
theorem Ext.set{O O':Store}{r:Nat}{x:Option AObj}(h:Ext O O')(hr:O.length<=r):Ext O (O'.set r x):=by
 obtain⟨n,rfl⟩:=h
 exact⟨n.set (r-O.length) x,List.set_append_right _ _ hr⟩
theorem Ext.trans{O O' O'':Store}(h:Ext O O')(h':Ext O' O''):Ext O O'':=by
 obtain⟨n,rfl⟩:=h
 obtain⟨m,rfl⟩:=h'
 exact⟨n++m,by rw [List.append_assoc]⟩
theorem Ext.le{O O':Store}(h:Ext O O'):O.length<=O'.length:=by
 obtain⟨n,rfl⟩:=h;simp
theorem zW.once{C:Ctx}{n k:Nat}{Q:AExit->Env->Store->Prop}{J:Env}{O:Store}{x:ACode}(h:zW C n k x (z2w (fun _ _=>False) Q) J O):zW C n k (.loop x) Q J O:=
 zW.loop (fun _ J' O'=>J'=J/\ O'=O) 0 ⟨rfl,rfl⟩ (by
  rintro m _ _ ⟨rfl,rfl⟩
  refine h.mono fun e J O h=> ?_
  cases e
  ·exact h.elim
  ·exact h
  ·exact h)
end
section
def knil(es:List (List AV)):AV->AV
 | .nilsl=> .nilsl
 | _=> .vsl 32 es false
theorem zjv{es:List (List AV)}{x:AV}(h:x ≠ .nilsl):knil es x=.vsl 32 es false:=by
 cases x<;>first|rfl|exact absurd rfl h
theorem zyq{k:Nat}(l:List Hash)(x:AV):RL k (knil (hr l) x):=by
 by_cases h:x=.nilsl
 ·subst h;simp [knil,RL]
 ·rw [zjv h];simp only [RL];exact z3x _
theorem zgs(O:Store)(l:List Hash)(x:AV)(hx:RdSl O 32 (hr l) x)(hl:l.length<1000000):
  ACallsTo TC 105 [x] O (knil (hr l) x) O:=by
 refine ACallsP.toDown (znh O l x hx hl) fun hw v O' h=> ?_
 obtain⟨h,hn⟩:=h
 obtain⟨y,rfl⟩:=h.ext
 refine DownV.all hw ?_
 by_cases h0:x=.nilsl
 ·rw [hn.1 h0,h0];simp [knil,DR]
 ·have hv:v ≠ .nilsl:=fun e=>h0 (hn.2 e)
  rw [zjv h0]
  rcases h with h| ⟨h1,rfl,_⟩
  ·have h2:=h.frz (z3x l)
   unfold zz at h2
   split at h2
   ·simp only [DR]at h2;exact absurd h2 hv
   ·exact h2
  ·rw [h1]
   simp only [DR]
   exact .inl ⟨_,_,rfl,by simp,by simp [DRss]⟩
theorem Ext.pure{O O':Store}{v:AV}(hw:Wf O.length O)(h:Ext O O')(hv:RL O.length v):DownV O.length v O' v O:=by
 obtain⟨n,rfl⟩:=h
 exact DownV.pure hw hv
def zv(x:AV)(first:Bool)(l:List Hash):AV:=if first then knil (hr l) x else .vsl 32 (hr l) false
def rg(n:Int)(z:AV)(e:Int):AV:=.tup [.agg [.int .i64 n,z],.int .i64 e]
attribute [local irreducible] ACallsTo ACallsP
end
section
def zej:Nat->List AV:=fun n=>[.int .i64 n]
def nums(l:List (Nat)):List (List AV):=l.map zej
@[go_sem] theorem nums_len (l:List (Nat)):(nums l).length=l.length:=by simp [nums]
@[go_sem] theorem nums_take (l:List (Nat)) (n:Nat):(nums l).take n=nums (l.take n):=by simp [nums,List.map_take]
@[go_sem] theorem nums_drop (l:List (Nat)) (n:Nat):(nums l).drop n=nums (l.drop n):=by simp [nums,List.map_drop]
@[go_sem] theorem nums_set (l:List (Nat)) (i:Nat) (x:Nat):(nums l).set i (zej x)=nums (l.set i x):=by simp [nums,List.map_set]
def numsD(l:List (Nat))(i:Nat):Nat:=l.getD i 0
@[go_sem] theorem nums_get {l:List (Nat)} {i:Nat} (h:i<l.length):(nums l)[i]? =some (zej (numsD l i)):=by
 simp [nums,numsD,List.getElem?_map,List.getElem?_eq_getElem h]
def trsR:Nat × Hash->List AV:=fun t=> .int .i64 t.1::hc t.2
def trs(l:List (Nat × Hash)):List (List AV):=l.map trsR
@[go_sem] theorem trs_len (l:List (Nat × Hash)):(trs l).length=l.length:=by simp [trs]
@[go_sem] theorem trs_take (l:List (Nat × Hash)) (n:Nat):(trs l).take n=trs (l.take n):=by simp [trs,List.map_take]
@[go_sem] theorem trs_drop (l:List (Nat × Hash)) (n:Nat):(trs l).drop n=trs (l.drop n):=by simp [trs,List.map_drop]
@[go_sem] theorem trs_set (l:List (Nat × Hash)) (i:Nat) (x:Nat × Hash):(trs l).set i (trsR x)=trs (l.set i x):=by simp [trs,List.map_set]
def trsD(l:List (Nat × Hash))(i:Nat):Nat × Hash:=l.getD i (0,zeroH)
@[go_sem] theorem trs_get {l:List (Nat × Hash)} {i:Nat} (h:i<l.length):(trs l)[i]? =some (trsR (trsD l i)):=by
 simp [trs,trsD,List.getElem?_map,List.getElem?_eq_getElem h]
theorem RdSl.frz{sz:Nat}{τ news:Store}{v:AV}{es:List (List AV)}(h:RdSl (τ++news) sz es v)(hn:∀r off len lim e,v=.sl r off len lim e->τ.length<=r)(hr:RLss τ.length es):∃v2,SlV sz es v2/\ DR (FrzD τ news) v2 v:=by
 rcases h with(⟨rfl,rfl⟩| ⟨ex,rfl⟩)| ⟨r,off,lim,o,rfl,hg,h1,h2⟩
 ·exact⟨.nilsl,.inl ⟨rfl,rfl⟩,by simp [DR]⟩
 ·exact⟨.vsl sz es ex,.inr ⟨ex,rfl⟩,FrzD.same (by simpa only [RL]using hr)⟩
 ·exact⟨.vsl sz es false,.inr ⟨false,rfl⟩,FrzD.sl (hn _ _ _ _ _ rfl) hg h1 h2 hr⟩
theorem Ext.all{O O':Store}{v v2:AV}(hw:Wf O.length O)(he:Ext O O')(h:∀news,O'=O++news->DR (FrzD O news) v2 v):DownV O.length v O' v2 O:=by
 obtain⟨news,rfl⟩:=he
 exact DownV.all hw (h news rfl)
def OwnR(sz k:Nat)(O':Store)(v:AV)(es:List (List AV)):Prop:=(es=[]/\ v=.nilsl) \/ ∃r,k<=r/\ es ≠ []/\ v=.sl r 0 es.length none sz/\ O'[r]? =some (some es)
theorem OwnR.nil{sz k:Nat}{O':Store}:OwnR sz k O' .nilsl []:=.inl ⟨rfl,rfl⟩
theorem OwnR.cells{sz k:Nat}{O':Store}{v:AV}{es:List (List AV)}(h:OwnR sz k O' v es):cellsOf v=some [v]:=by
 rcases h with⟨_,rfl⟩| ⟨r,_,_,rfl,_⟩<;>rfl
theorem OwnR.rd{sz k:Nat}{O':Store}{v:AV}{es:List (List AV)}(h:OwnR sz k O' v es):RdSl O' sz es v:=by
 rcases h with⟨h,rfl⟩| ⟨r,_,_,rfl,hg⟩
 ·exact .inl (.inl ⟨rfl,h⟩)
 ·exact .inr ⟨r,0,none,es,rfl,hg,by omega,by simp⟩
theorem OwnR.len{sz k:Nat}{O':Store}{v:AV}{es:List (List AV)}(h:OwnR sz k O' v es):z1k v=some (.int .i64 es.length):=h.rd.len
theorem OwnR.set{sz k q:Nat}{O':Store}{v:AV}{es:List (List AV)}{x:Option AObj}(h:OwnR sz k O' v es)(hq:q<k):OwnR sz k (O'.set q x) v es:=by
 rcases h with h| ⟨r,h1,h2,h3,h4⟩
 ·exact .inl h
 ·exact .inr ⟨r,h1,h2,h3,by rw [z1e (by omega)];exact h4⟩
theorem OwnR.more{sz k:Nat}{O' y:Store}{v:AV}{es:List (List AV)}(h:OwnR sz k O' v es):OwnR sz k (O'++y) v es:=by
 rcases h with h| ⟨r,h1,h2,h3,h4⟩
 ·exact .inl h
 ·exact .inr ⟨r,h1,h2,h3,by rw [gapp (slen h4)];exact h4⟩
theorem OwnR.app{sz k:Nat}{O':Store}{v:AV}{es ys:List (List AV)}(h:OwnR sz k O' v es)(hk:k<=O'.length)(h0:ys.length ≠ 0)(hl:es.length+ys.length<=1073741824):
  ∃v' O2,aApp O' sz v ys=some (v',O2)/\ OwnR sz k O2 v' (es++ys)/\ (∀q,q<k->O2[q]? =O'[q]?)/\ (∀O:Store,O.length<=k->Ext O O'->Ext O O2)/\ k<=O2.length:=by
 have hne:es++ys ≠ []:=fun e=>h0 (by rw [(List.append_eq_nil_iff.1 e).2];rfl)
 rcases h with⟨rfl,rfl⟩| ⟨r,h1,h2,rfl,hg⟩
 ·refine⟨.sl O'.length 0 ys.length none sz,O'++ [some ys],by rw [zd0,if_neg h0,if_pos (by simpa using hl)],.inr ⟨O'.length,hk,hne,by simp,by simp⟩,fun q hq=>gapp (by omega),fun O _ he=>he.app,by simp;omega⟩
 ·have hr:=slen hg
  refine⟨.sl O'.length 0 (es.length+ys.length) none sz,O'.set r none++ [some (es++ys)],?_,.inr ⟨O'.length,hk,hne,by simp,by rw [z19 (by simp)];simp⟩,fun q hq=>by rw [gapp (by simp;omega),z1e (by omega)],fun O hs he=>(he.set (by omega)).app,by simp;omega⟩
  rw [zd1,if_neg h0,hg]
  simp only
  rw [if_pos ⟨trivial,by omega,by omega⟩,if_neg (by omega),List.drop_zero,List.take_of_length_le (Nat.le_refl _)]
theorem OwnR.frz{sz k:Nat}{τ news:Store}{v:AV}{es:List (List AV)}(h:OwnR sz k (τ++news) v es)(hk:τ.length<=k)(hr:RLss τ.length es):DR (FrzD τ news) (zz sz es) v:=by
 unfold zz
 rcases h with⟨rfl,rfl⟩| ⟨r,h1,h2,rfl,hg⟩
 ·simp [DR]
 ·rw [if_neg h2]
  exact FrzD.sl (by omega) hg (by omega) (by simp) hr
theorem OwnR.fr{sz k:Nat}{τ O' news:Store}{v:AV}{es:List (List AV)}(h:OwnR sz k O' v es)(e:O'=τ++news)(hk:τ.length<=k)(hr:RLss τ.length es):DR (FrzD τ news) (zz sz es) v:=by
 subst e;exact h.frz hk hr
end
section
attribute [local irreducible] ACallsTo ACallsP
theorem OwnN.base{sz:Nat}{τ y O':Store}{v:AV}{es:List (List AV)}(h:OwnN sz (τ++y) O' v es):OwnN sz τ O' v es:=by
 obtain⟨news,rfl,h⟩:=h
 refine⟨y++news,by rw [List.append_assoc],?_⟩
 rcases h with h| ⟨j,h0,rfl,hj⟩
 ·exact .inl h
 ·exact .inr ⟨y.length+j,h0,by rw [List.length_append];congr 1;omega,by rw [List.getElem?_append_right (by omega),Nat.add_sub_cancel_left];exact hj⟩
def hss(T:List (Nat × Hash)):List Hash:=T.map (·.2)
end
section
attribute [local irreducible] ACallsTo ACallsP
theorem zln{k sz:Nat}{es:List (List AV)}(h:RLss k es):RL k (zz sz es):=by
 unfold zz
 split
 ·simp [RL]
 ·simpa only [RL]using h
theorem zzs{sz:Nat}{es:List (List AV)}{O:Store}:RdSl O sz es (zz sz es):=.of (z1y sz es)
end
section
attribute [local irreducible] ACallsTo ACallsP
theorem zzr{sz:Nat}{es:List (List AV)}:cellsOf (zz sz es)=some [zz sz es]:=by
 unfold zz;split<;>rfl
end
section
attribute [local irreducible] ACallsTo ACallsP
end
section
attribute [local irreducible] ACallsTo ACallsP
theorem zzv{sz:Nat}{es:List (List AV)}{z:AV}(h:SlV sz es z):cellsOf z=some [z]:=by
 rcases h with⟨rfl,_⟩| ⟨ex,rfl⟩<;>rfl
end
section
theorem zlq(a b:Hash):z11 [a,b]=z16 a b:=by
 rw [zfe (by simp)];simp [split2,zlp]
theorem zlr(a b c d:Hash):z11 [a,b,c,d]=z16 (z16 a b) (z16 c d):=by
 rw [zfe (by simp)];simp [split4,zlq]
attribute [local irreducible] ACallsTo ACallsP
end
section
attribute [local irreducible] ACallsTo ACallsP
theorem hslC_h{cs:List AV}(h:ShC (.sl 32 z7e) cs):∃(l:List Hash) (a:AV),cs=[a]/\ SlV 32 (hr l) a/\ l.length<=maxLen:=by
 simp only [ShC]at h
 rcases h with rfl| ⟨es,rfl,hl,_,h2⟩
 ·exact⟨[],.nilsl,rfl,.inl ⟨rfl,rfl⟩,Nat.zero_le _⟩
 ·obtain⟨hs,rfl,hH⟩:=zjb es h2
  obtain⟨m,rfl⟩:=hb_of hH
  rw [ze1]at*
  exact⟨m,_,rfl,.inr ⟨false,rfl⟩,by rwa [zi]at hl⟩
end
section
attribute [local irreducible] ACallsTo ACallsP
end
section
attribute [local irreducible] ACallsTo ACallsP
end
section
attribute [local irreducible] ACallsTo ACallsP
end
section
attribute [local irreducible] ACallsTo ACallsP
end
section
attribute [local irreducible] ACallsTo ACallsP
end
section
attribute [local irreducible] ACallsTo ACallsP
end
section

end
section

end
section

end
section

end
section
def chkH(m n:Int)(o nw:Hash)(ps:List Hash):Int:=chkI m n o.1 nw.1 (hb ps)
end
section
attribute [local irreducible] ACallsTo ACallsP
end
section
set_option maxRecDepth 10000
def qkr0:yW:=[
 yK 2 .u64 0,
 yI 3 (.mv (.v (.str []))),
 yI 4 (.mv (.v (.bool false)))]
def qkr1:yW:=[
 yM 7 0,
 yI 8 (.lenStr (.t 7)),
 yK 9 .i64 0]
def qkr2:yW:=[
 yB 10 .lss 9 8]
def qkr3:yW:=[
 yM 11 9,
 yM 5 11]
def qkr4:yW:=[
 yM 12 0,
 yM 13 5,
 yI 14 (.ixStr (.t 12) (.t 13)),
 yM 6 14]
def qkr5:yW:=[
 yM 15 2,
 yJ 16 .eql 15 .u64 0,
 yM 17 16,
 yV 18 17 true 6,
 yG 19 17 true (.bin .eql .none (.t 18) (.v (.int .u8 128))),
 yQ 20 17 19,
 yM 21 20,
 yV 22 21 false 2,
 yG 23 21 false (.bin .geq .none (.t 22) (.v (.int .u64 144115188075855872))),
 yP 24 21 23]
def qkc6:yX:=.cond (.t 24) (.exit 0) .skip
def qkc7:yX:=yq qkr5 qkc6
def qkr8:yW:=[
 yM 25 2,
 yJ 26 .shl 25 .u64 7,
 yM 27 6,
 yJ 28 .and 27 .u8 127,
 yI 29 (.conv (.int .u64) (.t 28)),
 yB 30 .or 26 29,
 yM 2 30]
def qkr9:yW:=[
 yM 31 6,
 yJ 32 .lss 31 .u8 128]
def qkr10:yW:=[
 yM 33 2,
 yM 34 0,
 yM 35 5,
 yJ 36 .add 35 .i64 1,
 yI 37 (.slice .str (.t 34) (some (.t 36)) none none),
 yM 2 33,
 yM 3 37,
 yI 4 (.mv (.v (.bool true)))]
def qkc11:yX:=yq qkr10 .ret
def qkc12:yX:=.cond (.t 32) qkc11 .skip
def qkc13:yX:=yq qkr9 qkc12
def qkc14:yX:=yq qkr8 qkc13
def qkc15:yX:=.seq qkc7 qkc14
def qkc16:yX:=yq qkr4 qkc15
def qkc17:yX:=yq qkr3 qkc16
def qkr18:yW:=[
 yJ 38 .add 9 .i64 1,
 yM 9 38]
def qkc19:yX:=.seq (.block 1 qkc17) (.reg qkr18)
def qkc20:yX:=.seq (.cond (.t 10) .skip (.exit 0)) qkc19
def qkc21:yX:=yq qkr2 qkc20
def qkc22:yX:=.loop qkc21
def qkc23:yX:=.block 0 qkc22
def qkc24:yX:=yq qkr1 qkc23
def qkr25:yW:=[
 yK 2 .u64 0,
 yI 3 (.mv (.v (.str []))),
 yI 4 (.mv (.v (.bool false)))]
def qkc26:yX:=yq qkr25 .ret
def qkc27:yX:=.seq qkc24 qkc26
def qkc28:yX:=yq qkr0 qkc27
attribute [go_sem] qkr0 qkr1 qkr2 qkr3 qkr4 qkr5 qkr8 qkr9 qkr10 qkr18 qkr25
theorem qkok:cFn TC 145=some (39,[.t 2,.t 3,.t 4],qkc28):=by kernel_rfl
def qlr0:yW:=[
 yI 2 (.alloc zZ0),
 yI 3 (.mv (.v (.str []))),
 yI 4 (.mv (.v (.bool false)))]
def qlr1:yW:=[
 yM 7 0,
 yI 8 (.call (.v (.fn 161 [])) [(.t 7),(.v (.int .u64 32))]),
 yM 6 8,
 yE 9 0 6,
 yE 10 1 6,
 yE 11 2 6,
 yM 5 9,
 yM 3 10,
 yM 4 11]
def qlr2:yW:=[
 yI 12 (.slice (.arr 32 1) (.t 2) none none none),
 yM 13 5,
 yI 14 (.copy 1 (.t 12) (.t 13))]
def qlr3:yW:=[
 yL 15 true 32 2,
 yM 16 3,
 yM 17 4,
 yS 32 2 15,
 yM 3 16,
 yM 4 17]
def qlc4:yX:=yq qlr3 .ret
def qlc5:yX:=yq qlr2 qlc4
def qlc6:yX:=yq qlr1 qlc5
def qlc7:yX:=yq qlr0 qlc6
attribute [go_sem] qlr0 qlr1 qlr2 qlr3
theorem qlok:cFn TC 146=some (18,[.c 2 true 32,.t 3,.t 4],qlc7):=by kernel_rfl
def qmr0:yW:=[
 yI 2 (.mv (.v (.str []))),
 yI 3 (.mv (.v (.str []))),
 yI 4 (.mv (.v (.bool false)))]
def qmr1:yW:=[
 yM 7 0,
 yC 8 145 7,
 yM 6 8,
 yE 9 0 6,
 yE 10 1 6,
 yE 11 2 6,
 yM 5 9,
 yM 3 10,
 yM 4 11]
def qmr2:yW:=[
 yM 12 4,
 yI 13 (.un .not (.t 12))]
def qmr3:yW:=[
 yI 2 (.mv (.v (.str []))),
 yI 3 (.mv (.v (.str []))),
 yI 4 (.mv (.v (.bool false)))]
def qmc4:yX:=yq qmr3 .ret
def qmc5:yX:=.cond (.t 13) qmc4 .skip
def qmc6:yX:=yq qmr2 qmc5
def qmr7:yW:=[
 yM 14 3,
 yM 15 5,
 yD 16 161 14 15,
 yE 17 0 16,
 yE 18 1 16,
 yE 19 2 16,
 yM 2 17,
 yM 3 18,
 yM 4 19]
def qmc8:yX:=yq qmr7 .ret
def qmc9:yX:=.seq qmc6 qmc8
def qmc10:yX:=yq qmr1 qmc9
def qmc11:yX:=yq qmr0 qmc10
attribute [go_sem] qmr0 qmr1 qmr2 qmr3 qmr7
theorem qmok:cFn TC 143=some (20,[.t 2,.t 3,.t 4],qmc11):=by kernel_rfl
def qnr0:yW:=[
 yI 2 (.mv (.v .nilsl)),
 yI 3 (.mv (.v (.str []))),
 yI 4 (.mv (.v (.bool false)))]
def qnr1:yW:=[
 yM 10 0,
 yC 11 145 10,
 yM 9 11,
 yE 12 0 9,
 yE 13 1 9,
 yE 14 2 9,
 yM 5 12,
 yM 3 13,
 yM 4 14]
def qnr2:yW:=[
 yM 15 4,
 yI 16 (.un .not (.t 15)),
 yM 17 16,
 yV 18 17 false 5,
 yG 19 17 false (.bin .gtr .none (.t 18) (.v (.int .u64 64))),
 yP 20 17 19]
def qnr3:yW:=[
 yI 2 (.mv (.v .nilsl)),
 yI 3 (.mv (.v (.str []))),
 yI 4 (.mv (.v (.bool false)))]
def qnc4:yX:=yq qnr3 .ret
def qnc5:yX:=.cond (.t 20) qnc4 .skip
def qnc6:yX:=yq qnr2 qnc5
def qnr7:yW:=[
 yM 21 5,
 yJ 22 .gtr 21 .u64 0]
def qnc8:yX:=.cond (.t 22) .skip (.exit 0)
def qnc9:yX:=yq qnr7 qnc8
def qnr10:yW:=[
 yM 26 3,
 yC 27 146 26,
 yM 25 27,
 yE 28 0 25,
 yE 29 1 25,
 yE 30 2 25,
 yI 6 (.alloc zZ0),
 yS 32 6 28,
 yM 7 29,
 yM 8 30]
def qnr11:yW:=[
 yM 31 8,
 yI 32 (.un .not (.t 31))]
def qnr12:yW:=[
 yI 2 (.mv (.v .nilsl)),
 yI 3 (.mv (.v (.str []))),
 yI 4 (.mv (.v (.bool false)))]
def qnc13:yX:=yq qnr12 .ret
def qnc14:yX:=.cond (.t 32) qnc13 .skip
def qnc15:yX:=yq qnr11 qnc14
def qnr16:yW:=[
 yM 33 2,
 yL 34 true 32 6,
 yI 35 (.lit 32 [(.t 34)]),
 yI 36 (.app 32 (.t 33) (.t 35)),
 yM 37 7,
 yM 2 36,
 yM 3 37]
def qnc17:yX:=.seq qnc15 (.reg qnr16)
def qnc18:yX:=yq qnr10 qnc17
def qnr19:yW:=[
 yM 23 5,
 yJ 24 .sub 23 .u64 1,
 yM 5 24]
def qnc20:yX:=.seq (.block 1 qnc18) (.reg qnr19)
def qnc21:yX:=.seq qnc9 qnc20
def qnc22:yX:=.loop qnc21
def qnr23:yW:=[
 yM 38 2,
 yM 39 3,
 yM 2 38,
 yM 3 39,
 yI 4 (.mv (.v (.bool true)))]
def qnc24:yX:=yq qnr23 .ret
def qnc25:yX:=.seq (.block 0 qnc22) qnc24
def qnc26:yX:=.seq qnc6 qnc25
def qnc27:yX:=yq qnr1 qnc26
def qnc28:yX:=yq qnr0 qnc27
attribute [go_sem] qnr0 qnr1 qnr2 qnr3 qnr7 qnr10 qnr11 qnr12 qnr16 qnr19 qnr23
theorem qnok:cFn TC 162=some (40,[.t 2,.t 3,.t 4],qnc28):=by kernel_rfl
def qor0:yW:=[
 yI 2 (.mv (.v (.str [])))]
def qor1:yW:=[
 yM 4 0,
 yJ 5 .rem 4 .u64 128,
 yI 6 (.conv (.int .u8) (.t 5)),
 yI 7 (.lit 1 [(.t 6)]),
 yM 3 7]
def qor2:yW:=[
 yM 8 0,
 yJ 9 .quo 8 .u64 128,
 yM 0 9]
def qor3:yW:=[
 yM 10 0,
 yJ 11 .gtr 10 .u64 0]
def qoc4:yX:=.cond (.t 11) .skip (.exit 0)
def qoc5:yX:=yq qor3 qoc4
def qor6:yW:=[
 yM 14 0,
 yJ 15 .rem 14 .u64 128,
 yI 16 (.conv (.int .u8) (.t 15)),
 yJ 17 .or 16 .u8 128,
 yI 18 (.lit 1 [(.t 17)]),
 yM 19 3,
 yI 20 (.appB (.t 18) (.t 19)),
 yM 3 20]
def qor7:yW:=[
 yM 12 0,
 yJ 13 .quo 12 .u64 128,
 yM 0 13]
def qoc8:yX:=.seq (.block 1 (.reg qor6)) (.reg qor7)
def qoc9:yX:=.seq qoc5 qoc8
def qoc10:yX:=.loop qoc9
def qoc11:yX:=.block 0 qoc10
def qoc12:yX:=yq qor2 qoc11
def qor13:yW:=[
 yM 21 3,
 yI 22 (.conv .str (.t 21)),
 yM 2 22]
def qoc14:yX:=yq qor13 .ret
def qoc15:yX:=.seq qoc12 qoc14
def qoc16:yX:=yq qor1 qoc15
def qoc17:yX:=yq qor0 qoc16
attribute [go_sem] qor0 qor1 qor2 qor3 qor6 qor7 qor13
theorem qook:cFn TC 109=some (23,[.t 2],qoc17):=by kernel_rfl
def qpr0:yW:=[
 yI 2 (.mv (.v (.str [])))]
def qpr1:yW:=[
 yM 3 0,
 yI 4 (.lenStr (.t 3)),
 yI 5 (.conv (.int .u64) (.t 4)),
 yC 6 109 5,
 yM 7 0,
 yB 8 .add 6 7,
 yM 2 8]
def qpc2:yX:=yq qpr1 .ret
def qpc3:yX:=yq qpr0 qpc2
attribute [go_sem] qpr0 qpr1
theorem qpok:cFn TC 129=some (9,[.t 2],qpc3):=by kernel_rfl
def qqr0:yW:=[
 yI 2 (.mv (.v (.str [])))]
def qqr1:yW:=[
 yM 6 0,
 yI 7 (.lenSl (.t 6)),
 yJ 8 .gtr 7 .i64 64]
def qqr2:yW:=[
 yI 2 (.mv (.v (.str [])))]
def qqc3:yX:=yq qqr2 .ret
def qqc4:yX:=.cond (.t 8) qqc3 .skip
def qqc5:yX:=yq qqr1 qqc4
def qqr6:yW:=[
 yI 3 (.allB)]
def qqr7:yW:=[
 yM 9 0,
 yI 10 (.lenSl (.t 9)),
 yI 11 (.conv (.int .u64) (.t 10)),
 yC 12 109 11,
 yD 13 83 3 12]
def qqr8:yW:=[
 yM 14 0,
 yI 15 (.lenSl (.t 14)),
 yK 16 .i64 0]
def qqr9:yW:=[
 yB 17 .lss 16 15]
def qqr10:yW:=[
 yI 18 (.iaSl 32 (.t 14) (.t 16)),
 yL 19 true 32 18,
 yI 5 (.alloc zZ0),
 yS 32 5 19]
def qqr11:yW:=[
 yL 20 true 32 5,
 yC 21 84 20,
 yD 22 83 3 21]
def qqc12:yX:=yq qqr10 (.reg qqr11)
def qqr13:yW:=[
 yJ 23 .add 16 .i64 1,
 yM 16 23]
def qqc14:yX:=.seq (.block 1 qqc12) (.reg qqr13)
def qqc15:yX:=.seq (.cond (.t 17) .skip (.exit 0)) qqc14
def qqc16:yX:=yq qqr9 qqc15
def qqc17:yX:=.loop qqc16
def qqc18:yX:=.block 0 qqc17
def qqc19:yX:=yq qqr8 qqc18
def qqr20:yW:=[
 yC 24 86 3,
 yM 2 24]
def qqc21:yX:=yq qqr20 .ret
def qqc22:yX:=.seq qqc19 qqc21
def qqc23:yX:=yq qqr7 qqc22
def qqc24:yX:=yq qqr6 qqc23
def qqc25:yX:=.seq qqc5 qqc24
def qqc26:yX:=yq qqr0 qqc25
attribute [go_sem] qqr0 qqr1 qqr2 qqr6 qqr7 qqr8 qqr9 qqr10 qqr11 qqr13 qqr20
theorem qqok:cFn TC 164=some (25,[.t 2],qqc26):=by kernel_rfl
def qrr0:yW:=[
 yI 4 (.mv (.v (.str []))),
 yI 5 (.mv (.v (.str []))),
 yI 6 (.mv (.v (.bool false)))]
def qrr1:yW:=[
 yM 7 1,
 yM 8 0,
 yI 9 (.lenStr (.t 8)),
 yI 10 (.conv (.int .u64) (.t 9)),
 yB 11 .gtr 7 10]
def qrr2:yW:=[
 yI 4 (.mv (.v (.str []))),
 yI 5 (.mv (.v (.str []))),
 yI 6 (.mv (.v (.bool false)))]
def qrc3:yX:=yq qrr2 .ret
def qrc4:yX:=.cond (.t 11) qrc3 .skip
def qrc5:yX:=yq qrr1 qrc4
def qrr6:yW:=[
 yM 12 0,
 yM 13 1,
 yI 14 (.slice .str (.t 12) none (some (.t 13)) none),
 yM 15 0,
 yM 16 1,
 yI 17 (.slice .str (.t 15) (some (.t 16)) none none),
 yM 4 14,
 yM 5 17,
 yI 6 (.mv (.v (.bool true)))]
def qrc7:yX:=yq qrr6 .ret
def qrc8:yX:=.seq qrc5 qrc7
def qrc9:yX:=yq qrr0 qrc8
attribute [go_sem] qrr0 qrr1 qrr2 qrr6
theorem qrok:cFn TC 161=some (18,[.t 4,.t 5,.t 6],qrc9):=by kernel_rfl
def qsr0:yW:=[
 yI 4 (.mv (.v (.bool false)))]
def qsr1:yW:=[
 yM 5 0,
 yI 6 (.lenStr (.t 5)),
 yM 7 1,
 yI 8 (.lenStr (.t 7)),
 yB 9 .geq 6 8,
 yM 10 9,
 yV 11 10 true 0,
 yV 12 10 true 1,
 yG 13 10 true (.lenStr (.t 12)),
 yG 14 10 true (.slice .str (.t 11) none (some (.t 13)) none),
 yV 15 10 true 1,
 yG 16 10 true (.bin .eql .none (.t 14) (.t 15)),
 yQ 17 10 16,
 yM 4 17]
def qsc2:yX:=yq qsr1 .ret
def qsc3:yX:=yq qsr0 qsc2
attribute [go_sem] qsr0 qsr1
theorem qsok:cFn TC 176=some (18,[.t 4],qsc3):=by kernel_rfl
end
section
def u8(n:Nat):UInt8:=UInt8.ofNat n
theorem z3n{n:Nat}(h:n<256):(u8 n).toNat=n:=by unfold u8;rw [UInt8.toNat_ofNat'];omega
theorem zcl{c:UInt8}{n:Nat}(h:c.toNat=n):u8 n=c:=by rw [<-h];simp [u8]
def z2i:Nat->Nat->List UInt8
 | 0,_=>[]
 |f+1,n=>if n<128 then [u8 (n+128)]else z2i f (n/128)++ [u8 (n%128+128)]
theorem zav(f n:Nat):z2i (f+1) n=if n<128 then [u8 (n+128)]else z2i f (n/128)++ [u8 (n%128+128)]:=rfl
theorem zau:∀(f g n:Nat),n<128^f->n<128^g->0<f->0<g->z2i f n=z2i g n
 | 0,_,_,_,_,h,_=>by omega
 | _+1,0,_,_,_,_,h=>by omega
 |f+1,g+1,n,h,h',_,_=>by
  simp only [z2i]
  by_cases h1:n<128
  ·rw [if_pos h1,if_pos h1]
  ·rw [if_neg h1,if_neg h1]
   rw [Nat.pow_succ]at h h'
   have hf:0<f:=by
    rcases Nat.eq_zero_or_pos f with h0|h0
    ·subst h0;simp at h;omega
    ·exact h0
   have hg:0<g:=by
    rcases Nat.eq_zero_or_pos g with h0|h0
    ·subst h0;simp at h';omega
    ·exact h0
   rw [zau f g (n/128) (by omega) (by omega) hf hg]
def numS(n:Nat):List UInt8:=if n<128 then [u8 n]else z2i 10 (n/128)++ [u8 (n%128)]
def z3j:Nat->List UInt8->Option (Nat × List UInt8)
 | _,[]=>none
 |n,c::s=>if (n=0/\ c.toNat=128) \/144115188075855872<=n then none else if c.toNat<128 then some (128*n+c.toNat%128,s)else z3j (128*n+c.toNat%128) s
def z2k(s:List UInt8):Option (Nat × List UInt8):=z3j 0 s
theorem zlh:∀(s:List UInt8) (m n:Nat) (rest:List UInt8),z3j m s=some (n,rest)->n<18446744073709551616/\ (if m=0 then []else z2i 10 m)++s=numS n++rest
 | [],_,_,_,h=>by simp [z3j]at h
 |c::s,m,n,rest,h=>by
  have hc:=c.toNat_lt
  simp only [z3j]at h
  split at h
  ·cases h
  ·rename_i hcond
   by_cases h1:c.toNat<128
   ·rw [if_pos h1]at h
    simp only [Option.some.injEq,Prod.mk.injEq]at h
    obtain⟨rfl,rfl⟩:=h
    refine⟨by omega,?_⟩
    by_cases h0:m=0
    ·subst h0
     rw [if_pos rfl]
     unfold numS
     rw [if_pos (by omega),zcl (c:=c) (by omega)];rfl
    ·rw [if_neg h0]
     unfold numS
     rw [if_neg (by omega),show (128*m+c.toNat%128)/128=m by omega,show (128*m+c.toNat%128)%128=c.toNat by omega,zcl rfl,List.append_assoc];rfl
   ·rw [if_neg h1]at h
    obtain⟨i1,i2⟩:=zlh s _ n rest h
    refine⟨i1,?_⟩
    have hne:¬128*m+c.toNat%128=0:=by omega
    rw [<-i2,if_neg hne]
    by_cases h0:m=0
    ·subst h0
     rw [if_pos rfl,show (10:Nat)=9+1 from rfl,zav,if_pos (by omega),zcl (c:=c) (by omega)];rfl
    ·rw [if_neg h0]
     have e:z2i 10 (128*m+c.toNat%128)=z2i 9 m++ [c]:=by
      rw [show (10:Nat)=9+1 from rfl,zav,if_neg (by omega),show (128*m+c.toNat%128)/128=m by omega,zcl (c:=c) (by omega)]
     rw [e,zau 9 10 m (by omega) (by omega) (by decide) (by decide),List.append_assoc];rfl
theorem zlg:∀(f m:Nat) (s:List UInt8),0<m->m<128^f->m<18446744073709551616->z3j 0 (z2i f m++s)=z3j m s
 | 0,m,s,h0,h,_=>by simp at h;omega
 |f+1,m,s,h0,h,h64=>by
  simp only [z2i]
  by_cases h1:m<128
  ·rw [if_pos h1]
   simp only [List.cons_append,List.nil_append,z3j]
   rw [z3n (by omega),if_neg (by omega),if_neg (by omega),show 128*0+(m+128)%128=m by omega]
  ·rw [if_neg h1,List.append_assoc]
   rw [Nat.pow_succ]at h
   rw [zlg f (m/128) _ (by omega) (by omega) (by omega)]
   simp only [List.cons_append,List.nil_append,z3j]
   rw [z3n (by omega),if_neg (by omega),if_neg (by omega),show 128*(m/128)+(m%128+128)%128=m by omega]
theorem z7l{n:Nat}(h:n<18446744073709551616)(rest:List UInt8):z2k (numS n++rest)=some (n,rest):=by
 unfold z2k numS
 by_cases h1:n<128
 ·rw [if_pos h1]
  simp only [List.cons_append,List.nil_append,z3j]
  rw [z3n (by omega),if_neg (by omega),if_pos h1,show 128*0+n%128=n by omega]
 ·rw [if_neg h1,List.append_assoc,zlg 10 (n/128) _ (by omega) (by omega) (by omega)]
  simp only [List.cons_append,List.nil_append,z3j]
  rw [z3n (by omega),if_neg (by omega),if_pos (by omega),show 128*(n/128)+n%128%128=n by omega]
theorem zyf{s rest:List UInt8}{n:Nat}(h:z2k s=some (n,rest)):n<18446744073709551616/\ s=numS n++rest:=by
 have:=zlh s 0 n rest h
 rwa [if_pos rfl,List.nil_append]at this
def dval(l:List UInt8):Nat:=l.foldl (fun n b=>128*n+b.toNat%128) 0
theorem zip(l:List UInt8)(b:UInt8):dval (l++ [b])=128*dval l+b.toNat%128:=by simp [dval]
theorem zhi:∀(f n:Nat),0<f->n<128^f->(∀b ∈ z2i f n,128<=b.toNat)/\ (z2i f n).length<=f/\ dval (z2i f n)=n
 | 0,_,h,_=>by omega
 |f+1,n,_,h=>by
  simp only [z2i]
  by_cases h1:n<128
  ·rw [if_pos h1]
   refine⟨fun b hb=> ?_,by simp,?_⟩
   ·simp at hb;subst hb;rw [z3n (by omega)];omega
   ·simp only [dval,List.foldl_cons,List.foldl_nil];rw [z3n (by omega)];omega
  ·rw [if_neg h1]
   rw [Nat.pow_succ]at h
   have hf:0<f:=by
    rcases Nat.eq_zero_or_pos f with h0|h0
    ·subst h0;simp at h;omega
    ·exact h0
   obtain⟨i1,i2,i3⟩:=zhi f (n/128) hf (by omega)
   refine⟨fun b hb=> ?_,by simp;omega,?_⟩
   ·rcases List.mem_append.1 hb with hb|hb
    ·exact i1 b hb
    ·simp at hb;subst hb;rw [z3n (by omega)];omega
   ·rw [zip,i3,z3n (by omega)];omega
theorem zu7{n:Nat}(h:n<18446744073709551616):∃A c,numS n=A++ [c]/\ (∀b ∈ A,128<=b.toNat)/\ c.toNat<128/\ A.length<=9/\ dval (numS n)=n:=by
 unfold numS
 by_cases h1:n<128
 ·rw [if_pos h1]
  refine⟨[],u8 n,rfl,by simp,by rw [z3n (by omega)];exact h1,by simp,?_⟩
  simp only [dval,List.foldl_cons,List.foldl_nil];rw [z3n (by omega)];omega
 ·rw [if_neg h1]
  have e:=zau 10 9 (n/128) (by omega) (by omega) (by decide) (by decide)
  obtain⟨i1,i2,i3⟩:=zhi 9 (n/128) (by decide) (by omega)
  refine⟨z2i 10 (n/128),u8 (n%128),rfl,by rw [e];exact i1,by rw [z3n (by omega)];omega,by rw [e];exact i2,?_⟩
  rw [zip,e,i3,z3n (by omega)];omega
end
section
attribute [local irreducible] ACallsTo ACallsP
theorem or128{n:Nat}(h:n<128):n ||| 128=n+128:=by
 have:=Nat.two_pow_add_eq_or_of_lt (i:=7) (b:=n) h 1
 simp at this
 rw [Nat.or_comm,<-this,Nat.add_comm]
theorem zoz(b:UInt8)(s:List UInt8):zn (b::s)=[.int .u8 b.toNat]::zn s:=by simp [zn,B8]
def preF(m:Nat):List UInt8:=if m=0 then []else z2i 10 m
theorem zvn{m:Nat}(h:0<m)(h2:m<18446744073709551616):preF m=preF (m/128)++ [u8 (m%128+128)]:=by
 unfold preF
 rw [if_neg (by omega),show (10:Nat)=9+1 from rfl,zav]
 by_cases h1:m<128
 ·rw [if_pos h1,if_pos (by omega),show m%128+128=m+128 by omega];rfl
 ·rw [if_neg h1,if_neg (by omega),zau 9 10 (m/128) (by omega) (by omega) (by decide) (by decide)]
theorem zu6(n:Nat):numS n=preF (n/128)++ [u8 (n%128)]:=by
 unfold numS preF
 by_cases h1:n<128
 ·rw [if_pos h1,if_pos (by omega),show n%128=n by omega];rfl
 ·rw [if_neg h1,if_neg (by omega)]
theorem z7a(O:Store)(n:Nat)(h:n<18446744073709551616):ACallsTo TC 109 [.int .u64 n] O (.str (numS n)) O:=by
 refine ACallsTo.of_body qook (by simp) fun hw _=> ?_
 have hb:[[AV.int .u8 ((n:Int)%128)]]=zn [u8 (n%128)]:=by
  have:=z3n (n:=n%128) (by omega)
  simp [zn,B8,this]
 have hd:(n:Int)/128=((n/128:Nat):Int):=by simp
 have hn:=zu6 n
 generalize u8 (n%128)=c0 at*
 repeat' (first|apply zs_|apply zb_|apply zc_|apply zt_ rfl|apply zf_ rfl|(apply zd_ rfl<;>intro ht<;>try omega)|((first|apply zr_|apply zk_|apply ze_|apply zq_|(apply zG<;>intro ht));all_goals try simp (disch:=first|omega|(simp only [lens,z6,zi,lQr,zo];first|done|omega)) only [go_sem,hb,hd]))
 refine zW.loop (fun k J O'=>∃(m:Nat) (b:List UInt8) (v:AV),m<128^k/\ m<18446744073709551616/\ preF m++b=numS n/\ 0<b.length/\ b.length+k<=12/\ Ext O O'/\ (v=.vsl 1 (zn b) true \/ ∃r,O.length<=r/\ v=.sl r 0 b.length none 1/\ O'[r]? =some (some (zn b)))/\ J 0=.int .u64 m/\ J 3=v) 10 ?_ ?_
 ·exact⟨n/128,[c0],_,by omega,by omega,hn.symm,by simp,by simp,Ext.refl _,.inl rfl,by simp (disch:=first|omega|(simp only [lens,z6,zi,lQr,zo];first|done|omega)) only [go_sem],by simp (disch:=first|omega|(simp only [lens,z6,zi,lQr,zo];first|done|omega)) only [go_sem,hb]⟩
 ·rintro k J O' ⟨m,b,v,hmk,hm,hmb,hb0,hbk,he,hv,q0,q3⟩
  by_cases h0:m=0
  ·subst h0
   rw [<-hmb]
   have e0:preF 0++b=b:=rfl
   rw [e0]
   rcases hv with rfl| ⟨r,hr,rfl,hg⟩
   ·repeat' (first|apply zs_|apply zb_|apply zc_|apply zt_ rfl|apply zf_ rfl|(apply zd_ rfl<;>intro ht<;>try omega)|((first|apply zr_|apply zk_|apply ze_|apply zq_|(apply zG<;>intro ht));all_goals try simp (disch:=first|omega|(simp only [lens,z6,zi,lQr,zo];first|done|omega)) only [go_sem,q0,q3]))
    exact Ext.pure hw he (z1d _ rfl)
   ·repeat' (first|apply zs_|apply zb_|apply zc_|apply zt_ rfl|apply zf_ rfl|(apply zd_ rfl<;>intro ht<;>try omega)|((first|apply zr_|apply zk_|apply ze_|apply zq_|(apply zG<;>intro ht));all_goals try simp (disch:=first|omega|(simp only [lens,z6,zi,lQr,zo];first|done|omega)) only [go_sem,q0,q3,hg]))
    exact Ext.pure hw he (z1d _ rfl)
  ·have hst:=zvn (m:=m) (by omega) hm
   have hc8:=z3n (n:=m%128+128) (by omega)
   have hor:((((m:Int)%128).toNat ||| 128:Nat):Int)=(((u8 (m%128+128)).toNat:Nat):Int):=by
    have:((m:Int)%128).toNat=m%128:=by omega
    rw [this,or128 (by omega),hc8]
   have hd2:(m:Int)/128=((m/128:Nat):Int):=by simp
   rw [hst,List.append_assoc]at hmb
   have hkk:∃k',k=k'+1:=by
    cases k with
    |zero=>simp at hmk;omega
    |succ k=>exact⟨k,rfl⟩
   obtain⟨k,rfl⟩:=hkk
   rw [Nat.pow_succ]at hmk
   generalize u8 (m%128+128)=c at*
   have hcat:[AV.int .u8 (c.toNat:Int)]::zn b=zn (c::b):=(zoz c b).symm
   have hlen:(zn b).length=b.length:=zo b
   rcases hv with rfl| ⟨r,hr,rfl,hg⟩
   ·repeat' (first|apply zs_|apply zb_|apply zc_|apply zt_ rfl|apply zf_ rfl|(apply zd_ rfl<;>intro ht<;>try omega)|((first|apply zr_|apply zk_|apply ze_|apply zq_|(apply zG<;>intro ht));all_goals try simp (disch:=first|omega|(simp only [lens,z6,zi,lQr,zo];first|done|omega)) only [go_sem,q0,q3,hor,hd2,hcat]))
    exact⟨k,by omega,m/128,c::b,_,by omega,by omega,hmb,by simp,by simp;omega,he.app,.inr ⟨O'.length,he.le,by simp [Nat.add_comm],by simp⟩,rfl,rfl⟩
   ·repeat' (first|apply zs_|apply zb_|apply zc_|apply zt_ rfl|apply zf_ rfl|(apply zd_ rfl<;>intro ht<;>try omega)|((first|apply zr_|apply zk_|apply ze_|apply zq_|(apply zG<;>intro ht));all_goals try simp (disch:=first|omega|(simp only [lens,z6,zi,lQr,zo];first|done|omega)) only [go_sem,q0,q3,hor,hd2,hcat,hg]))
    exact⟨k,by omega,m/128,c::b,_,by omega,by omega,hmb,by simp,by simp;omega,he.app,.inr ⟨O'.length,he.le,by simp [Nat.add_comm],by simp⟩,rfl,rfl⟩
end
section
attribute [local irreducible] ACallsTo ACallsP
def rdV:Option (Nat × List UInt8)->AV
 |none=> .tup [.int .u64 0,.str [],.bool false]
 |some (n,r)=> .tup [.int .u64 n,.str r,.bool true]
theorem zqi{s:List UInt8}{i:Nat}(h:i<s.length):s.drop i=s.getD i 0::s.drop (i+1):=by
 rw [List.drop_eq_getElem_cons h]
 congr 1
 simp [h]
theorem zzi{n c:Nat}(h:c<128):n*128 |||c=128*n+c:=by
 have:=Nat.two_pow_add_eq_or_of_lt (i:=7) (b:=c) h n
 simp at this
 rw [Nat.mul_comm n 128,this]
theorem z7b(O:Store)(s:List UInt8)(hs:s.length<1000000000):ACallsTo TC 145 [.str s] O (rdV (z2k s)) O:=by
 refine ACallsTo.of_body qkok (by simp) fun hw _=> ?_
 repeat' (first|apply zs_|apply zb_|apply zc_|apply zt_ rfl|apply zf_ rfl|(apply zd_ rfl<;>intro ht<;>try omega)|((first|apply zr_|apply zk_|apply ze_|apply zq_|(apply zG<;>intro ht));all_goals try simp (disch:=first|omega|(simp only [lens,z6,zi,lQr,zo];first|done|omega)) only [go_sem]))
 refine zW.loop (fun m J O'=>∃(i n:Nat),m+i=s.length/\ O'=O/\ n<18446744073709551616/\ z3j n (s.drop i)=z2k s/\ J 0=.str s/\ J 2=.int .u64 n/\ J 8=.int .i64 s.length/\ J 9=.int .i64 i) s.length ?_ ?_
 ·exact⟨0,0,by omega,rfl,by omega,rfl,by simp (disch:=first|omega|(simp only [lens,z6,zi,lQr,zo];first|done|omega)) only [go_sem],by simp (disch:=first|omega|(simp only [lens,z6,zi,lQr,zo];first|done|omega)) only [go_sem];rfl,by simp (disch:=first|omega|(simp only [lens,z6,zi,lQr,zo];first|done|omega)) only [go_sem],by simp (disch:=first|omega|(simp only [lens,z6,zi,lQr,zo];first|done|omega)) only [go_sem];rfl⟩
 ·rintro m J O' ⟨i,n,hm,rfl,hn,hp,q0,q2,q8,q9⟩
  by_cases hi:i<s.length
  ·have hdr:=zqi hi
   generalize hc:s.getD i 0=c at*
   have hc8:=c.toNat_lt
   rw [hdr]at hp
   simp only [z3j]at hp
   by_cases h1:(n=0/\ c.toNat=128) \/144115188075855872<=n
   ·rw [if_pos h1]at hp
    rw [<-hp]
    unfold rdV
    by_cases h2:n=0
    ·subst h2
     have h3:c.toNat=128:=by omega
     have h3':(c.toNat:Int)=128:=by omega
     repeat' (first|apply zs_|apply zb_|apply zc_|apply zt_ rfl|apply zf_ rfl|(apply zd_ rfl<;>intro ht<;>try omega)|((first|apply zr_|apply zk_|apply ze_|apply zq_|(apply zG<;>intro ht));all_goals try simp (disch:=first|omega|(simp only [lens,z6,zi,lQr,zo];first|done|omega)) only [go_sem,q0,q2,q8,q9,hc,h3']))
     exact DownV.same hw (z1d _ rfl)
    ·have h2':¬(n:Int)=0:=by omega
     have h4:(n:Int)>=144115188075855872:=by omega
     repeat' (first|apply zs_|apply zb_|apply zc_|apply zt_ rfl|apply zf_ rfl|(apply zd_ rfl<;>intro ht<;>try omega)|((first|apply zr_|apply zk_|apply ze_|apply zq_|(apply zG<;>intro ht));all_goals try simp (disch:=first|omega|(simp only [lens,z6,zi,lQr,zo];first|done|omega)) only [go_sem,q0,q2,q8,q9,hc,h2',h4]))
     exact DownV.same hw (z1d _ rfl)
   ·rw [if_neg h1]at hp
    have hor:((n:Int)*128).toNat |||c.toNat%128=128*n+c.toNat%128:=by
     rw [show ((n:Int)*128).toNat=n*128 by omega,zzi (by omega)]
    have h4:¬(n:Int)>=144115188075855872:=by omega
    by_cases h5:c.toNat<128
    ·rw [if_pos h5]at hp
     rw [<-hp]
     unfold rdV
     have h5':(c.toNat:Int)<128:=by omega
     have hi1:(i:Int)+1=((i+1:Nat):Int):=by omega
     by_cases h2:n=0
     ·have h2':(n:Int)=0:=by omega
      have h3':¬(c.toNat:Int)=128:=by omega
      have hz:((0:Int)*128).toNat |||c.toNat%128=128*n+c.toNat%128:=by rw [h2];simp
      repeat' (first|apply zs_|apply zb_|apply zc_|apply zt_ rfl|apply zf_ rfl|(apply zd_ rfl<;>intro ht<;>try omega)|((first|apply zr_|apply zk_|apply ze_|apply zq_|(apply zG<;>intro ht));all_goals try simp (disch:=first|omega|(simp only [lens,z6,zi,lQr,zo];first|done|omega)) only [go_sem,q0,q2,q8,q9,hc,h2',h3',h4,hz,h5',hi1]))
      exact DownV.same hw (z1d _ rfl)
     ·have h2':¬(n:Int)=0:=by omega
      repeat' (first|apply zs_|apply zb_|apply zc_|apply zt_ rfl|apply zf_ rfl|(apply zd_ rfl<;>intro ht<;>try omega)|((first|apply zr_|apply zk_|apply ze_|apply zq_|(apply zG<;>intro ht));all_goals try simp (disch:=first|omega|(simp only [lens,z6,zi,lQr,zo];first|done|omega)) only [go_sem,q0,q2,q8,q9,hc,h2',h4,hor,h5',hi1]))
      exact DownV.same hw (z1d _ rfl)
    ·rw [if_neg h5]at hp
     have h5':¬(c.toNat:Int)<128:=by omega
     by_cases h2:n=0
     ·have h2':(n:Int)=0:=by omega
      have h3':¬(c.toNat:Int)=128:=by omega
      have hz:((0:Int)*128).toNat |||c.toNat%128=128*n+c.toNat%128:=by rw [h2];simp
      repeat' (first|apply zs_|apply zb_|apply zc_|apply zt_ rfl|apply zf_ rfl|(apply zd_ rfl<;>intro ht<;>try omega)|((first|apply zr_|apply zk_|apply ze_|apply zq_|(apply zG<;>intro ht));all_goals try simp (disch:=first|omega|(simp only [lens,z6,zi,lQr,zo];first|done|omega)) only [go_sem,q0,q2,q8,q9,hc,h2',h3',h4,hz,h5']))
      exact⟨m-1,by omega,i+1,128*n+c.toNat%128,by omega,by omega,hp,rfl,by simp⟩
     ·have h2':¬(n:Int)=0:=by omega
      repeat' (first|apply zs_|apply zb_|apply zc_|apply zt_ rfl|apply zf_ rfl|(apply zd_ rfl<;>intro ht<;>try omega)|((first|apply zr_|apply zk_|apply ze_|apply zq_|(apply zG<;>intro ht));all_goals try simp (disch:=first|omega|(simp only [lens,z6,zi,lQr,zo];first|done|omega)) only [go_sem,q0,q2,q8,q9,hc,h2',h4,hor,h5']))
      exact⟨m-1,by omega,i+1,128*n+c.toNat%128,by omega,by omega,hp,rfl,by simp⟩
  ·have hd:s.drop i=[]:=List.drop_of_length_le (by omega)
   rw [hd]at hp
   simp only [z3j]at hp
   rw [<-hp]
   unfold rdV
   repeat' (first|apply zs_|apply zb_|apply zc_|apply zt_ rfl|apply zf_ rfl|(apply zd_ rfl<;>intro ht<;>try omega)|((first|apply zr_|apply zk_|apply ze_|apply zq_|(apply zG<;>intro ht));all_goals try simp (disch:=first|omega|(simp only [lens,z6,zi,lQr,zo];first|done|omega)) only [go_sem,q0,q2,q8,q9]))
   exact DownV.same hw (z1d _ rfl)
end
section
attribute [local irreducible] ACallsTo ACallsP
def z3m(s:List UInt8)(n:Nat):Option (List UInt8 × List UInt8):=if n<=s.length then some (s.take n,s.drop n)else none
def stV:Option (List UInt8 × List UInt8)->AV
 |none=> .tup [.str [],.str [],.bool false]
 |some (a,r)=> .tup [.str a,.str r,.bool true]
def cutS(s:List UInt8):Option (List UInt8 × List UInt8):=(z2k s).bind fun x=>z3m x.2 x.1
def z28(s:List UInt8):List UInt8:=numS s.length++s
theorem z24(n:Nat):(numS n).length<=11:=by
 unfold numS
 split
 ·simp
 ·have:∀f m,(z2i f m).length<=f:=by
   intro f
   induction f with
   |zero=>intro m;simp [z2i]
   |succ f ih=>
    intro m
    rw [zav]
    split
    ·simp
    ·have:=ih (m/128);simp;omega
  have:=this 10 (n/128)
  simp;omega
theorem z9q{s r:List UInt8}{n:Nat}(h:z2k s=some (n,r)):n<18446744073709551616/\ r.length<s.length:=by
 obtain⟨h1,h2⟩:=zyf h
 obtain⟨A,c,e,_⟩:=zu7 h1
 refine⟨h1,?_⟩
 rw [h2,e];simp;omega
theorem zdg(O:Store)(s:List UInt8)(hs:s.length<1000000000):ACallsTo TC 129 [.str s] O (.str (z28 s)) O:=by
 refine ACallsTo.of_body qpok (by simp) fun hw _=> ?_
 have hN:=fun O=>z7a O s.length (by omega)
 have h1:=z24 s.length
 unfold z28
 generalize numS s.length=N at*
 repeat' (first|apply zs_|apply zb_|apply zc_|apply zt_ rfl|apply zf_ rfl|(apply zd_ rfl<;>intro ht<;>try omega)|((first|apply zr_|apply zk_|apply ze_|apply zq_|(apply callW.mk_pu;(first|exact(fun _=>hN _)))|(apply callW.za;(first|exact(hN _)))|(apply zG<;>intro ht));all_goals try simp (disch:=first|omega|(simp only [lens,z6,zi,lQr,zo,zw];first|done|omega)) only [go_sem]))
 exact DownV.same hw (z1d _ rfl)
theorem zmv(O:Store)(s:List UInt8)(n:Nat)(hs:s.length<1000000000)(hn:n<18446744073709551616):ACallsTo TC 161 [.str s,.int .u64 n] O (stV (z3m s n)) O:=by
 refine ACallsTo.of_body qrok (by simp) fun hw _=> ?_
 by_cases h:n<=s.length
 ·unfold z3m
  rw [if_pos h]
  unfold stV
  repeat' (first|apply zs_|apply zb_|apply zc_|apply zt_ rfl|apply zf_ rfl|(apply zd_ rfl<;>intro ht<;>try omega)|((first|apply zr_|apply zk_|apply ze_|apply zq_|(apply zG<;>intro ht));all_goals try simp (disch:=first|omega|(simp only [lens,z6,zi,lQr,zo,zw];first|done|omega)) only [go_sem]))
  exact DownV.same hw (z1d _ rfl)
 ·unfold z3m
  rw [if_neg h]
  unfold stV
  repeat' (first|apply zs_|apply zb_|apply zc_|apply zt_ rfl|apply zf_ rfl|(apply zd_ rfl<;>intro ht<;>try omega)|((first|apply zr_|apply zk_|apply ze_|apply zq_|(apply zG<;>intro ht));all_goals try simp (disch:=first|omega|(simp only [lens,z6,zi,lQr,zo,zw];first|done|omega)) only [go_sem]))
  exact DownV.same hw (z1d _ rfl)
theorem zdf(O:Store)(s:List UInt8)(hs:s.length<1000000000):ACallsTo TC 143 [.str s] O (stV (cutS s)) O:=by
 refine ACallsTo.of_body qmok (by simp) fun hw _=> ?_
 have hR:=fun O=>z7b O s hs
 unfold cutS
 cases hr:z2k s with
 |none=>
  rw [hr]at hR
  unfold rdV at hR
  unfold stV
  repeat' (first|apply zs_|apply zb_|apply zc_|apply zt_ rfl|apply zf_ rfl|(apply zd_ rfl<;>intro ht<;>try omega)|((first|apply zr_|apply zk_|apply ze_|apply zq_|(apply callW.mk_pu;(first|exact(fun _=>hR _)))|(apply callW.za;(first|exact(hR _)))|(apply zG<;>intro ht));all_goals try simp (disch:=first|omega|(simp only [lens,z6,zi,lQr,zo,zw];first|done|omega)) only [go_sem]))
  exact DownV.same hw (z1d _ rfl)
 |some x=>
  obtain⟨n,r⟩:=x
  obtain⟨h1,h2⟩:=z9q hr
  rw [hr]at hR
  unfold rdV at hR
  have hT:=fun O=>zmv O r n (by omega) h1
  simp only [Option.bind_some]
  unfold stV at hT ⊢
  cases ht:z3m r n with
  |none=>
   rw [ht]at hT
   repeat' (first|apply zs_|apply zb_|apply zc_|apply zt_ rfl|apply zf_ rfl|(apply zd_ rfl<;>intro ht<;>try omega)|((first|apply zr_|apply zk_|apply ze_|apply zq_|(apply callW.mk_pu;(first|exact(fun _=>hR _)|exact(fun _=>hT _)))|(apply callW.za;(first|exact(hR _)|exact(hT _)))|(apply zG<;>intro ht));all_goals try simp (disch:=first|omega|(simp only [lens,z6,zi,lQr,zo,zw];first|done|omega)) only [go_sem]))
   exact DownV.same hw (z1d _ rfl)
  |some y=>
   rw [ht]at hT
   repeat' (first|apply zs_|apply zb_|apply zc_|apply zt_ rfl|apply zf_ rfl|(apply zd_ rfl<;>intro ht<;>try omega)|((first|apply zr_|apply zk_|apply ze_|apply zq_|(apply callW.mk_pu;(first|exact(fun _=>hR _)|exact(fun _=>hT _)))|(apply callW.za;(first|exact(hR _)|exact(hT _)))|(apply zG<;>intro ht));all_goals try simp (disch:=first|omega|(simp only [lens,z6,zi,lQr,zo,zw];first|done|omega)) only [go_sem]))
   exact DownV.same hw (z1d _ rfl)
end
section
attribute [local irreducible] ACallsTo ACallsP
def toH(l:List UInt8):Hash:=if h:l.length=32 then⟨l,h⟩else zeroH
theorem hc_toH{l:List UInt8}(h:l.length=32):hc (toH l)=z10 l:=by simp [toH,h,hc]
theorem zgf(h:Hash):toH h.1=h:=by simp [toH,h.2]
def unS(s:List UInt8):Option (Hash × List UInt8):=(z3m s 32).map fun x=>(toH x.1,x.2)
def unV:Option (Hash × List UInt8)->AV
 |none=> .tup [.agg (hc zeroH),.str [],.bool false]
 |some (h,r)=> .tup [.agg (hc h),.str r,.bool true]
theorem zgo{s:List UInt8}(h:¬32<=s.length):unS s=none:=by simp [unS,z3m,h]
theorem za5{s:List UInt8}(h:32<=s.length):unS s=some (toH (s.take 32),s.drop 32):=by simp [unS,z3m,h]
theorem zgp(h:Hash)(r:List UInt8):unV (some (h,r))=.tup [.agg (hc h),.str r,.bool true]:=rfl
theorem zn5:unV none=.tup [.agg z32,.str [],.bool false]:=rfl
theorem rl_un{k:Nat}{cs:List AV}{r:List UInt8}{b:Bool}(h:RLs k cs):RL k (.tup [.agg cs,.str r,.bool b]):=by
 simp only [RL,RLs];exact⟨h,trivial,trivial,trivial⟩
theorem zgq:z32.length=32:=rfl
theorem z81(O:Store)(s:List UInt8)(hs:s.length<1000000000):ACallsTo TC 146 [.str s] O (unV (unS s)) O:=by
 refine ACallsTo.of_body qlok (by simp) fun hw _=> ?_
 have hT:=fun O=>zmv O s 32 hs (by omega)
 by_cases h:32<=s.length
 ·rw [za5 h]
  rw [zgp,hc_toH (by simp;omega)]
  have ht:z3m s 32=some (s.take 32,s.drop 32):=by simp [z3m,h]
  rw [ht]at hT
  unfold stV at hT
  have hl:(s.take 32).length=32:=by simp;omega
  generalize s.take 32=a at*
  have hf:=zho a
  have hft:(zn a).take 32=zn a:=List.take_of_length_le (by rw [zo];omega)
  have hfc:(z10 a).length=32:=by rw [zw];exact hl
  have hfd:(z10 a).drop 32=[]:=List.drop_of_length_le (by omega)
  have hfk:(z10 a).take 32=z10 a:=List.take_of_length_le (by omega)
  repeat' (first|apply zs_|apply zb_|apply zc_|apply zt_ rfl|apply zf_ rfl|(apply zd_ rfl<;>intro ht<;>try omega)|((first|apply zr_|apply zk_|apply ze_|apply zq_|(apply callW.mk_pu;(first|exact(fun _=>hT _)))|(apply callW.za;(first|exact(hT _)))|(apply zG<;>intro ht));all_goals try simp (disch:=first|omega|(simp only [lens,z6,zi,lQr,zo,zw];first|done|omega)) only [go_sem,hf,hft,hl,hfc,hfd,hfk,List.append_nil,zgq]))
  exact DownV.pure hw (rl_un (z3q _))
 ·rw [zgo h,zn5]
  have ht:z3m s 32=none:=by simp [z3m,h]
  rw [ht]at hT
  unfold stV at hT
  have hbe:(zn []).flatten=([]:List AV):=rfl
  repeat' (first|apply zs_|apply zb_|apply zc_|apply zt_ rfl|apply zf_ rfl|(apply zd_ rfl<;>intro ht<;>try omega)|((first|apply zr_|apply zk_|apply ze_|apply zq_|(apply callW.mk_pu;(first|exact(fun _=>hT _)))|(apply callW.za;(first|exact(hT _)))|(apply zG<;>intro ht));all_goals try simp (disch:=first|omega|(simp only [lens,z6,zi,lQr,zo,zw];first|done|omega)) only [go_sem,zgq,hbe,List.nil_append,List.drop_zero]))
  exact DownV.pure hw (rl_un (cs:=z32) (z3q (List.replicate 32 0)))
end
section
attribute [local irreducible] ACallsTo ACallsP
def hsAt(r:List UInt8)(i:Nat):Hash:=toH ((r.drop (32*i)).take 32)
def hsOf(r:List UInt8)(n:Nat):List Hash:=(List.range n).map (hsAt r)
theorem zs7(r:List UInt8)(n:Nat):(hsOf r n).length=n:=by simp [hsOf]
theorem zjk(r:List UInt8)(n:Nat):hsOf r (n+1)=hsOf r n++ [hsAt r n]:=by simp [hsOf,List.range_succ]
def unsS(s:List UInt8):Option (List Hash × List UInt8):=(z2k s).bind fun x=>if x.1<=64/\ 32*x.1<=x.2.length then some (hsOf x.2 x.1,x.2.drop (32*x.1))else none
def unsV:Option (List Hash × List UInt8)->AV
 |none=> .tup [.nilsl,.str [],.bool false]
 |some (l,r)=> .tup [zz 32 (hr l),.str r,.bool true]
theorem zf8{k:Nat}{r:List UInt8}{b:Bool}:RL k (.tup [.nilsl,.str r,.bool b]):=by simp only [RL,RLs];exact⟨trivial,trivial,trivial,trivial⟩
theorem un_at{r:List UInt8}{i:Nat}(h:32*i+32<=r.length):unS (r.drop (32*i))=some (hsAt r i,r.drop (32*(i+1))):=by
 rw [za5 (by rw [List.length_drop];omega),List.drop_drop];rfl
theorem zii(O:Store)(s:List UInt8)(hs:s.length<1000000000):ACallsTo TC 162 [.str s] O (unsV (unsS s)) O:=by
 refine ACallsTo.of_body qnok (by simp) fun hw _=> ?_
 have hR:=fun O=>z7b O s hs
 unfold unsS
 cases hrd:z2k s with
 |none=>
  rw [hrd]at hR
  unfold rdV at hR
  simp only [Option.bind_none,unsV]
  repeat' (first|apply zs_|apply zb_|apply zc_|apply zt_ rfl|apply zf_ rfl|(apply zd_ rfl<;>intro ht<;>try omega)|((first|apply zr_|apply zk_|apply ze_|apply zq_|(apply callW.mk_pu;(first|exact(fun _=>hR _)))|(apply callW.za;(first|exact(hR _)))|(apply zG<;>intro ht));all_goals try simp (disch:=first|omega|(simp only [lens,z6,zi,lQr,zo,zw,lQd];first|done|omega)) only [go_sem]))
  exact DownV.same hw zf8
 |some x=>
  obtain⟨n,r⟩:=x
  obtain⟨h1,h2⟩:=z9q hrd
  rw [hrd]at hR
  unfold rdV at hR
  simp only [Option.bind_some]
  by_cases hn:n<=64
  ·repeat' (first|apply zs_|apply zb_|apply zc_|apply zt_ rfl|apply zf_ rfl|(apply zd_ rfl<;>intro ht<;>try omega)|((first|apply zr_|apply zk_|apply ze_|apply zq_|(apply callW.mk_pu;(first|exact(fun _=>hR _)))|(apply callW.za;(first|exact(hR _)))|(apply zG<;>intro ht));all_goals try simp (disch:=first|omega|(simp only [lens,z6,zi,lQr,zo,zw,lQd];first|done|omega)) only [go_sem]))
   refine zW.loop (fun m J O'=>∃(i:Nat) (v:AV),m+i=n/\ 32*i<=r.length/\ OwnR 32 O.length O' v (hr (hsOf r i))/\ Ext O O'/\ J 2=v/\ J 3=.str (r.drop (32*i))/\ J 5=.int .u64 m) n ?_ ?_
   ·exact⟨0,.nilsl,by omega,by omega,OwnR.nil,Ext.refl _,by simp (disch:=first|omega|(simp only [lens,z6,zi,lQr,zo,zw,lQd];first|done|omega)) only [go_sem],by simp (disch:=first|omega|(simp only [lens,z6,zi,lQr,zo,zw,lQd];first|done|omega)) only [go_sem],by simp (disch:=first|omega|(simp only [lens,z6,zi,lQr,zo,zw,lQd];first|done|omega)) only [go_sem]⟩
   ·rintro m J O' ⟨i,v,hm,hir,hO,he,q2,q3,q5⟩
    have hle:=he.le
    by_cases hi:i<n
    ·by_cases hlen:32*i+32<=r.length
     ·have hU:=fun O=>z81 O (r.drop (32*i)) (by rw [List.length_drop];omega)
      rw [un_at hlen,zgp]at hU
      have hss:=zjk r i
      generalize hsAt r i=h at*
      obtain⟨v',O2,ha,hO2,hk2,hE2,hl2⟩:=(hO.more (y:=[some [hc h]])).app (ys:=[hc h]) (by simp;omega) (by simp) (by rw [zi,zs7];simp;omega)
      have hcat:hr (hsOf r i)++ [hc h]=hr (hsOf r (i+1)):=by rw [hss,hr_app];rfl
      rw [hcat]at hO2
      have hm1:(m:Int)-1=((m-1:Nat):Int):=by omega
      repeat' (first|apply zs_|apply zb_|apply zc_|apply zt_ rfl|apply zf_ rfl|(apply zd_ rfl<;>intro ht<;>try omega)|((first|apply zr_|apply zk_|apply ze_|apply zq_|(apply callW.mk_pu;(first|exact(fun _=>hU _)))|(apply callW.za;(first|exact(hU _)))|(apply zG<;>intro ht));all_goals try simp (disch:=first|omega|(simp only [lens,z6,zi,lQr,zo,zw,lQd];first|done|omega)) only [go_sem,q2,q3,q5,ha,hm1]))
      exact⟨m-1,by omega,i+1,v',by omega,by omega,hO2,hE2 O (Nat.le_refl _) he.app,by simp⟩
     ·have hU:=fun O=>z81 O (r.drop (32*i)) (by rw [List.length_drop];omega)
      rw [zgo (by rw [List.length_drop];omega),zn5]at hU
      rw [if_neg (by omega)]
      simp only [unsV]
      have hzl:=zgq
      generalize z32=z at*
      repeat' (first|apply zs_|apply zb_|apply zc_|apply zt_ rfl|apply zf_ rfl|(apply zd_ rfl<;>intro ht<;>try omega)|((first|apply zr_|apply zk_|apply ze_|apply zq_|(apply callW.mk_pu;(first|exact(fun _=>hU _)))|(apply callW.za;(first|exact(hU _)))|(apply zG<;>intro ht));all_goals try simp (disch:=first|omega|(simp only [lens,z6,zi,lQr,zo,zw,lQd];first|done|omega)) only [go_sem,q2,q3,q5,hzl]))
      exact Ext.pure hw he.app zf8
    ·obtain rfl:i=n:=by omega
     obtain rfl:m=0:=by omega
     rw [if_pos ⟨hn,hir⟩]
     simp only [unsV]
     repeat' (first|apply zs_|apply zb_|apply zc_|apply zt_ rfl|apply zf_ rfl|(apply zd_ rfl<;>intro ht<;>try omega)|((first|apply zr_|apply zk_|apply ze_|apply zq_|(apply zG<;>intro ht));all_goals try simp (disch:=first|omega|(simp only [lens,z6,zi,lQr,zo,zw,lQd];first|done|omega)) only [go_sem,q2,q3,q5]))
     exact Ext.all hw he fun news e=>drT (drsc (hO.fr e (Nat.le_refl _) (z3x _)) (drsc (FrzD.same z4k) (drs1 (FrzD.same z2c))))
  ·rw [if_neg (by omega)]
   simp only [unsV]
   repeat' (first|apply zs_|apply zb_|apply zc_|apply zt_ rfl|apply zf_ rfl|(apply zd_ rfl<;>intro ht<;>try omega)|((first|apply zr_|apply zk_|apply ze_|apply zq_|(apply callW.mk_pu;(first|exact(fun _=>hR _)))|(apply callW.za;(first|exact(hR _)))|(apply zG<;>intro ht));all_goals try simp (disch:=first|omega|(simp only [lens,z6,zi,lQr,zo,zw,lQd];first|done|omega)) only [go_sem]))
   exact DownV.same hw zf8
end
section
attribute [local irreducible] ACallsTo ACallsP
def catS(l:List Hash):List UInt8:=(l.map (·.1)).flatten
def z40(l:List Hash):List UInt8:=if 64<l.length then []else numS l.length++catS l
theorem z6h:∀(l:List Hash),(catS l).length=32*l.length
 | []=>rfl
 |h::l=>by
  have:=z6h l
  simp only [catS,List.map_cons,List.flatten_cons,List.length_append,List.length_cons,h.2]at this ⊢
  omega
theorem zi9{l:List Hash}{i:Nat}(h:i<l.length):catS (l.take (i+1))=catS (l.take i)++(hd l i).1:=by
 rw [z9x h];simp [catS]
end
section
set_option maxRecDepth 10000
def qtr0:yW:=[
 yI 4 (.mv (.v .nilsl)),
 yK 5 .i64 0]
def qtr1:yW:=[
 yM 8 1,
 yJ 9 .lss 8 .i64 0,
 yM 10 9,
 yV 11 10 false 1,
 yV 12 10 false 0,
 yG 13 10 false (.lenSl (.t 12)),
 yG 14 10 false (.bin .geq .none (.t 11) (.t 13)),
 yP 15 10 14]
def qtr2:yW:=[
 yI 4 (.mv (.v .nilsl)),
 yK 5 .i64 2]
def qtc3:yX:=yq qtr2 .ret
def qtc4:yX:=.cond (.t 15) qtc3 .skip
def qtc5:yX:=yq qtr1 qtc4
def qtr6:yW:=[
 yI 6 (.mv (.v .nilsl))]
def qtr7:yW:=[
 yM 16 0,
 yI 17 (.lenSl (.t 16)),
 yJ 18 .gtr 17 .i64 1]
def qtc8:yX:=.cond (.t 18) .skip (.exit 0)
def qtc9:yX:=yq qtr7 qtc8
def qtr10:yW:=[
 yM 19 0,
 yI 20 (.lenSl (.t 19)),
 yC 21 90 20,
 yM 7 21]
def qtr11:yW:=[
 yM 22 1,
 yM 23 7,
 yB 24 .lss 22 23]
def qtr12:yW:=[
 yM 25 6,
 yM 26 0,
 yM 27 7,
 yI 28 (.slice (.sl 32) (.t 26) (some (.t 27)) none none),
 yC 29 42 28,
 yI 30 (.lit 32 [(.t 29)]),
 yI 31 (.app 32 (.t 25) (.t 30)),
 yM 6 31]
def qtr13:yW:=[
 yM 32 0,
 yM 33 7,
 yI 34 (.slice (.sl 32) (.t 32) none (some (.t 33)) none),
 yM 0 34]
def qtc14:yX:=yq qtr12 (.reg qtr13)
def qtr15:yW:=[
 yM 35 6,
 yM 36 0,
 yM 37 7,
 yI 38 (.slice (.sl 32) (.t 36) none (some (.t 37)) none),
 yC 39 42 38,
 yI 40 (.lit 32 [(.t 39)]),
 yI 41 (.app 32 (.t 35) (.t 40)),
 yM 6 41]
def qtr16:yW:=[
 yM 42 0,
 yM 43 7,
 yI 44 (.slice (.sl 32) (.t 42) (some (.t 43)) none none),
 yM 45 1,
 yM 46 7,
 yB 47 .sub 45 46,
 yM 0 44,
 yM 1 47]
def qtc17:yX:=yq qtr15 (.reg qtr16)
def qtc18:yX:=.cond (.t 24) qtc14 qtc17
def qtc19:yX:=yq qtr11 qtc18
def qtc20:yX:=yq qtr10 qtc19
def qtc21:yX:=.block 1 qtc20
def qtc22:yX:=.seq qtc9 qtc21
def qtc23:yX:=.loop qtc22
def qtr24:yW:=[
 yM 48 6,
 yC 49 130 48]
def qtr25:yW:=[
 yM 50 6,
 yM 4 50,
 yK 5 .i64 0]
def qtc26:yX:=yq qtr25 .ret
def qtc27:yX:=yq qtr24 qtc26
def qtc28:yX:=.seq (.block 0 qtc23) qtc27
def qtc29:yX:=yq qtr6 qtc28
def qtc30:yX:=.seq qtc5 qtc29
def qtc31:yX:=yq qtr0 qtc30
attribute [go_sem] qtr0 qtr1 qtr2 qtr6 qtr7 qtr10 qtr11 qtr12 qtr13 qtr15 qtr16 qtr24 qtr25
theorem qtok:cFn TC 92=some (51,[.t 4,.t 5],qtc31):=by kernel_rfl
def qur0:yW:=[
 yI 5 (.box (.t 0)),
 yI 9 (.box (.t 4)),
 yK 10 .i64 0]
def qur1:yW:=[
 yM 15 2,
 yJ 16 .lss 15 .i64 1,
 yM 17 16,
 yV 18 17 false 2,
 yG 19 17 false (.bin .gtr .none (.t 18) (.v (.int .i64 4096))),
 yP 20 17 19,
 yM 21 20,
 yV 22 21 false 1,
 yG 23 21 false (.bin .lss .none (.t 22) (.v (.int .i64 0))),
 yP 24 21 23,
 yM 25 24,
 yV 26 25 false 1,
 yV 27 25 false 2,
 yG 28 25 false (.bin .geq .none (.t 26) (.t 27)),
 yP 29 25 28]
def qur2:yW:=[
 yK 10 .i64 2]
def quc3:yX:=yq qur2 .ret
def quc4:yX:=.cond (.t 29) quc3 .skip
def quc5:yX:=yq qur1 quc4
def qur6:yW:=[
 yM 30 2,
 yJ 31 .sub 30 .i64 1,
 yM 11 31]
def qur7:yW:=[
 yK 12 .i64 0]
def qur8:yW:=[
 yM 32 3,
 yI 33 (.lenSl (.t 32)),
 yK 34 .i64 0]
def qur9:yW:=[
 yB 35 .lss 34 33]
def qur10:yW:=[
 yI 36 (.iaSl 32 (.t 32) (.t 34)),
 yL 37 true 32 36,
 yI 14 (.alloc zZ0),
 yS 32 14 37]
def qur11:yW:=[
 yM 38 11,
 yJ 39 .eql 38 .i64 0]
def quc12:yX:=.cond (.t 39) (.exit 0) .skip
def quc13:yX:=yq qur11 quc12
def qur14:yW:=[
 yM 40 1,
 yJ 41 .rem 40 .i64 2,
 yJ 42 .eql 41 .i64 1,
 yM 43 42,
 yV 44 43 false 1,
 yV 45 43 false 11,
 yG 46 43 false (.bin .eql .none (.t 44) (.t 45)),
 yP 47 43 46]
def qur15:yW:=[
 yL 48 true 32 14,
 yL 49 true 32 5,
 yD 50 91 48 49,
 yS 32 5 50]
def qur16:yW:=[
 yM 51 1,
 yJ 52 .rem 51 .i64 2,
 yJ 53 .eql 52 .i64 0,
 yM 54 53,
 yV 55 54 true 1,
 yG 56 54 true (.bin .gtr .none (.t 55) (.v (.int .i64 0))),
 yQ 57 54 56]
def quc17:yX:=.cond (.t 57) .skip (.exit 2)
def quc18:yX:=yq qur16 quc17
def qur19:yW:=[
 yM 58 1,
 yJ 59 .quo 58 .i64 2,
 yM 60 11,
 yJ 61 .quo 60 .i64 2,
 yM 1 59,
 yM 11 61]
def quc20:yX:=.block 3 (.reg qur19)
def quc21:yX:=.seq quc18 quc20
def quc22:yX:=.loop quc21
def quc23:yX:=.block 2 quc22
def quc24:yX:=yq qur15 quc23
def qur25:yW:=[
 yL 62 true 32 5,
 yL 63 true 32 14,
 yD 64 91 62 63,
 yS 32 5 64]
def quc26:yX:=.cond (.t 47) quc24 (.reg qur25)
def quc27:yX:=yq qur14 quc26
def qur28:yW:=[
 yM 65 1,
 yJ 66 .quo 65 .i64 2,
 yM 67 11,
 yJ 68 .quo 67 .i64 2,
 yM 1 66,
 yM 11 68]
def qur29:yW:=[
 yM 69 12,
 yJ 70 .add 69 .i64 1,
 yM 12 70]
def quc30:yX:=yq qur28 (.reg qur29)
def quc31:yX:=.seq quc27 quc30
def quc32:yX:=.seq quc13 quc31
def quc33:yX:=yq qur10 quc32
def qur34:yW:=[
 yJ 71 .add 34 .i64 1,
 yM 34 71]
def quc35:yX:=.seq (.block 1 quc33) (.reg qur34)
def quc36:yX:=.seq (.cond (.t 35) .skip (.exit 0)) quc35
def quc37:yX:=yq qur9 quc36
def quc38:yX:=.loop quc37
def quc39:yX:=.block 0 quc38
def quc40:yX:=yq qur8 quc39
def qur41:yW:=[
 yM 72 11,
 yJ 73 .neq 72 .i64 0,
 yM 74 73,
 yV 75 74 false 12,
 yV 76 74 false 3,
 yG 77 74 false (.lenSl (.t 76)),
 yG 78 74 false (.bin .neq .none (.t 75) (.t 77)),
 yP 79 74 78,
 yM 80 79,
 yU 81 80 false true 32 5,
 yU 82 80 false true 32 9,
 yG 83 80 false (.bin .neq (.agg (List.replicate 32 (.i .u8)++ [])) (.t 81) (.t 82)),
 yP 84 80 83]
def qur42:yW:=[
 yK 10 .i64 80]
def quc43:yX:=yq qur42 .ret
def quc44:yX:=.cond (.t 84) quc43 .skip
def quc45:yX:=yq qur41 quc44
def qur46:yW:=[
 yK 10 .i64 0]
def quc47:yX:=yq qur46 .ret
def quc48:yX:=.seq quc45 quc47
def quc49:yX:=.seq quc40 quc48
def quc50:yX:=.seq .skip quc49
def quc51:yX:=yq qur7 quc50
def quc52:yX:=yq qur6 quc51
def quc53:yX:=.seq quc5 quc52
def quc54:yX:=.scope quc53
def quc55:yX:=yq qur0 quc54
attribute [go_sem] qur0 qur1 qur2 qur6 qur7 qur8 qur9 qur10 qur11 qur14 qur15 qur16 qur19 qur25 qur28 qur29 qur34 qur41 qur42 qur46
theorem quok:cFn TC 135=some (85,[.t 10],quc55):=by kernel_rfl
def qvr0:yW:=[
 yM 4 0,
 yI 5 (.lenSl (.t 4)),
 yJ 6 .sub 5 .i64 1,
 yK 2 .i64 0,
 yM 3 6]
def qvr1:yW:=[
 yM 7 2,
 yM 8 3,
 yB 9 .lss 7 8]
def qvc2:yX:=.cond (.t 9) .skip (.exit 0)
def qvc3:yX:=yq qvr1 qvc2
def qvr4:yW:=[
 yM 14 0,
 yM 15 2,
 yM 16 0,
 yM 17 3,
 yM 18 0,
 yM 19 3,
 yI 20 (.iaSl 32 (.t 18) (.t 19)),
 ⟨some 21,none,.rd,.load true 32 (.t 20)⟩,
 yM 22 0,
 yM 23 2,
 yI 24 (.iaSl 32 (.t 22) (.t 23)),
 ⟨some 25,none,.rd,.load true 32 (.t 24)⟩,
 yI 26 (.iaSl 32 (.t 14) (.t 15)),
 yS 32 26 21,
 yI 27 (.iaSl 32 (.t 16) (.t 17)),
 yS 32 27 25]
def qvr5:yW:=[
 yM 10 2,
 yJ 11 .add 10 .i64 1,
 yM 12 3,
 yJ 13 .sub 12 .i64 1,
 yM 2 11,
 yM 3 13]
def qvc6:yX:=.seq (.block 1 (.reg qvr4)) (.reg qvr5)
def qvc7:yX:=.seq qvc3 qvc6
def qvc8:yX:=.loop qvc7
def qvc9:yX:=.block 0 qvc8
def qvc10:yX:=yq qvr0 qvc9
attribute [go_sem] qvr0 qvr1 qvr4 qvr5
theorem qvok:cFn TC 130=some (28,[],qvc10):=by kernel_rfl
end
section
set_option maxRecDepth 10000
def qwr0:yW:=[
 yI 2 (.alloc zZ0)]
def qwr1:yW:=[
 yM 6 0,
 yI 7 (.lenSl (.t 6)),
 yJ 8 .neq 7 .i64 512]
def qwr2:yW:=[
 yI 9 (.build zZ0 []),
 yS 32 2 9]
def qwc3:yX:=yq qwr2 .ret
def qwc4:yX:=.cond (.t 8) qwc3 .skip
def qwc5:yX:=yq qwr1 qwc4
def qwr6:yW:=[
 yI 3 (.allB)]
def qwr7:yW:=[
 yI 10 (.call (.v (.fn 82 [])) [(.t 3),(.v (.int .u8 4))])]
def qwr8:yW:=[
 yM 11 0,
 yI 12 (.lenSl (.t 11)),
 yK 13 .i64 0]
def qwr9:yW:=[
 yB 14 .lss 13 12]
def qwr10:yW:=[
 yI 15 (.iaSl 32 (.t 11) (.t 13)),
 yL 16 true 32 15,
 yI 5 (.alloc zZ0),
 yS 32 5 16]
def qwr11:yW:=[
 yL 17 true 32 5,
 yC 18 84 17,
 yD 19 83 3 18]
def qwc12:yX:=yq qwr10 (.reg qwr11)
def qwr13:yW:=[
 yJ 20 .add 13 .i64 1,
 yM 13 20]
def qwc14:yX:=.seq (.block 1 qwc12) (.reg qwr13)
def qwc15:yX:=.seq (.cond (.t 14) .skip (.exit 0)) qwc14
def qwc16:yX:=yq qwr9 qwc15
def qwc17:yX:=.loop qwc16
def qwc18:yX:=.block 0 qwc17
def qwc19:yX:=yq qwr8 qwc18
def qwr20:yW:=[
 yC 21 86 3,
 yC 22 85 21,
 yS 32 2 22]
def qwc21:yX:=yq qwr20 .ret
def qwc22:yX:=.seq qwc19 qwc21
def qwc23:yX:=yq qwr7 qwc22
def qwc24:yX:=yq qwr6 qwc23
def qwc25:yX:=.seq qwc5 qwc24
def qwc26:yX:=yq qwr0 qwc25
attribute [go_sem] qwr0 qwr1 qwr2 qwr6 qwr7 qwr8 qwr9 qwr10 qwr11 qwr13 qwr20
theorem qwok:cFn TC 40=some (23,[.c 2 true 32],qwc26):=by kernel_rfl
def qxr0:yW:=[
 yI 4 (.mv (.v .nilsl))]
def qxr1:yW:=[
 yM 7 1,
 yJ 8 .lss 7 .i64 0,
 yM 9 8,
 yV 10 9 false 1,
 yG 11 9 false (.bin .geq .none (.t 10) (.v (.int .i64 2147483648))),
 yP 12 9 11]
def qxr2:yW:=[
 yI 4 (.mv (.v .nilsl))]
def qxc3:yX:=yq qxr2 .ret
def qxc4:yX:=.cond (.t 12) qxc3 .skip
def qxc5:yX:=yq qxr1 qxc4
def qxr6:yW:=[
 yI 13 (.make 32 zZ0 (.v (.int .i64 512)) (.v (.int .i64 512))),
 yM 5 13]
def qxr7:yW:=[
 yM 14 5,
 yI 15 (.lenSl (.t 14)),
 yK 16 .i64 0]
def qxr8:yW:=[
 yB 17 .lss 16 15]
def qxr9:yW:=[
 yM 18 16,
 yM 6 18]
def qxr10:yW:=[
 yM 19 5,
 yM 20 6,
 yM 21 0,
 yM 22 1,
 yM 23 6,
 yJ 24 .quo 23 .i64 2,
 yM 25 6,
 yJ 26 .rem 25 .i64 2,
 yI 27 (.call (.v (.fn 88 [])) [(.t 21),(.t 22),(.t 24),(.t 26)]),
 yC 28 84 27,
 yC 29 87 28,
 yI 30 (.iaSl 32 (.t 19) (.t 20)),
 yS 32 30 29]
def qxc11:yX:=yq qxr9 (.reg qxr10)
def qxr12:yW:=[
 yJ 31 .add 16 .i64 1,
 yM 16 31]
def qxc13:yX:=.seq (.block 1 qxc11) (.reg qxr12)
def qxc14:yX:=.seq (.cond (.t 17) .skip (.exit 0)) qxc13
def qxc15:yX:=yq qxr8 qxc14
def qxc16:yX:=.loop qxc15
def qxc17:yX:=.block 0 qxc16
def qxc18:yX:=yq qxr7 qxc17
def qxr19:yW:=[
 yM 32 5,
 yM 4 32]
def qxc20:yX:=yq qxr19 .ret
def qxc21:yX:=.seq qxc18 qxc20
def qxc22:yX:=yq qxr6 qxc21
def qxc23:yX:=.seq qxc5 qxc22
def qxc24:yX:=yq qxr0 qxc23
attribute [go_sem] qxr0 qxr1 qxr2 qxr6 qxr7 qxr8 qxr9 qxr10 qxr12 qxr19
theorem qxok:cFn TC 41=some (33,[.t 4],qxc24):=by kernel_rfl
def qyr0:yW:=[
 yI 5 (.box (.t 2)),
 yI 6 (.mv (.v (.str [])))]
def qyr1:yW:=[
 yM 13 0,
 yM 14 1,
 yD 15 41 13 14,
 yM 7 15]
def qyr2:yW:=[
 yM 16 7,
 yI 17 (.bin .eql .slc (.t 16) (.v .nilsl))]
def qyr3:yW:=[
 yI 6 (.mv (.v (.str [])))]
def qyc4:yX:=yq qyr3 .ret
def qyc5:yX:=.cond (.t 17) qyc4 .skip
def qyc6:yX:=yq qyr2 qyc5
def qyr7:yW:=[
 yL 18 true 32 5,
 yC 19 84 18,
 yM 8 19]
def qyr8:yW:=[
 yI 9 (.allB),
 yI 10 (.allB)]
def qyr9:yW:=[
 yK 20 .i64 0]
def qyr10:yW:=[
 yJ 21 .lss 20 .i64 256]
def qyr11:yW:=[
 yM 22 20,
 yM 11 22]
def qyr12:yW:=[
 yM 23 8,
 yM 24 11,
 yD 25 131 23 24,
 yM 12 25]
def qyr13:yW:=[
 yM 26 0,
 yM 27 1,
 yM 28 11,
 yM 29 12,
 yI 30 (.call (.v (.fn 88 [])) [(.t 26),(.t 27),(.t 28),(.t 29)]),
 yC 31 84 30,
 yD 32 83 9 31]
def qyr14:yW:=[
 yM 33 7,
 yM 34 11,
 yI 35 (.bin .mul .none (.v (.int .i64 2)) (.t 34)),
 yJ 36 .add 35 .i64 1,
 yM 37 12,
 yB 38 .sub 36 37,
 yI 39 (.iaSl 32 (.t 33) (.t 38)),
 yL 40 true 32 39,
 yC 41 84 40,
 yD 42 83 10 41]
def qyc15:yX:=yq qyr13 (.reg qyr14)
def qyc16:yX:=yq qyr12 qyc15
def qyc17:yX:=yq qyr11 qyc16
def qyr18:yW:=[
 yJ 43 .add 20 .i64 1,
 yM 20 43]
def qyc19:yX:=.seq (.block 1 qyc17) (.reg qyr18)
def qyc20:yX:=.seq (.cond (.t 21) .skip (.exit 0)) qyc19
def qyc21:yX:=yq qyr10 qyc20
def qyc22:yX:=.loop qyc21
def qyc23:yX:=.block 0 qyc22
def qyc24:yX:=yq qyr9 qyc23
def qyr25:yW:=[
 yC 44 86 9,
 yC 45 86 10,
 yB 46 .add 44 45,
 yM 6 46]
def qyc26:yX:=yq qyr25 .ret
def qyc27:yX:=.seq qyc24 qyc26
def qyc28:yX:=yq qyr8 qyc27
def qyc29:yX:=yq qyr7 qyc28
def qyc30:yX:=.seq qyc6 qyc29
def qyc31:yX:=yq qyr1 qyc30
def qyc32:yX:=yq qyr0 qyc31
attribute [go_sem] qyr0 qyr1 qyr2 qyr3 qyr7 qyr8 qyr9 qyr10 qyr11 qyr12 qyr13 qyr14 qyr18 qyr25
theorem qyok:cFn TC 93=some (47,[.t 6],qyc32):=by kernel_rfl
def qzr0:yW:=[
 yI 3 (.box (.t 1)),
 yI 4 (.alloc zZ0),
 yK 5 .i64 0]
def qzr1:yW:=[
 yM 12 0,
 yI 13 (.lenStr (.t 12)),
 yJ 14 .neq 13 .i64 16384]
def qzr2:yW:=[
 yI 15 (.build zZ0 []),
 yS 32 4 15,
 yK 5 .i64 10]
def qzc3:yX:=yq qzr2 .ret
def qzc4:yX:=.cond (.t 14) qzc3 .skip
def qzc5:yX:=yq qzr1 qzc4
def qzr6:yW:=[
 yL 16 true 32 3,
 yC 17 84 16,
 yM 6 17]
def qzr7:yW:=[
 yI 18 (.make 32 zZ0 (.v (.int .i64 512)) (.v (.int .i64 512))),
 yM 7 18]
def qzr8:yW:=[
 yK 19 .i64 0]
def qzr9:yW:=[
 yJ 20 .lss 19 .i64 256]
def qzr10:yW:=[
 yM 21 19,
 yM 8 21]
def qzr11:yW:=[
 yM 22 6,
 yM 23 8,
 yD 24 131 22 23,
 yM 9 24]
def qzr12:yW:=[
 yM 25 0,
 yM 26 8,
 yJ 27 .mul 26 .i64 32,
 yM 28 8,
 yJ 29 .add 28 .i64 1,
 yJ 30 .mul 29 .i64 32,
 yI 31 (.slice .str (.t 25) (some (.t 27)) (some (.t 30)) none),
 yM 32 0,
 yM 33 8,
 yI 34 (.bin .add .none (.v (.int .i64 256)) (.t 33)),
 yJ 35 .mul 34 .i64 32,
 yI 36 (.slice .str (.t 32) (some (.t 35)) none none),
 yM 10 31,
 yM 11 36]
def qzr13:yW:=[
 yM 37 7,
 yM 38 8,
 yI 39 (.bin .mul .none (.v (.int .i64 2)) (.t 38)),
 yM 40 9,
 yB 41 .add 39 40,
 yM 42 10,
 yC 43 87 42,
 yI 44 (.iaSl 32 (.t 37) (.t 41)),
 yS 32 44 43]
def qzr14:yW:=[
 yM 46 7,
 yM 47 8,
 yI 48 (.bin .mul .none (.v (.int .i64 2)) (.t 47)),
 yJ 49 .add 48 .i64 1,
 yM 50 9,
 yB 51 .sub 49 50,
 yM 52 11,
 yC 53 146 52,
 yM 45 53,
 yE 54 0 45,
 yE 55 1 45,
 yE 56 2 45,
 yI 57 (.iaSl 32 (.t 46) (.t 51)),
 yS 32 57 54]
def qzc15:yX:=yq qzr13 (.reg qzr14)
def qzc16:yX:=yq qzr12 qzc15
def qzc17:yX:=yq qzr11 qzc16
def qzc18:yX:=yq qzr10 qzc17
def qzr19:yW:=[
 yJ 58 .add 19 .i64 1,
 yM 19 58]
def qzc20:yX:=.seq (.block 1 qzc18) (.reg qzr19)
def qzc21:yX:=.seq (.cond (.t 20) .skip (.exit 0)) qzc20
def qzc22:yX:=yq qzr9 qzc21
def qzc23:yX:=.loop qzc22
def qzc24:yX:=.block 0 qzc23
def qzc25:yX:=yq qzr8 qzc24
def qzr26:yW:=[
 yM 59 7,
 yC 60 40 59,
 yS 32 4 60,
 yK 5 .i64 0]
def qzc27:yX:=yq qzr26 .ret
def qzc28:yX:=.seq qzc25 qzc27
def qzc29:yX:=yq qzr7 qzc28
def qzc30:yX:=yq qzr6 qzc29
def qzc31:yX:=.seq qzc5 qzc30
def qzc32:yX:=yq qzr0 qzc31
attribute [go_sem] qzr0 qzr1 qzr2 qzr6 qzr7 qzr8 qzr9 qzr10 qzr11 qzr12 qzr13 qzr14 qzr19 qzr26
theorem qzok:cFn TC 134=some (61,[.c 4 true 32,.t 5],qzc32):=by kernel_rfl
def q10r0:yW:=[
 yK 4 .i64 0,
 yI 5 (.mv (.v .any))]
def q10r1:yW:=[
 yM 6 0,
 yC 7 125 6]
def q10r2:yW:=[
 yM 8 0,
 yM 9 0,
 yI 10 (.nilc (.t 9)),
 yF 11 1 10,
 yL 12 false 1 11,
 yM 13 1,
 yI 14 (.appB (.t 12) (.t 13)),
 yI 15 (.nilc (.t 8)),
 yF 16 1 15,
 yS 1 16 14]
def q10r3:yW:=[
 yM 17 1,
 yI 18 (.lenStr (.t 17)),
 yM 4 18,
 yI 5 (.mv (.v .any))]
def q10c4:yX:=yq q10r3 .ret
def q10c5:yX:=yq q10r2 q10c4
def q10c6:yX:=yq q10r1 q10c5
def q10c7:yX:=yq q10r0 q10c6
attribute [go_sem] q10r0 q10r1 q10r2 q10r3
theorem q10ok:cFn TC 83=some (19,[.t 4,.t 5],q10c7):=by kernel_rfl
def q11r0:yW:=[
 yI 4 (.mv (.v .any))]
def q11r1:yW:=[
 yM 5 0,
 yC 6 125 5]
def q11r2:yW:=[
 yM 7 0,
 yM 8 0,
 yI 9 (.nilc (.t 8)),
 yF 10 1 9,
 yL 11 false 1 10,
 yM 12 1,
 yI 13 (.lit 1 [(.t 12)]),
 yI 14 (.appB (.t 11) (.t 13)),
 yI 15 (.nilc (.t 7)),
 yF 16 1 15,
 yS 1 16 14]
def q11r3:yW:=[
 yI 4 (.mv (.v .any))]
def q11c4:yX:=yq q11r3 .ret
def q11c5:yX:=yq q11r2 q11c4
def q11c6:yX:=yq q11r1 q11c5
def q11c7:yX:=yq q11r0 q11c6
attribute [go_sem] q11r0 q11r1 q11r2 q11r3
theorem q11ok:cFn TC 82=some (17,[.t 4],q11c7):=by kernel_rfl
def q12r0:yW:=[
 yI 2 (.alloc zZ0)]
def q12r1:yW:=[
 yM 3 0,
 yI 4 (.bin .add .none (.v (.str [3])) (.t 3)),
 yC 5 85 4,
 yS 32 2 5]
def q12c2:yX:=yq q12r1 .ret
def q12c3:yX:=yq q12r0 q12c2
attribute [go_sem] q12r0 q12r1
theorem q12ok:cFn TC 87=some (6,[.c 2 true 32],q12c3):=by kernel_rfl
def q13r0:yW:=[
 yI 8 (.alloc zZ0)]
def q13r1:yW:=[
 yM 9 1,
 yJ 10 .lss 9 .i64 0,
 yM 11 10,
 yV 12 11 false 1,
 yG 13 11 false (.bin .geq .none (.t 12) (.v (.int .i64 2147483648))),
 yP 14 11 13,
 yM 15 14,
 yV 16 15 false 2,
 yG 17 15 false (.bin .lss .none (.t 16) (.v (.int .i64 0))),
 yP 18 15 17,
 yM 19 18,
 yV 20 19 false 2,
 yG 21 19 false (.bin .geq .none (.t 20) (.v (.int .i64 256))),
 yP 22 19 21,
 yM 23 22,
 yV 24 23 false 3,
 yG 25 23 false (.bin .lss .none (.t 24) (.v (.int .i64 0))),
 yP 26 23 25,
 yM 27 26,
 yV 28 27 false 3,
 yG 29 27 false (.bin .gtr .none (.t 28) (.v (.int .i64 1))),
 yP 30 27 29]
def q13r2:yW:=[
 yI 31 (.build zZ0 []),
 yS 32 8 31]
def q13c3:yX:=yq q13r2 .ret
def q13c4:yX:=.cond (.t 30) q13c3 .skip
def q13c5:yX:=yq q13r1 q13c4
def q13r6:yW:=[
 yM 32 0,
 yC 33 129 32,
 yI 34 (.bin .add .none (.v (.str [2])) (.t 33)),
 yM 35 1,
 yI 36 (.conv (.int .u64) (.t 35)),
 yI 37 (.call (.v (.fn 128 [])) [(.t 36),(.v (.int .i64 4))]),
 yB 38 .add 34 37,
 yM 39 2,
 yI 40 (.bin .mul .none (.v (.int .i64 2)) (.t 39)),
 yM 41 3,
 yB 42 .add 40 41,
 yI 43 (.conv (.int .u64) (.t 42)),
 yI 44 (.call (.v (.fn 128 [])) [(.t 43),(.v (.int .i64 2))]),
 yB 45 .add 38 44,
 yC 46 85 45,
 yS 32 8 46]
def q13c7:yX:=yq q13r6 .ret
def q13c8:yX:=.seq q13c5 q13c7
def q13c9:yX:=yq q13r0 q13c8
attribute [go_sem] q13r0 q13r1 q13r2 q13r6
theorem q13ok:cFn TC 88=some (47,[.c 8 true 32],q13c9):=by kernel_rfl
end
section
set_option maxRecDepth 10000
def q14r0:yW:=[
 yI 2 (.mv (.v .nilp))]
def q14r1:yW:=[
 yM 5 0,
 yI 6 (.build [(.bool false),(.str []),(.int .u8 0),(.int .u8 0),(.int .u8 0),(.int .u8 0),(.int .u8 0),(.int .u8 0),(.int .u8 0),(.int .u8 0),(.int .u8 0),(.int .u8 0),(.int .u8 0),(.int .u8 0),(.int .u8 0),(.int .u8 0),(.int .u8 0),(.int .u8 0),(.int .u8 0),(.int .u8 0),(.int .u8 0),(.int .u8 0),(.int .u8 0),(.int .u8 0),(.int .u8 0),(.int .u8 0),(.int .u8 0),(.int .u8 0),(.int .u8 0),(.int .u8 0),(.int .u8 0),(.int .u8 0),(.int .u8 0),(.int .u8 0),(.int .u8 0),(.int .u8 0),(.int .u8 0),(.int .u8 0),(.int .u8 0),(.int .u8 0),(.int .u8 0),(.int .u8 0),(.int .u8 0),(.int .u8 0),(.int .u8 0),(.int .u8 0),(.int .u8 0),(.int .u8 0),(.int .u8 0),(.int .u8 0),(.int .u8 0),(.int .u8 0),(.int .u8 0),(.int .u8 0),(.int .u8 0),(.int .u8 0),(.int .u8 0),(.int .u8 0),(.int .u8 0),(.int .u8 0),(.int .u8 0),(.int .u8 0),(.int .u8 0),(.int .u8 0),(.int .u8 0),(.int .u8 0),(.int .u8 0),(.int .u8 0),(.int .u8 0),(.int .u8 0),(.int .u8 0),(.int .u8 0),(.int .u8 0),(.int .u8 0),(.int .u8 0),(.int .u8 0),(.int .u8 0),(.int .u8 0),(.int .u8 0),(.int .u8 0),(.int .u8 0),(.int .u8 0),(.int .u8 0),(.int .u8 0),(.int .u8 0),(.int .u8 0),(.int .u8 0),(.int .u8 0),(.int .u8 0),(.int .u8 0),(.int .u8 0),(.int .u8 0),(.int .u8 0),(.int .u8 0),(.int .u8 0),(.int .u8 0),(.int .u8 0),(.int .u8 0),(.int .u8 0),(.int .u8 0),(.int .u8 0),(.int .u8 0),(.int .u8 0),(.int .u8 0),(.int .u8 0),(.int .u8 0),(.int .u8 0),(.int .u8 0),(.int .u8 0),(.int .u8 0),(.int .u8 0),(.int .u8 0),(.int .u8 0),(.int .u8 0),(.int .u8 0),(.int .u8 0),(.int .u8 0),(.int .u8 0),(.int .u8 0),(.int .u8 0),(.int .u8 0),(.int .u8 0),(.int .u8 0),(.int .u8 0),(.int .u8 0),(.int .u8 0),(.int .u8 0),(.int .u8 0),(.int .u8 0),(.int .u8 0),(.int .u8 0),(.int .u8 0),(.int .u8 0),(.int .u8 0),(.int .u8 0),(.int .u8 0),(.int .u8 0),(.int .u8 0),(.int .u8 0),(.int .u8 0),(.int .u8 0),(.int .u8 0),(.int .u8 0),(.int .u8 0),(.int .u8 0),(.int .u8 0),(.int .u8 0),(.int .u8 0),(.int .u8 0),(.int .u8 0),(.int .u8 0),(.int .u8 0),(.int .u8 0),(.int .u8 0),(.int .u8 0),(.int .u8 0),(.int .u8 0),(.int .u8 0),(.int .u8 0),(.int .u8 0),(.int .u8 0),(.int .u8 0),(.int .u8 0),(.int .u8 0),(.int .u8 0),(.int .u8 0),(.int .u8 0),(.int .u8 0),(.int .u8 0),(.int .u8 0),(.int .u8 0),(.int .u8 0),(.int .u8 0),(.int .u8 0),(.int .u8 0),(.int .u8 0),(.int .u8 0),(.int .u8 0),(.int .u8 0),(.int .u8 0),(.int .u8 0),(.int .u8 0),(.int .u8 0),(.int .u8 0),(.int .u8 0),(.int .u8 0),(.int .u8 0),(.int .u8 0),(.int .u8 0),(.int .u8 0),(.int .u8 0),(.int .u8 0),(.int .u8 0),(.int .u8 0),(.int .u8 0),(.int .u8 0),(.int .u8 0),(.int .u8 0),(.int .u8 0),(.int .u8 0),(.int .u8 0),(.int .u8 0),(.int .u8 0),(.int .u8 0),(.int .u8 0),(.int .u8 0),(.int .u8 0),(.int .u8 0),(.int .u8 0),(.int .u8 0),(.int .u8 0),(.int .u8 0),(.int .u8 0),(.int .u8 0),(.int .u8 0),(.int .u8 0),(.int .u8 0),(.int .u8 0),(.int .u8 0),(.int .u8 0),(.int .u8 0),(.int .u8 0),(.int .u8 0),(.int .u8 0),(.int .u8 0),(.int .u8 0),(.int .u8 0),(.int .u8 0),(.int .u8 0),(.int .u8 0),(.int .u8 0),(.int .u8 0),(.int .u8 0),(.int .u8 0),(.int .u8 0),(.int .u8 0),(.int .u8 0),(.int .u8 0),(.int .u8 0),(.int .u8 0),(.int .u8 0),(.int .u8 0),(.int .u8 0),(.int .u8 0),(.int .u8 0),(.int .u8 0),(.int .u8 0),(.int .u8 0),(.int .u8 0),(.int .u8 0),(.int .u8 0),(.int .u8 0),(.int .u8 0),(.int .u8 0),(.int .u8 0),(.int .u8 0),(.int .u8 0),(.int .u8 0)] [(0,1,(.v (.bool true))),(1,1,(.t 5))]),
 yI 7 (.box (.t 6)),
 yM 3 7]
def q14r2:yW:=[
 yK 8 .i64 0]
def q14r3:yW:=[
 yJ 9 .lss 8 .i64 8]
def q14r4:yW:=[
 yM 10 8,
 yM 4 10]
def q14r5:yW:=[
 yM 11 3,
 yM 12 4,
 yM 13 0,
 yM 14 4,
 yD 15 41 13 14,
 yC 16 40 15,
 yI 17 (.nilc (.t 11)),
 yF 18 2 17,
 yI 19 (.iaArr 8 32 (.t 18) (.t 12)),
 yS 32 19 16]
def q14c6:yX:=yq q14r4 (.reg q14r5)
def q14r7:yW:=[
 yJ 20 .add 8 .i64 1,
 yM 8 20]
def q14c8:yX:=.seq (.block 1 q14c6) (.reg q14r7)
def q14c9:yX:=.seq (.cond (.t 9) .skip (.exit 0)) q14c8
def q14c10:yX:=yq q14r3 q14c9
def q14c11:yX:=.loop q14c10
def q14c12:yX:=.block 0 q14c11
def q14c13:yX:=yq q14r2 q14c12
def q14r14:yW:=[
 yM 21 3,
 yM 2 21]
def q14c15:yX:=yq q14r14 .ret
def q14c16:yX:=.seq q14c13 q14c15
def q14c17:yX:=yq q14r1 q14c16
def q14c18:yX:=yq q14r0 q14c17
attribute [go_sem] q14r0 q14r1 q14r2 q14r3 q14r4 q14r5 q14r7 q14r14
theorem q14ok:cFn TC 9=some (22,[.t 2],q14c18):=by kernel_rfl
def q15r0:yW:=[
 yI 2 (.alloc zZ0)]
def q15r1:yW:=[
 yM 3 0,
 yI 4 (.bin .eql .ptr (.t 3) (.v .nilp)),
 yM 5 4,
 yV 6 5 false 0,
 yG 7 5 false (.nilc (.t 6)),
 yT 8 5 false 0 7,
 yU 9 5 false false 1 8,
 yG 10 5 false (.un .not (.t 9)),
 yP 11 5 10]
def q15r2:yW:=[
 yI 12 (.build zZ0 []),
 yS 32 2 12]
def q15c3:yX:=yq q15r2 .ret
def q15c4:yX:=.cond (.t 11) q15c3 .skip
def q15c5:yX:=yq q15r1 q15c4
def q15r6:yW:=[
 yM 13 0,
 yI 14 (.nilc (.t 13)),
 yF 15 2 14,
 yI 16 (.slice (.arr 8 32) (.t 15) none none none),
 yC 17 42 16,
 yS 32 2 17]
def q15c7:yX:=yq q15r6 .ret
def q15c8:yX:=.seq q15c5 q15c7
def q15c9:yX:=yq q15r0 q15c8
attribute [go_sem] q15r0 q15r1 q15r2 q15r6
theorem q15ok:cFn TC 11=some (18,[.c 2 true 32],q15c9):=by kernel_rfl
def q16r0:yW:=[
 yI 5 (.box (.t 2)),
 yI 6 (.alloc [(.int .i64 0),(.str []),.nilsl]),
 yK 7 .i64 0]
def q16r1:yW:=[
 yM 11 0,
 yI 12 (.bin .eql .ptr (.t 11) (.v .nilp)),
 yM 13 12,
 yV 14 13 false 0,
 yG 15 13 false (.nilc (.t 14)),
 yT 16 13 false 0 15,
 yU 17 13 false false 1 16,
 yG 18 13 false (.un .not (.t 17)),
 yP 19 13 18,
 yM 10 19]
def q16r2:yW:=[
 yI 20 (.build [(.int .i64 0),(.str []),.nilsl] []),
 yS 3 6 20,
 yK 7 .i64 1]
def q16c3:yX:=yq q16r2 .ret
def q16r4:yW:=[
 yM 22 1,
 yJ 23 .lss 22 .i64 0,
 yM 24 23,
 yV 25 24 false 1,
 yG 26 24 false (.bin .geq .none (.t 25) (.v (.int .i64 8))),
 yP 27 24 26,
 yM 21 27]
def q16r5:yW:=[
 yI 28 (.build [(.int .i64 0),(.str []),.nilsl] []),
 yS 3 6 28,
 yK 7 .i64 2]
def q16c6:yX:=yq q16r5 .ret
def q16c7:yX:=.cond (.t 21) q16c6 .skip
def q16c8:yX:=yq q16r4 q16c7
def q16c9:yX:=.cond (.t 10) q16c3 q16c8
def q16c10:yX:=yq q16r1 q16c9
def q16r11:yW:=[
 yM 30 0,
 yI 31 (.nilc (.t 30)),
 yF 32 2 31,
 yI 33 (.slice (.arr 8 32) (.t 32) none none none),
 yM 34 1,
 yD 35 92 33 34,
 yM 29 35,
 yE 36 0 29,
 yE 37 1 29,
 yM 8 36,
 yM 9 37]
def q16r12:yW:=[
 yM 38 1,
 yM 39 0,
 yI 40 (.nilc (.t 39)),
 yF 41 1 40,
 ⟨some 42,none,.rd,.load false 1 (.t 41)⟩,
 yM 43 1,
 ⟨some 44,none,.rd,.load true 32 (.t 5)⟩,
 yI 45 (.call (.v (.fn 93 [])) [(.t 42),(.t 43),(.t 44)]),
 yM 46 8,
 yI 47 (.build [(.int .i64 0),(.str []),.nilsl] [(0,1,(.t 38)),(1,1,(.t 45)),(2,1,(.t 46))]),
 yS 3 6 47,
 yK 7 .i64 0]
def q16c13:yX:=yq q16r12 .ret
def q16c14:yX:=yq q16r11 q16c13
def q16c15:yX:=.seq (.block 0 q16c10) q16c14
def q16c16:yX:=yq q16r0 q16c15
attribute [go_sem] q16r0 q16r1 q16r2 q16r4 q16r5 q16r11 q16r12
theorem q16ok:cFn TC 43=some (48,[.c 6 true 3,.t 7],q16c16):=by kernel_rfl
def q17r0:yW:=[
 yI 3 (.box (.t 0)),
 yI 4 (.box (.t 1)),
 yI 5 (.box (.t 2)),
 yK 6 .i64 0]
def q17r1:yW:=[
 yF 9 0 5,
 yL 10 false 1 9,
 yJ 11 .lss 10 .i64 0,
 yM 12 11,
 yT 13 12 false 0 5,
 yU 14 12 false false 1 13,
 yG 15 12 false (.bin .geq .none (.t 14) (.v (.int .i64 8))),
 yP 16 12 15]
def q17r2:yW:=[
 yK 6 .i64 2]
def q17c3:yX:=yq q17r2 .ret
def q17c4:yX:=.cond (.t 16) q17c3 .skip
def q17c5:yX:=yq q17r1 q17c4
def q17r6:yW:=[
 yF 18 1 5,
 yL 19 false 1 18,
 yL 20 true 32 4,
 yD 21 134 19 20,
 yM 17 21,
 yE 22 0 17,
 yE 23 1 17,
 yI 7 (.alloc zZ0),
 yS 32 7 22,
 yM 8 23]
def q17r7:yW:=[
 yM 24 8,
 yJ 25 .neq 24 .i64 0,
 yM 26 25,
 yU 27 26 false true 32 7,
 yT 28 26 false 0 5,
 yU 29 26 false false 1 28,
 yT 30 26 false 2 5,
 yU 31 26 false false 1 30,
 yU 32 26 false true 32 3,
 yG 33 26 false (.call (.v (.fn 135 [])) [(.t 27),(.t 29),(.v (.int .i64 8)),(.t 31),(.t 32)]),
 yG 34 26 false (.bin .neq .none (.t 33) (.v (.int .i64 0))),
 yP 35 26 34]
def q17r8:yW:=[
 yK 6 .i64 81]
def q17c9:yX:=yq q17r8 .ret
def q17c10:yX:=.cond (.t 35) q17c9 .skip
def q17c11:yX:=yq q17r7 q17c10
def q17r12:yW:=[
 yK 6 .i64 0]
def q17c13:yX:=yq q17r12 .ret
def q17c14:yX:=.seq q17c11 q17c13
def q17c15:yX:=yq q17r6 q17c14
def q17c16:yX:=.seq q17c5 q17c15
def q17c17:yX:=yq q17r0 q17c16
attribute [go_sem] q17r0 q17r1 q17r2 q17r6 q17r7 q17r8 q17r12
theorem q17ok:cFn TC 98=some (36,[.t 6],q17c17):=by kernel_rfl
end
section
attribute [local irreducible] ACallsTo ACallsP
theorem zh5(O:Store)(r:Nat)(t:List UInt8)(hr:O[r]? =some (some [[.bld r,.bnil]]))(h0:t ≠ [])(hl:t.length<=1073741824):
  ACallsTo TC 83 [.ptr r 0 0,.str t] O (.tup [.int .i64 t.length,.any]) (O.set r (some [[.bld r,.bsl O.length t.length]])++ [some (zn t)]):=by
 have hz:t.length ≠ 0:=by simpa using h0
 have hs:=slen hr
 have hc:=zdh O r _ hr
 refine ACallsTo.of_body_keep q10ok (by simp) ?_
 repeat' (first|apply zs_|apply zb_|apply zc_|apply zt_ rfl|apply zf_ rfl|(apply zd_ rfl<;>intro ht<;>try omega)|((first|apply zr_|apply zk_|apply ze_|apply zq_|(apply callW.mk_pu;(first|exact(fun _=>hc)))|(apply callW.za;(first|exact(hc)))|(apply zG<;>intro ht));all_goals try simp (disch:=first|omega|(simp only [lens,zo,zw,lQd];first|done|omega)) only [go_sem,hr,hz,hs,z6l]))
theorem zh6(O:Store)(r rb:Nat)(s t:List UInt8)(hr:O[r]? =some (some [[.bld r,.bsl rb s.length]]))(hb:O[rb]? =some (some (zn s)))(hne:rb ≠ r)(h0:t ≠ [])(hl:s.length+t.length<=1073741824):
  ACallsTo TC 83 [.ptr r 0 0,.str t] O (.tup [.int .i64 t.length,.any]) ((O.set rb none).set r (some [[.bld r,.bsl O.length (s.length+t.length)]])++ [some (zn (s++t))]):=by
 have hz:t.length ≠ 0:=by simpa using h0
 have hs:=slen hr
 have hc:=zdh O r _ hr
 refine ACallsTo.of_body_keep q10ok (by simp) ?_
 repeat' (first|apply zs_|apply zb_|apply zc_|apply zt_ rfl|apply zf_ rfl|(apply zd_ rfl<;>intro ht<;>try omega)|((first|apply zr_|apply zk_|apply ze_|apply zq_|(apply callW.mk_pu;(first|exact(fun _=>hc)))|(apply callW.za;(first|exact(hc)))|(apply zG<;>intro ht));all_goals try simp (disch:=first|omega|(simp only [lens,zo,zw,lQd];first|done|omega)) only [go_sem,hr,hb,hz,hs,hne,z6l]))
theorem zo3(O:Store)(r:Nat)(b:UInt8)(hr:O[r]? =some (some [[.bld r,.bnil]])):
  ACallsTo TC 82 [.ptr r 0 0,.int .u8 b.toNat] O .any (O.set r (some [[.bld r,.bsl O.length 1]])++ [some (zn [b])]):=by
 have hs:=slen hr
 have hc:=zdh O r _ hr
 have hb:zn [b]=[[.int .u8 b.toNat]]:=rfl
 rw [hb]
 refine ACallsTo.of_body_keep q11ok (by simp) ?_
 repeat' (first|apply zs_|apply zb_|apply zc_|apply zt_ rfl|apply zf_ rfl|(apply zd_ rfl<;>intro ht<;>try omega)|((first|apply zr_|apply zk_|apply ze_|apply zq_|(apply callW.mk_pu;(first|exact(fun _=>hc)))|(apply callW.za;(first|exact(hc)))|(apply zG<;>intro ht));all_goals try simp (disch:=first|omega|(simp only [lens,zo,zw,lQd];first|done|omega)) only [go_sem,hr,hs,z6l]))
def BldN(τ O':Store)(r:Nat)(s:List UInt8):Prop:=
 τ.length<=r/\ (∃news,O'=τ++news)/\ ((s=[]/\ O'[r]? =some (some [[.bld r,.bnil]])) ∨
  (s ≠ []/\ ∃rb,τ.length<=rb/\ rb ≠ r/\ O'[r]? =some (some [[.bld r,.bsl rb s.length]])/\ O'[rb]? =some (some (zn s))))
theorem BldN.new{τ news:Store}{r:Nat}(hr:τ.length<=r)(h:(τ++news)[r]? =some (some [[.bld r,.bnil]])):BldN τ (τ++news) r []:=⟨hr,⟨news,rfl⟩,.inl ⟨rfl,h⟩⟩
theorem BldN.ext{τ O':Store}{r:Nat}{s:List UInt8}(h:BldN τ O' r s):∃news,O'=τ++news:=h.2.1
theorem BldN.more{τ O':Store}{r:Nat}{s:List UInt8}(h:BldN τ O' r s)(y:Store):BldN τ (O'++y) r s:=by
 obtain⟨h1,⟨news,rfl⟩,h2⟩:=h
 refine⟨h1,⟨news++y,by rw [List.append_assoc]⟩,?_⟩
 rcases h2 with⟨e,h2⟩| ⟨e,rb,h3,h4,h5,h6⟩
 ·exact .inl ⟨e,by rw [List.getElem?_append_left (slen h2)];exact h2⟩
 ·exact .inr ⟨e,rb,h3,h4,by rw [List.getElem?_append_left (slen h5)];exact h5,by rw [List.getElem?_append_left (slen h6)];exact h6⟩
theorem z9u{τ news:Store}{r:Nat}(x:Option AObj)(h:τ.length<=r):(τ++news).set r x=τ++news.set (r-τ.length) x:=by rw [List.set_append_right _ _ h]
theorem BldN.write{τ O':Store}{r:Nat}{s t:List UInt8}(h:BldN τ O' r s)(h0:t ≠ [])(hl:s.length+t.length<=1073741824):
  ∃O2,ACallsTo TC 83 [.ptr r 0 0,.str t] O' (.tup [.int .i64 t.length,.any]) O2/\ BldN τ O2 r (s++t):=by
 obtain⟨h1,⟨news,rfl⟩,⟨rfl,h2⟩| ⟨e,rb,h3,h4,h5,h6⟩⟩:=h
 ·refine⟨_,zh5 _ r t h2 h0 (by simpa using hl),h1,⟨_,by rw [z9u _ h1,List.append_assoc]⟩,.inr ⟨by simpa using h0,(τ++news).length,by simp,?_,?_,?_⟩⟩
  ·have:=slen h2;omega
  ·rw [List.getElem?_append_left (by rw [List.length_set];exact slen h2),List.getElem?_set_self (slen h2)];rfl
  ·rw [List.getElem?_append_right (by rw [List.length_set];exact Nat.le_refl _),List.length_set,Nat.sub_self];rfl
 ·refine⟨_,zh6 _ r rb s t h5 h6 h4 h0 hl,h1,⟨_,by rw [z9u _ h3,z9u _ h1,List.append_assoc]⟩,.inr ⟨by simp [e],(τ++news).length,by simp,?_,?_,?_⟩⟩
  ·have:=slen h5;omega
  ·rw [List.getElem?_append_left (by rw [List.length_set,List.length_set];exact slen h5),List.getElem?_set_self (by rw [List.length_set];exact slen h5)];simp
  ·rw [List.getElem?_append_right (by rw [List.length_set,List.length_set];exact Nat.le_refl _),List.length_set,List.length_set,Nat.sub_self];rfl
theorem BldN.byte{τ O':Store}{r:Nat}(b:UInt8)(h:BldN τ O' r []):∃O2,ACallsTo TC 82 [.ptr r 0 0,.int .u8 b.toNat] O' .any O2/\ BldN τ O2 r [b]:=by
 obtain⟨h1,⟨news,rfl⟩,⟨_,h2⟩| ⟨e,_⟩⟩:=h
 ·refine⟨_,zo3 _ r b h2,h1,⟨_,by rw [z9u _ h1,List.append_assoc]⟩,.inr ⟨by simp,(τ++news).length,by simp,?_,?_,?_⟩⟩
  ·have:=slen h2;omega
  ·rw [List.getElem?_append_left (by rw [List.length_set];exact slen h2),List.getElem?_set_self (slen h2)];rfl
  ·rw [List.getElem?_append_right (by rw [List.length_set];exact Nat.le_refl _),List.length_set,Nat.sub_self];rfl
 ·exact absurd rfl e
theorem BldN.string{τ O':Store}{r:Nat}{s:List UInt8}(h:BldN τ O' r s)(h0:s ≠ [])(hl:s.length<=1073741824):
  ∃news,ACallsTo TC 86 [.ptr r 0 0] O' (.str s) (τ++news):=by
 obtain⟨h1,⟨news,rfl⟩,⟨rfl,h2⟩| ⟨e,rb,h3,h4,h5,h6⟩⟩:=h
 ·exact absurd rfl h0
 ·have:=zd2 _ r rb s h0 hl h5 h6
  rw [z9u _ h3]at this
  exact⟨_,this⟩
end
section
attribute [local irreducible] ACallsTo ACallsP
theorem z4u(O:Store)(h:Hash):ACallsTo TC 84 [.agg (hc h)] O (.str h.1) O:=z80 O h.1 h.2
theorem zke(n:Nat):numS n ≠ []:=by
 unfold numS
 split<;>simp
theorem zq2(O:Store)(l:List Hash)(x:AV)(hx:SlV 32 (hr l) x)(hl:l.length<1000000):ACallsTo TC 164 [x] O (.str (z40 l)) O:=by
 refine ACallsTo.of_body qqok (by simp) fun hw _=> ?_
 have r1:=hx.len
 rw [zi]at r1
 unfold z1k at r1
 unfold z40
 by_cases h64:64<l.length
 ·rw [if_pos h64]
  repeat' (first|apply zs_|apply zb_|apply zc_|apply zt_ rfl|apply zf_ rfl|(apply zd_ rfl<;>intro ht<;>try omega)|((first|apply zr_|apply zk_|apply ze_|apply zq_|(apply zG<;>intro ht));all_goals try simp (disch:=first|omega|(simp only [lens,z6,zi,lQr,zo,zw,lQd];first|done|omega)) only [go_sem,r1]))
  exact DownV.same hw z4k
 ·rw [if_neg h64]
  have hN:=fun O=>z7a O l.length (by omega)
  have hNl:=z24 l.length
  have hNn:=zke l.length
  generalize numS l.length=N at*
  have b0:BldN O (O++ [some [[.bld O.length,.bnil]]]) O.length []:=BldN.new (Nat.le_refl _) (by simp)
  obtain⟨O1,w1,b1⟩:=b0.write hNn (by simp;omega)
  rw [List.nil_append]at b1
  repeat' (first|apply zs_|apply zb_|apply zc_|apply zt_ rfl|apply zf_ rfl|(apply zd_ rfl<;>intro ht<;>try omega)|((first|apply zr_|apply zk_|apply ze_|apply zq_|(apply callW.mk_pu;(first|exact(fun _=>hN _)|exact(fun _=>w1)))|(apply callW.za;(first|exact(hN _)|exact(w1)))|(apply zG<;>intro ht));all_goals try simp (disch:=first|omega|(simp only [lens,z6,zi,lQr,zo,zw,lQd];first|done|omega)) only [go_sem,r1]))
  refine zW.loop (fun m J O'=>∃i:Nat,m+i=l.length/\ BldN O O' O.length (N++catS (l.take i))/\ J 3=.ptr O.length 0 0/\ J 14=x/\ J 15=.int .i64 l.length/\ J 16=.int .i64 i) l.length ?_ ?_
  ·exact⟨0,by omega,by simpa [catS]using b1,by simp (disch:=first|omega|(simp only [lens,z6,zi,lQr,zo,zw,lQd];first|done|omega)) only [go_sem],by simp (disch:=first|omega|(simp only [lens,z6,zi,lQr,zo,zw,lQd];first|done|omega)) only [go_sem],by simp (disch:=first|omega|(simp only [lens,z6,zi,lQr,zo,zw,lQd];first|done|omega)) only [go_sem,r1],by simp (disch:=first|omega|(simp only [lens,z6,zi,lQr,zo,zw,lQd];first|done|omega)) only [go_sem];rfl⟩
  ·clear w1 b1 b0
   rintro m J O' ⟨i,hm,hB,q3,q14,q15,q16⟩
   have hcl:=z6h (l.take i)
   rw [List.length_take]at hcl
   by_cases hi:i<l.length
   ·obtain⟨e1,rfl⟩:=hx.vsl (by rw [zi];omega)
    have hH:=fun O=>z4u O (hd l i)
    have hst:=zi9 hi
    have h32:=(hd l i).2
    obtain⟨O2,w2,b2⟩:=(hB.more [some [hc (hd l i)]]).write (t:=(hd l i).1) (by intro e;rw [e]at h32;simp at h32) (by simp;omega)
    repeat' (first|apply zs_|apply zb_|apply zc_|apply zt_ rfl|apply zf_ rfl|(apply zd_ rfl<;>intro ht<;>try omega)|((first|apply zr_|apply zk_|apply ze_|apply zq_|(apply callW.mk_pu;(first|exact(fun _=>hH _)|exact(fun _=>w2)))|(apply callW.za;(first|exact(hH _)|exact(w2)))|(apply zG<;>intro ht));all_goals try simp (disch:=first|omega|(simp only [lens,z6,zi,lQr,zo,zw,lQd];first|done|omega)) only [go_sem,q3,q14,q15,q16]))
    refine⟨m-1,by omega,i+1,by omega,?_,by simp⟩
    rw [hst,<-List.append_assoc];exact b2
   ·have e:l.take i=l:=List.take_of_length_le (by omega)
    rw [e]at hB
    have hcl2:=z6h l
    obtain⟨news,w3⟩:=hB.string (by simp [hNn]) (by simp;omega)
    repeat' (first|apply zs_|apply zb_|apply zc_|apply zt_ rfl|apply zf_ rfl|(apply zd_ rfl<;>intro ht<;>try omega)|((first|apply zr_|apply zk_|apply ze_|apply zq_|(apply callW.mk_pu;(first|exact(fun _=>w3)))|(apply callW.za;(first|exact(w3)))|(apply zG<;>intro ht));all_goals try simp (disch:=first|omega|(simp only [lens,z6,zi,lQr,zo,zw,lQd];first|done|omega)) only [go_sem,q3,q14,q15,q16]))
    exact DownV.pure hw z4k
theorem zq1(O:Store)(l:List Hash)(x:AV)(hx:RdSl O 32 (hr l) x)(hl:l.length<1000000):ACallsTo TC 164 [x] O (.str (z40 l)) O:=by
 obtain⟨x0,h0,hd⟩:=hx.lend (z3x l)
 have:=ACallsTo.lend glok (zq2 [] l x0 h0 hl) (drs1 hd)
 rwa [show sh O.length (.str (z40 l))=.str (z40 l)from rfl,z9w,List.append_nil]at this
end
section
attribute [local irreducible] ACallsTo ACallsP
def z7o(s:List UInt8):Hash:=shaH (3::s)
def z3h(hs:List Hash):Hash:=if hs.length=512 then shaH (4::catS hs)else zeroH
theorem zdu(h:Hash):h.1 ≠ []:=fun e=>by have:=h.2;rw [e]at this;simp at this
theorem z62{k:Nat}(h:Hash):RL k (.agg (hc h)):=by simp only [RL];exact z7m h
theorem zdx:hc zeroH=[.int .u8 0,.int .u8 0,.int .u8 0,.int .u8 0,.int .u8 0,.int .u8 0,.int .u8 0,.int .u8 0,.int .u8 0,.int .u8 0,.int .u8 0,.int .u8 0,.int .u8 0,.int .u8 0,.int .u8 0,.int .u8 0,.int .u8 0,.int .u8 0,.int .u8 0,.int .u8 0,.int .u8 0,.int .u8 0,.int .u8 0,.int .u8 0,.int .u8 0,.int .u8 0,.int .u8 0,.int .u8 0,.int .u8 0,.int .u8 0,.int .u8 0,.int .u8 0]:=rfl
theorem zcg(O:Store)(s:List UInt8)(h:s.length<100000000000):ACallsTo TC 85 [.str s] O (.agg (hc (shaH s))) O:=z8f O s h
theorem zyk(O:Store)(s:List UInt8)(h:s.length<900000000):ACallsTo TC 94 [.str s] O (.agg (hc (shaH s))) O:=zyl O s h
theorem zmc(O:Store)(s:List UInt8)(h:s.length<1000000):ACallsTo TC 87 [.str s] O (.agg (hc (z7o s))) O:=by
 have hS:=fun O=>zcg O (3::s) (by simp;omega)
 refine ACallsTo.of_body q12ok (by simp) fun hw _=> ?_
 unfold z7o
 repeat' (first|apply zs_|apply zb_|apply zc_|apply zt_ rfl|apply zf_ rfl|(apply zd_ rfl<;>intro ht<;>try omega)|((first|apply zr_|apply zk_|apply ze_|apply zq_|(apply callW.mk_pu;(first|exact(fun _=>hS _)))|(apply callW.za;(first|exact(hS _)))|(apply zG<;>intro ht));all_goals try simp (disch:=first|omega|(simp only [lens,z6,zi,lQr,zo,zw,lQd];first|done|omega)) only [go_sem]))
 exact DownV.pure hw (z62 _)
theorem zgt(O:Store)(hs:List Hash)(x:AV)(hx:SlV 32 (hr hs) x)(hl:hs.length<1000000):ACallsTo TC 40 [x] O (.agg (hc (z3h hs))) O:=by
 refine ACallsTo.of_body qwok (by simp) fun hw _=> ?_
 have r1:=hx.len
 rw [zi]at r1
 unfold z1k at r1
 unfold z3h
 by_cases h5:hs.length=512
 ·rw [if_pos h5]
  have h5':(hs.length:Int)=512:=by omega
  have hτ:(O++ [some [hc zeroH]]).length=O.length+1:=by simp
  have b0:BldN (O++ [some [hc zeroH]]) (O++ [some [hc zeroH]]++ [some [[.bld (O.length+1),.bnil]]]) (O.length+1) []:=BldN.new (by omega) (by rw [List.getElem?_append_right (by omega)];simp)
  have out:∀{O':Store} {s:List UInt8},BldN (O++ [some [hc zeroH]]) O' (O.length+1) s->O'[O.length]? =some (some [hc zeroH])/\ Ext O O':=fun h=>by
   obtain⟨news,rfl⟩:=h.ext
   exact⟨by simp,⟨some [hc zeroH]::news,by simp⟩⟩
  obtain⟨O1,w1,b1⟩:∃O1,ACallsTo TC 82 [.ptr (O.length+1) 0 0,.int .u8 4] (O++ [some [hc zeroH]]++ [some [[AV.bld (O.length+1),AV.bnil]]]) .any O1/\ BldN (O++ [some [hc zeroH]]) O1 (O.length+1) [4]:=b0.byte 4
  rw [List.append_assoc,zdx]at w1
  repeat' (first|apply zs_|apply zb_|apply zc_|apply zt_ rfl|apply zf_ rfl|(apply zd_ rfl<;>intro ht<;>try omega)|((first|apply zr_|apply zk_|apply ze_|apply zq_|(apply callW.mk_pu;(first|exact(fun _=>w1)))|(apply callW.za;(first|exact(w1)))|(apply zG<;>intro ht));all_goals try simp (disch:=first|omega|(simp only [lens,z6,zi,lQr,zo,zw,lQd];first|done|omega)) only [go_sem,r1,h5']))
  refine zW.loop (fun m J O'=>∃i:Nat,m+i=hs.length/\ BldN (O++ [some [hc zeroH]]) O' (O.length+1) (4::catS (hs.take i))/\ J 2=.ptr O.length 0 0/\ J 3=.ptr (O.length+1) 0 0/\ J 11=x/\ J 12=.int .i64 512/\ J 13=.int .i64 i) hs.length ?_ ?_
  ·exact⟨0,by omega,by simpa [catS]using b1,by simp (disch:=first|omega|(simp only [lens,z6,zi,lQr,zo,zw,lQd];first|done|omega)) only [go_sem],by simp (disch:=first|omega|(simp only [lens,z6,zi,lQr,zo,zw,lQd];first|done|omega)) only [go_sem],by simp (disch:=first|omega|(simp only [lens,z6,zi,lQr,zo,zw,lQd];first|done|omega)) only [go_sem],by simp (disch:=first|omega|(simp only [lens,z6,zi,lQr,zo,zw,lQd];first|done|omega)) only [go_sem],by simp (disch:=first|omega|(simp only [lens,z6,zi,lQr,zo,zw,lQd];first|done|omega)) only [go_sem];rfl⟩
  ·clear w1 b1 b0
   rintro m J O' ⟨i,hm,hB,q2,q3,q11,q12,q13⟩
   have hcl:=z6h (hs.take i)
   rw [List.length_take]at hcl
   by_cases hi:i<hs.length
   ·obtain⟨e1,rfl⟩:=hx.vsl (by rw [zi];omega)
    have hH:=fun O=>z4u O (hd hs i)
    have hst:=zi9 hi
    have h32:=(hd hs i).2
    obtain⟨O2,w2,b2⟩:=(hB.more [some [hc (hd hs i)]]).write (t:=(hd hs i).1) (zdu _) (by simp;omega)
    have hi5:(i:Int)<512:=by omega
    repeat' (first|apply zs_|apply zb_|apply zc_|apply zt_ rfl|apply zf_ rfl|(apply zd_ rfl<;>intro ht<;>try omega)|((first|apply zr_|apply zk_|apply ze_|apply zq_|(apply callW.mk_pu;(first|exact(fun _=>hH _)|exact(fun _=>w2)))|(apply callW.za;(first|exact(hH _)|exact(w2)))|(apply zG<;>intro ht));all_goals try simp (disch:=first|omega|(simp only [lens,z6,zi,lQr,zo,zw,lQd];first|done|omega)) only [go_sem,q2,q3,q11,q12,q13,hi5]))
    refine⟨m-1,by omega,i+1,by omega,?_,by simp⟩
    rw [hst,<-List.cons_append];exact b2
   ·have e:hs.take i=hs:=List.take_of_length_le (by omega)
    rw [e]at hB
    have hcl2:=z6h hs
    obtain⟨c0,he⟩:=out hB
    obtain⟨news,w3⟩:=hB.string (by simp) (by simp;omega)
    have hi5:¬(i:Int)<512:=by omega
    have hS:=fun O=>zcg O (4::catS hs) (by simp;omega)
    have ha:O++ [some [hc zeroH]]++news=O++(some [hc zeroH]::news):=by simp
    rw [ha]at w3
    repeat' (first|apply zs_|apply zb_|apply zc_|apply zt_ rfl|apply zf_ rfl|(apply zd_ rfl<;>intro ht<;>try omega)|((first|apply zr_|apply zk_|apply ze_|apply zq_|(apply callW.mk_pu;(first|exact(fun _=>w3)|exact(fun _=>hS _)))|(apply callW.za;(first|exact(w3)|exact(hS _)))|(apply zG<;>intro ht));all_goals try simp (disch:=first|omega|(simp only [lens,z6,zi,lQr,zo,zw,lQd];first|done|omega)) only [go_sem,q2,q3,q11,q12,q13,hi5]))
    exact DownV.pure hw (z62 _)
 ·have h5':¬(hs.length:Int)=512:=by omega
  rw [if_neg h5]
  repeat' (first|apply zs_|apply zb_|apply zc_|apply zt_ rfl|apply zf_ rfl|(apply zd_ rfl<;>intro ht<;>try omega)|((first|apply zr_|apply zk_|apply ze_|apply zq_|(apply zG<;>intro ht));all_goals try simp (disch:=first|omega|(simp only [lens,z6,zi,lQr,zo,zw,lQd];first|done|omega)) only [go_sem,r1,h5']))
  exact DownV.pure hw (z62 zeroH)
end
section
attribute [local irreducible] ACallsTo ACallsP
theorem Leaf_h(O:Store)(hs:List Hash)(x:AV)(hx:RdSl O 32 (hr hs) x)(hl:hs.length<1000000):ACallsTo TC 40 [x] O (.agg (hc (z3h hs))) O:=by
 obtain⟨x0,h0,hd⟩:=hx.lend (z3x hs)
 have:=ACallsTo.lend glok (zgt [] hs x0 h0 hl) (drs1 hd)
 rwa [show sh O.length (.agg (hc (z3h hs)))=.agg (hc (z3h hs))from by simp only [sh,zfr],z9w,List.append_nil]at this
theorem OwnR.appB{k:Nat}{O':Store}{v:AV}{es ys:List (List AV)}(h:OwnR 1 k O' v es):z4e O' v ys=aApp O' 1 v ys:=by
 rcases h with⟨rfl,rfl⟩| ⟨r,_,_,rfl,h⟩<;>rfl
theorem zjc(h:Hash):chunk 1 32 (hc h)=zn h.1:=by have:=zde h.1;rwa [h.2]at this
end
section
def recS(sig d:List UInt8)(i:Nat)(L:List Hash):List Hash:=
 (L.set (2*i+bitS d i) (z7o ((sig.take (32*i+32)).drop (32*i)))).set (2*i+1-bitS d i) (toH ((sig.drop (8192+32*i)).take 32))
def recF(sig d:List UInt8):Nat->List Hash
 | 0=>List.replicate 512 zeroH
 |i+1=>recS sig d i (recF sig d i)
theorem z49(sig d:List UInt8):∀i,(recF sig d i).length=512
 | 0=>by rw [recF,List.length_replicate]
 |i+1=>by rw [recF,recS,List.length_set,List.length_set,z49 sig d i]
theorem zaw(s:List UInt8)(i:Int):bitS s i<=1:=by
 unfold bitS
 split<;>omega
def recV(sig d:List UInt8):AV:=if sig.length=16384 then .tup [.agg (hc (z3h (recF sig d 256))),.int .i64 0]else .tup [.agg (hc zeroH),.int .i64 10]
theorem zjh:List.replicate 512 (hc zeroH)=hr (List.replicate 512 zeroH):=by rw [hr,List.map_replicate]
theorem rl_hi{k:Nat}{h:Hash}{e:Int}:RL k (.tup [.agg (hc h),.int .i64 e]):=by simp only [RL,RLs];exact⟨z7m h,trivial,trivial⟩
attribute [local irreducible] ACallsTo ACallsP
theorem znx(O:Store)(sig:List UInt8)(dg:Hash)(hs:sig.length<1000000):ACallsTo TC 134 [.str sig,.agg (hc dg)] O (recV sig dg.1) O:=by
 refine ACallsTo.of_body qzok (by simp) fun hw _=> ?_
 unfold recV
 by_cases hl:sig.length=16384
 ·have hl':(sig.length:Int)=16384:=by omega
  rw [if_pos hl]
  have hC:=fun O=>z4u O dg
  have hz:=zjh
  rw [zdx]at hz
  repeat' (first|apply zs_|apply zb_|apply zc_|apply zt_ rfl|apply zf_ rfl|(apply zd_ rfl<;>intro ht<;>try omega)|((first|apply zr_|apply zk_|apply ze_|apply zq_|(apply callW.mk_pu;(first|exact(fun _=>hC _)))|(apply callW.za;(first|exact(hC _)))|(apply zG<;>intro ht));all_goals try simp (disch:=first|omega|(simp only [lens,z6,zi,lQr,zo,zw,lQd,z49];first|done|omega)) only [go_sem,hl',hz]))
  refine zW.loop (fun m J O'=>∃i:Nat,m+i=256/\ Ext O O'/\ O'[O.length+1]? =some (some [hc zeroH])/\ O'[O.length+2]? =some (some (hr (recF sig dg.1 i)))/\ J 0=.str sig/\ J 4=.ptr (O.length+1) 0 0/\ J 6=.str dg.1/\ J 7=.sl (O.length+2) 0 512 (some 512) 32/\ J 19=.int .i64 i) 256 ?_ ?_
  ·exact⟨0,by omega,(Ext.refl O).app,by rw [z19 (by omega),Nat.add_sub_cancel_left];rfl,by rw [z19 (by omega),Nat.add_sub_cancel_left];rfl,by simp (disch:=first|omega|(simp only [lens,z6,zi,lQr,zo,zw,lQd,z49];first|done|omega)) only [go_sem],by simp (disch:=first|omega|(simp only [lens,z6,zi,lQr,zo,zw,lQd,z49];first|done|omega)) only [go_sem],by simp (disch:=first|omega|(simp only [lens,z6,zi,lQr,zo,zw,lQd,z49];first|done|omega)) only [go_sem],by simp (disch:=first|omega|(simp only [lens,z6,zi,lQr,zo,zw,lQd,z49];first|done|omega)) only [go_sem],by simp (disch:=first|omega|(simp only [lens,z6,zi,lQr,zo,zw,lQd,z49];first|done|omega)) only [go_sem];rfl⟩
  ·rintro m J O' ⟨i,hm,he,c1,c2,q0,q4,q6,q7,q19⟩
   have d1:=slen c1
   have d2:=slen c2
   have hrl:=z49 sig dg.1 i
   by_cases hi:i<256
   ·have hi':(i:Int)<256:=by omega
    have hdl:=dg.2
    have hB:=fun O=>zhl O dg.1 i (by omega) (by omega)
    have hb1:=zaw dg.1 i
    have hnx:recF sig dg.1 (i+1)=recS sig dg.1 i (recF sig dg.1 i):=rfl
    unfold recS at hnx
    have hSh:=fun O=>zmc O ((sig.take (32*i+32)).drop (32*i)) (by rw [List.length_drop,List.length_take];omega)
    have hU:=fun O=>z81 O (sig.drop (8192+32*i)) (by rw [List.length_drop];omega)
    rw [za5 (by rw [List.length_drop];omega),zgp]at hU
    generalize recF sig dg.1 i=L at*
    generalize bitS dg.1 i=b at*
    generalize z7o ((sig.take (32*i+32)).drop (32*i))=A at*
    generalize toH ((sig.drop (8192+32*i)).take 32)=B at*
    have n1:((i:Int)*32).toNat=32*i:=by omega
    have n2:(((i:Int)+1)*32).toNat=32*i+32:=by omega
    have n3:((256+(i:Int))*32).toNat=8192+32*i:=by omega
    have n4:(2*(i:Int)+b).toNat=2*i+b:=by omega
    have n5:(2*(i:Int)+1-b).toNat=2*i+1-b:=by omega
    have m1:(L.set (2*i+b) A).length=512:=by rw [List.length_set];exact hrl
    have g1:=zbd (l:=L) (i:=2*i+b) (by omega)
    have g2:=zbd (l:=L.set (2*i+b) A) (i:=2*i+1-b) (by omega)
    repeat' (first|apply zs_|apply zb_|apply zc_|apply zt_ rfl|apply zf_ rfl|(apply zd_ rfl<;>intro ht<;>try omega)|((first|apply zr_|apply zk_|apply ze_|apply zq_|(apply callW.mk_pu;(first|exact(fun _=>hB _)|exact(fun _=>hSh _)|exact(fun _=>hU _)))|(apply callW.za;(first|exact(hB _)|exact(hSh _)|exact(hU _)))|(apply zG<;>intro ht));all_goals try simp (disch:=first|omega|(simp only [lens,z6,zi,lQr,zo,zw,lQd,z49];first|done|omega)) only [go_sem,q0,q4,q6,q7,q19,c1,c2,hi',hl',n1,n2,n3,n4,n5,hrl,m1,g1,g2]))
    exact⟨m-1,by omega,i+1,by omega,he.set (by omega),by rw [hnx],by simp⟩
   ·have hi':¬(i:Int)<256:=by omega
    obtain rfl:i=256:=by omega
    have hL:=fun y=>Leaf_h (O'++y) (recF sig dg.1 256) (.sl (O.length+2) 0 512 (some 512) 32) (.inr ⟨O.length+2,0,some 512,hr (recF sig dg.1 256),by rw [zi,hrl],by rw [gapp d2];exact c2,by rw [zi,hrl];decide,by rw [List.drop_zero,List.take_of_length_le (Nat.le_refl _)]⟩) (by omega)
    have hL0:=hL []
    rw [List.append_nil]at hL0
    repeat' (first|apply zs_|apply zb_|apply zc_|apply zt_ rfl|apply zf_ rfl|(apply zd_ rfl<;>intro ht<;>try omega)|((first|apply zr_|apply zk_|apply ze_|apply zq_|(apply callW.mk_pu;(first|exact(fun _=>hL0)))|(apply callW.za;(first|exact(hL0)))|(apply zG<;>intro ht));all_goals try simp (disch:=first|omega|(simp only [lens,z6,zi,lQr,zo,zw,lQd,z49];first|done|omega)) only [go_sem,q0,q4,q6,q7,q19,c1,c2,hi']))
    exact Ext.pure hw (he.set (by omega)) rl_hi
 ·have hl':¬(sig.length:Int)=16384:=by omega
  rw [if_neg hl]
  repeat' (first|apply zs_|apply zb_|apply zc_|apply zt_ rfl|apply zf_ rfl|(apply zd_ rfl<;>intro ht<;>try omega)|((first|apply zr_|apply zk_|apply ze_|apply zq_|(apply zG<;>intro ht));all_goals try simp (disch:=first|omega|(simp only [lens,z6,zi,lQr,zo,zw,lQd,z49];first|done|omega)) only [go_sem,hl']))
  exact DownV.pure hw (rl_hi (h:=zeroH))
end
section
def z2o:Nat->Nat->Nat->Nat × Nat
 | 0,i,l=>(i,l)
 |f+1,i,l=>if i%2=0/\ 0<i then z2o f (i/2) (l/2)else(i,l)
def z2l:List Hash->Hash->Nat->Nat->Hash × Nat × Nat
 | [],h,_,l=>(h,l,0)
 |p::ps,h,i,l=>if l=0 then(h,0,0)else
  if i%2=1 \/i=l then let r:=z2l ps (z16 p h) ((z2o 13 i l).1/2) ((z2o 13 i l).2/2);(r.1,r.2.1,r.2.2+1)
  else let r:=z2l ps (z16 h p) (i/2) (l/2);(r.1,r.2.1,r.2.2+1)
def z3v(r:Hash × Nat × Nat)(root:Hash)(len:Nat):Int:=if r.2.1 ≠ 0 \/r.2.2 ≠ len \/r.1 ≠ root then 80 else 0
def chkP(leaf:Hash)(i n:Int)(path:List Hash)(root:Hash):Int:=
 if n<1 \/4096<n \/i<0 \/n<=i then 2 else z3v (z2l path leaf i.toNat (n.toNat-1)) root path.length
theorem zms{f i l:Nat}(h:¬(i%2=0/\ 0<i)):z2o f i l=(i,l):=by
 cases f with
 |zero=>rfl
 |succ f=>rw [z2o,if_neg h]
attribute [local irreducible] ACallsTo ACallsP
theorem zne(O:Store)(leaf:Hash)(i n:Int)(path:List Hash)(x:AV)(root:Hash)(hx:SlV 32 (hr path) x)(hl:path.length<1000000)(hi: -9223372036854775808<=i/\ i<=9223372036854775807)(hn: -9223372036854775808<=n/\ n<=9223372036854775807):
  ACallsTo TC 135 [.agg (hc leaf),.int .i64 i,.int .i64 n,x,.agg (hc root)] O (.int .i64 (chkP leaf i n path root)) O:=by
 have r1:=hx.len
 rw [zi]at r1
 unfold z1k at r1
 unfold chkP
 by_cases hb:n<1 \/4096<n \/i<0 \/n<=i
 ·rw [if_pos hb]
  refine ACallsTo.of_body quok (by simp) fun hw _=> ?_
  repeat' (first|apply zs_|apply zb_|apply zc_|apply zt_ rfl|apply zf_ rfl|(apply zd_ rfl<;>intro ht<;>try omega)|((first|apply zr_|apply zk_|apply ze_|apply zq_|(apply zG<;>intro ht));all_goals try simp (disch:=first|omega|(simp only [lens,z6,zi,lQr,lQd];first|done|omega)) only [go_sem,r1]))
  all_goals exact DownV.pure hw (z1d _ rfl)
 ·rw [if_neg hb]
  obtain⟨i,rfl⟩:∃k:Nat,i=k:=⟨i.toNat,by omega⟩
  obtain⟨l,rfl⟩:∃l:Nat,n=((l+1:Nat):Int):=⟨n.toNat-1,by omega⟩
  rw [Int.toNat_natCast,Int.toNat_natCast,Nat.add_sub_cancel]
  have hl1:((l+1:Nat):Int)-1=(l:Int):=by omega
  refine ACallsTo.of_body quok (by simp) fun hw _=> ?_
  repeat' (first|apply zs_|apply zb_|apply zc_|apply zt_ rfl|apply zf_ rfl|(apply zd_ rfl<;>intro ht<;>try omega)|((first|apply zr_|apply zk_|apply ze_|apply zq_|(apply zG<;>intro ht));all_goals try simp (disch:=first|omega|(simp only [lens,z6,zi,lQr,lQd];first|done|omega)) only [go_sem,r1,hl1]))
  obtain⟨R,hR⟩:∃R,z2l path leaf i l=R:=⟨_,rfl⟩
  rw [hR]
  refine zW.loop (fun m J O'=>∃(k i' l':Nat) (h:Hash),m+k=path.length/\ Ext O O'/\ i'<=l'/\ l'<4096/\ R=((z2l (path.drop k) h i' l').1,(z2l (path.drop k) h i' l').2.1,(z2l (path.drop k) h i' l').2.2+k)/\ O'[O.length]? =some (some [hc h])/\ O'[O.length+1]? =some (some [hc root]) ∧
   J 1=.int .i64 i'/\ J 3=x/\ J 5=.ptr O.length 0 0/\ J 9=.ptr (O.length+1) 0 0/\ J 11=.int .i64 l'/\ J 12=.int .i64 k/\ J 32=x/\ J 33=.int .i64 path.length/\ J 34=.int .i64 k) path.length ?_ ?_
  ·exact⟨0,i,l,leaf,by omega,(Ext.refl O).app,by omega,by omega,by rw [List.drop_zero,hR];rfl,by simp,by simp,by simp (disch:=first|omega|(simp only [lens,z6,zi,lQr,lQd];first|done|omega)) only [go_sem],by simp (disch:=first|omega|(simp only [lens,z6,zi,lQr,lQd];first|done|omega)) only [go_sem],by simp (disch:=first|omega|(simp only [lens,z6,zi,lQr,lQd];first|done|omega)) only [go_sem],by simp (disch:=first|omega|(simp only [lens,z6,zi,lQr,lQd];first|done|omega)) only [go_sem],by simp (disch:=first|omega|(simp only [lens,z6,zi,lQr,lQd];first|done|omega)) only [go_sem],by simp (disch:=first|omega|(simp only [lens,z6,zi,lQr,lQd];first|done|omega)) only [go_sem];rfl,by simp (disch:=first|omega|(simp only [lens,z6,zi,lQr,lQd];first|done|omega)) only [go_sem],by simp (disch:=first|omega|(simp only [lens,z6,zi,lQr,lQd];first|done|omega)) only [go_sem,r1],by simp (disch:=first|omega|(simp only [lens,z6,zi,lQr,lQd];first|done|omega)) only [go_sem];rfl⟩
  ·clear hR
   rintro m J O' ⟨k,i',l',h,hm,he,hil,hl4,hR,c0,c1,q1,q3,q5,q9,q11,q12,q32,q33,q34⟩
   have d0:=slen c0
   have d1:=slen c1
   by_cases hk:k<path.length
   ·have hdr:path.drop k=hd path k::path.drop (k+1):=by
     rw [List.drop_eq_getElem_cons hk,z9b hk]
    rw [hdr]at hR
    obtain⟨ex,rfl⟩:=hx.vsl (by rw [zi];omega)
    by_cases hl0:l'=0
    ·subst hl0
     simp only [z2l,if_true]at hR
     subst hR
     repeat' (first|apply zs_|apply zb_|apply zc_|apply zt_ rfl|apply zf_ rfl|(apply zd_ rfl<;>intro ht<;>try omega)|((first|apply zr_|apply zk_|apply ze_|apply zq_|(apply zG<;>intro ht));all_goals try simp (disch:=first|omega|(simp only [lens,z6,zi,lQr,lQd];first|done|omega)) only [go_sem,q1,q3,q5,q9,q11,q12,q32,q33,q34,c0,c1]))
     have hE:z3v (h,0,0+k) root path.length=80:=by
      unfold z3v
      rw [if_pos (.inr (.inl (by show 0+k ≠ _;omega)))]
     rw [Nat.zero_add]at hE
     rw [hE]
     exact Ext.pure hw he.app (z1d _ rfl)
    ·have hl0':¬(l':Int)=0:=by omega
     have t1:(i':Int)/2=((i'/2:Nat):Int):=by simp
     have t2:(l':Int)/2=((l'/2:Nat):Int):=by simp
     by_cases hcc:i'%2=1 \/i'=l'
     ·simp only [z2l]at hR
      rw [if_neg hl0,if_pos hcc]at hR
      have hN:=fun O=>zmz O (hd path k) h
      generalize z16 (hd path k) h=h2 at*
      rcases Nat.mod_two_eq_zero_or_one i' with hp|hp
      ·have hp':(i':Int)%2=0:=by omega
       have hil2:(i':Int)=l':=by omega
       have hil3:i'=l':=by omega
       repeat' (first|apply zs_|apply zb_|apply zc_|apply zt_ rfl|apply zf_ rfl|(apply zd_ rfl<;>intro ht<;>try omega)|((first|apply zr_|apply zk_|apply ze_|apply zq_|(apply callW.mk_pu;(first|exact(fun _=>hN _)))|(apply callW.za;(first|exact(hN _)))|(apply zG<;>intro ht));all_goals try simp (disch:=first|omega|(simp only [lens,z6,zi,lQr,lQd];first|done|omega)) only [go_sem,q1,q3,q5,q9,q11,q12,q32,q33,q34,c0,c1,hl0',hp',hil2]))
       refine zW.loop (fun m2 J2 O2=>∃(i2 l2 f:Nat),m2=i2/\ O2=O'.set O.length (some [hc h2])++ [some [hc (hd path k)]]/\ z2o f i2 l2=z2o 13 i' l'/\ i2<2^f/\ i2<=l2/\ l2<=l'/\ J2 1=.int .i64 i2/\ J2 3=.vsl 32 (hr path) ex/\ J2 5=.ptr O.length 0 0/\ J2 9=.ptr (O.length+1) 0 0/\ J2 11=.int .i64 l2/\ J2 12=.int .i64 k/\ J2 32=.vsl 32 (hr path) ex/\ J2 33=.int .i64 path.length/\ J2 34=.int .i64 k) i' ?_ ?_
       ·exact⟨i',l',13,rfl,rfl,rfl,by omega,hil,Nat.le_refl _,by simp (disch:=first|omega|(simp only [lens,z6,zi,lQr,lQd];first|done|omega)) only [go_sem,q1],by simp (disch:=first|omega|(simp only [lens,z6,zi,lQr,lQd];first|done|omega)) only [go_sem,q3],by simp (disch:=first|omega|(simp only [lens,z6,zi,lQr,lQd];first|done|omega)) only [go_sem,q5],by simp (disch:=first|omega|(simp only [lens,z6,zi,lQr,lQd];first|done|omega)) only [go_sem,q9],by simp (disch:=first|omega|(simp only [lens,z6,zi,lQr,lQd];first|done|omega)) only [go_sem,q11],by simp (disch:=first|omega|(simp only [lens,z6,zi,lQr,lQd];first|done|omega)) only [go_sem,q12],by simp (disch:=first|omega|(simp only [lens,z6,zi,lQr,lQd];first|done|omega)) only [go_sem,q32],by simp (disch:=first|omega|(simp only [lens,z6,zi,lQr,lQd];first|done|omega)) only [go_sem,q33],by simp (disch:=first|omega|(simp only [lens,z6,zi,lQr,lQd];first|done|omega)) only [go_sem,q34]⟩
       ·rintro m2 J2 O2 ⟨i2,l2,f,rfl,rfl,hst,hf,hil2,hll,p1,p3,p5,p9,p11,p12,p32,p33,p34⟩
        have t3:(m2:Int)/2=((m2/2:Nat):Int):=by simp
        have t4:(l2:Int)/2=((l2/2:Nat):Int):=by simp
        clear q1 q3 q5 q9 q11 q12 q32 q33 q34
        by_cases hc2:m2%2=0/\ 0<m2
        ·have u1:(m2:Int)%2=0:=by omega
         have u2:(m2:Int)>0:=by omega
         cases f with
         |zero=>simp at hf;omega
         |succ f=>
          rw [z2o,if_pos hc2]at hst
          rw [Nat.pow_succ]at hf
          repeat' (first|apply zs_|apply zb_|apply zc_|apply zt_ rfl|apply zf_ rfl|(apply zd_ rfl<;>intro ht<;>try omega)|((first|apply zr_|apply zk_|apply ze_|apply zq_|(apply zG<;>intro ht));all_goals try simp (disch:=first|omega|(simp only [lens,z6,zi,lQr,lQd];first|done|omega)) only [go_sem,p1,p3,p5,p9,p11,p12,p32,p33,p34,u1,u2,t3,t4]))
          exact⟨m2/2,by omega,m2/2,l2/2,f,rfl,hst,by omega,by omega,by omega,by simp⟩
        ·rw [zms hc2]at hst
         rw [<-hst]at hR
         rcases Nat.eq_zero_or_pos m2 with hz|hz
         ·subst hz
          repeat' (first|apply zs_|apply zb_|apply zc_|apply zt_ rfl|apply zf_ rfl|(apply zd_ rfl<;>intro ht<;>try omega)|((first|apply zr_|apply zk_|apply ze_|apply zq_|(apply zG<;>intro ht));all_goals try simp (disch:=first|omega|(simp only [lens,z6,zi,lQr,lQd];first|done|omega)) only [go_sem,p1,p3,p5,p9,p11,p12,p32,p33,p34,t3,t4]))
          exact⟨m-1,by omega,k+1,0,l2/2,h2,by omega,(he.set (by omega)).app,by omega,by omega,by rw [hR];simp [Nat.add_assoc,Nat.add_comm 1 k],by simp [c1]⟩
         ·have u1:¬(m2:Int)%2=0:=by omega
          repeat' (first|apply zs_|apply zb_|apply zc_|apply zt_ rfl|apply zf_ rfl|(apply zd_ rfl<;>intro ht<;>try omega)|((first|apply zr_|apply zk_|apply ze_|apply zq_|(apply zG<;>intro ht));all_goals try simp (disch:=first|omega|(simp only [lens,z6,zi,lQr,lQd];first|done|omega)) only [go_sem,p1,p3,p5,p9,p11,p12,p32,p33,p34,u1,t3,t4]))
          exact⟨m-1,by omega,k+1,m2/2,l2/2,h2,by omega,(he.set (by omega)).app,by omega,by omega,by rw [hR];simp [Nat.add_assoc,Nat.add_comm 1 k],by simp [c1]⟩
      ·have hp':(i':Int)%2=1:=by omega
       repeat' (first|apply zs_|apply zb_|apply zc_|apply zt_ rfl|apply zf_ rfl|(apply zd_ rfl<;>intro ht<;>try omega)|((first|apply zr_|apply zk_|apply ze_|apply zq_|(apply callW.mk_pu;(first|exact(fun _=>hN _)))|(apply callW.za;(first|exact(hN _)))|(apply zG<;>intro ht));all_goals try simp (disch:=first|omega|(simp only [lens,z6,zi,lQr,lQd];first|done|omega)) only [go_sem,q1,q3,q5,q9,q11,q12,q32,q33,q34,c0,c1,hl0',hp']))
       refine zW.loop (fun m2 J2 O2=>∃(i2 l2 f:Nat),m2=i2/\ O2=O'.set O.length (some [hc h2])++ [some [hc (hd path k)]]/\ z2o f i2 l2=z2o 13 i' l'/\ i2<2^f/\ i2<=l2/\ l2<=l'/\ J2 1=.int .i64 i2/\ J2 3=.vsl 32 (hr path) ex/\ J2 5=.ptr O.length 0 0/\ J2 9=.ptr (O.length+1) 0 0/\ J2 11=.int .i64 l2/\ J2 12=.int .i64 k/\ J2 32=.vsl 32 (hr path) ex/\ J2 33=.int .i64 path.length/\ J2 34=.int .i64 k) i' ?_ ?_
       ·exact⟨i',l',13,rfl,rfl,rfl,by omega,hil,Nat.le_refl _,by simp (disch:=first|omega|(simp only [lens,z6,zi,lQr,lQd];first|done|omega)) only [go_sem,q1],by simp (disch:=first|omega|(simp only [lens,z6,zi,lQr,lQd];first|done|omega)) only [go_sem,q3],by simp (disch:=first|omega|(simp only [lens,z6,zi,lQr,lQd];first|done|omega)) only [go_sem,q5],by simp (disch:=first|omega|(simp only [lens,z6,zi,lQr,lQd];first|done|omega)) only [go_sem,q9],by simp (disch:=first|omega|(simp only [lens,z6,zi,lQr,lQd];first|done|omega)) only [go_sem,q11],by simp (disch:=first|omega|(simp only [lens,z6,zi,lQr,lQd];first|done|omega)) only [go_sem,q12],by simp (disch:=first|omega|(simp only [lens,z6,zi,lQr,lQd];first|done|omega)) only [go_sem,q32],by simp (disch:=first|omega|(simp only [lens,z6,zi,lQr,lQd];first|done|omega)) only [go_sem,q33],by simp (disch:=first|omega|(simp only [lens,z6,zi,lQr,lQd];first|done|omega)) only [go_sem,q34]⟩
       ·rintro m2 J2 O2 ⟨i2,l2,f,rfl,rfl,hst,hf,hil2,hll,p1,p3,p5,p9,p11,p12,p32,p33,p34⟩
        have t3:(m2:Int)/2=((m2/2:Nat):Int):=by simp
        have t4:(l2:Int)/2=((l2/2:Nat):Int):=by simp
        clear q1 q3 q5 q9 q11 q12 q32 q33 q34
        by_cases hc2:m2%2=0/\ 0<m2
        ·have u1:(m2:Int)%2=0:=by omega
         have u2:(m2:Int)>0:=by omega
         cases f with
         |zero=>simp at hf;omega
         |succ f=>
          rw [z2o,if_pos hc2]at hst
          rw [Nat.pow_succ]at hf
          repeat' (first|apply zs_|apply zb_|apply zc_|apply zt_ rfl|apply zf_ rfl|(apply zd_ rfl<;>intro ht<;>try omega)|((first|apply zr_|apply zk_|apply ze_|apply zq_|(apply zG<;>intro ht));all_goals try simp (disch:=first|omega|(simp only [lens,z6,zi,lQr,lQd];first|done|omega)) only [go_sem,p1,p3,p5,p9,p11,p12,p32,p33,p34,u1,u2,t3,t4]))
          exact⟨m2/2,by omega,m2/2,l2/2,f,rfl,hst,by omega,by omega,by omega,by simp⟩
        ·rw [zms hc2]at hst
         rw [<-hst]at hR
         rcases Nat.eq_zero_or_pos m2 with hz|hz
         ·subst hz
          repeat' (first|apply zs_|apply zb_|apply zc_|apply zt_ rfl|apply zf_ rfl|(apply zd_ rfl<;>intro ht<;>try omega)|((first|apply zr_|apply zk_|apply ze_|apply zq_|(apply zG<;>intro ht));all_goals try simp (disch:=first|omega|(simp only [lens,z6,zi,lQr,lQd];first|done|omega)) only [go_sem,p1,p3,p5,p9,p11,p12,p32,p33,p34,t3,t4]))
          exact⟨m-1,by omega,k+1,0,l2/2,h2,by omega,(he.set (by omega)).app,by omega,by omega,by rw [hR];simp [Nat.add_assoc,Nat.add_comm 1 k],by simp [c1]⟩
         ·have u1:¬(m2:Int)%2=0:=by omega
          repeat' (first|apply zs_|apply zb_|apply zc_|apply zt_ rfl|apply zf_ rfl|(apply zd_ rfl<;>intro ht<;>try omega)|((first|apply zr_|apply zk_|apply ze_|apply zq_|(apply zG<;>intro ht));all_goals try simp (disch:=first|omega|(simp only [lens,z6,zi,lQr,lQd];first|done|omega)) only [go_sem,p1,p3,p5,p9,p11,p12,p32,p33,p34,u1,t3,t4]))
          exact⟨m-1,by omega,k+1,m2/2,l2/2,h2,by omega,(he.set (by omega)).app,by omega,by omega,by rw [hR];simp [Nat.add_assoc,Nat.add_comm 1 k],by simp [c1]⟩
     ·simp only [z2l]at hR
      rw [if_neg hl0,if_neg hcc]at hR
      have hN:=fun O=>zmz O h (hd path k)
      generalize z16 h (hd path k)=h2 at*
      have hp':(i':Int)%2=0:=by omega
      have hne:¬(i':Int)=l':=by omega
      repeat' (first|apply zs_|apply zb_|apply zc_|apply zt_ rfl|apply zf_ rfl|(apply zd_ rfl<;>intro ht<;>try omega)|((first|apply zr_|apply zk_|apply ze_|apply zq_|(apply callW.mk_pu;(first|exact(fun _=>hN _)))|(apply callW.za;(first|exact(hN _)))|(apply zG<;>intro ht));all_goals try simp (disch:=first|omega|(simp only [lens,z6,zi,lQr,lQd];first|done|omega)) only [go_sem,q1,q3,q5,q9,q11,q12,q32,q33,q34,c0,c1,hl0',hp',hne,t1,t2]))
      exact⟨m-1,by omega,k+1,i'/2,l'/2,h2,by omega,(he.set (by omega)).app,by omega,by omega,by rw [hR];simp [Nat.add_assoc,Nat.add_comm 1 k],by simp [c1]⟩
   ·obtain rfl:k=path.length:=by omega
    rw [List.drop_of_length_le (Nat.le_refl _)]at hR
    simp only [z2l,Nat.zero_add]at hR
    subst hR
    unfold z3v
    by_cases h1:l'=0
    ·subst h1
     by_cases h2:h=root
     ·subst h2
      rw [if_neg (by simp)]
      repeat' (first|apply zs_|apply zb_|apply zc_|apply zt_ rfl|apply zf_ rfl|(apply zd_ rfl<;>intro ht<;>try omega)|((first|apply zr_|apply zk_|apply ze_|apply zq_|(apply zG<;>intro ht));all_goals try simp (disch:=first|omega|(simp only [lens,z6,zi,lQr,lQd];first|done|omega)) only [go_sem,q1,q3,q5,q9,q11,q12,q32,q33,q34,c0,c1,r1]))
      exact Ext.pure hw he (z1d _ rfl)
     ·rw [if_pos (.inr (.inr h2))]
      repeat' (first|apply zs_|apply zb_|apply zc_|apply zt_ rfl|apply zf_ rfl|(apply zd_ rfl<;>intro ht<;>try omega)|((first|apply zr_|apply zk_|apply ze_|apply zq_|(apply zG<;>intro ht));all_goals try simp (disch:=first|omega|(simp only [lens,z6,zi,lQr,lQd];first|done|omega)) only [go_sem,q1,q3,q5,q9,q11,q12,q32,q33,q34,c0,c1,r1,h2]))
      exact Ext.pure hw he (z1d _ rfl)
    ·rw [if_pos (.inl h1)]
     have hl0':¬(l':Int)=0:=by omega
     repeat' (first|apply zs_|apply zb_|apply zc_|apply zt_ rfl|apply zf_ rfl|(apply zd_ rfl<;>intro ht<;>try omega)|((first|apply zr_|apply zk_|apply ze_|apply zq_|(apply zG<;>intro ht));all_goals try simp (disch:=first|omega|(simp only [lens,z6,zi,lQr,lQd];first|done|omega)) only [go_sem,q1,q3,q5,q9,q11,q12,q32,q33,q34,c0,c1,r1,hl0']))
     exact Ext.pure hw he (z1d _ rfl)
end
section
attribute [local irreducible] ACallsTo ACallsP
end
section
theorem spl8:z1h 8=4:=zch 2
theorem spl4:z1h 4=2:=zch 1
theorem spl2:z1h 2=1:=zch 0
attribute [local irreducible] ACallsTo ACallsP
end
section
def verI(root dg:Hash)(i:Int)(sig:List UInt8)(path:List Hash):Int:=
 if i<0 \/8<=i then 2 else if sig.length=16384 then(if chkP (z3h (recF sig dg.1 256)) i 8 path root=0 then 0 else 81)else 81
theorem RdSl.cells{O:Store}{sz:Nat}{es:List (List AV)}{x:AV}(h:RdSl O sz es x):cellsOf x=some [x]:=by
 rcases h with h| ⟨r,off,lim,o,rfl,_⟩
 ·exact zzv h
 ·rfl
attribute [local irreducible] ACallsTo ACallsP
theorem znd(O:Store)(leaf:Hash)(i n:Int)(path:List Hash)(x:AV)(root:Hash)(hx:RdSl O 32 (hr path) x)(hl:path.length<1000000)(hi: -9223372036854775808<=i/\ i<=9223372036854775807)(hn: -9223372036854775808<=n/\ n<=9223372036854775807):
  ACallsTo TC 135 [.agg (hc leaf),.int .i64 i,.int .i64 n,x,.agg (hc root)] O (.int .i64 (chkP leaf i n path root)) O:=by
 obtain⟨x0,h0,hd⟩:=hx.lend (z3x path)
 have hi':∀i:Int,RL 0 (.int .i64 i):=fun i=>by simp [RL]
 have:=ACallsTo.lend glok (zne [] leaf i n path x0 root h0 hl hi hn) (drsc (rl0 (z62 leaf) O) (drsc (rl0 (hi' i) O) (drsc (rl0 (hi' n) O) (drsc hd (drs1 (rl0 (z62 root) O))))))
 rwa [show sh O.length (.int .i64 (chkP leaf i n path root))=.int .i64 (chkP leaf i n path root)from rfl,z9w,List.append_nil]at this
theorem zo2(O:Store)(root dg:Hash)(i:Int)(sig:List UInt8)(path:List Hash)(x:AV)(hx:RdSl O 32 (hr path) x)(hl:path.length<1000000)(hs:sig.length<1000000)(hi: -9223372036854775808<=i/\ i<=9223372036854775807):
  ACallsTo TC 98 [.agg (hc root),.agg (hc dg),.agg [.int .i64 i,.str sig,x]] O (.int .i64 (verI root dg i sig path)) O:=by
 have xc:=hx.cells
 unfold cellsOf at xc
 have hR:=fun O=>znx O sig dg hs
 have hC:=fun y=>znd (O++y) (z3h (recF sig dg.1 256)) i 8 path x root hx.app hl hi (by omega)
 unfold verI
 unfold recV at hR
 refine ACallsTo.of_body q17ok (by simp) fun hw _=> ?_
 by_cases hb:i<0 \/8<=i
 ·rw [if_pos hb]
  repeat' (first|apply zs_|apply zb_|apply zc_|apply zt_ rfl|apply zf_ rfl|(apply zd_ rfl<;>intro ht<;>try omega)|((first|apply zr_|apply zk_|apply ze_|apply zq_|(apply zG<;>intro ht));all_goals try simp (disch:=first|omega|(simp only [lens,z6,zi,lQr];first|done|omega)) only [go_sem,xc]))
  all_goals exact DownV.pure hw (z1d _ rfl)
 ·rw [if_neg hb]
  by_cases h16:sig.length=16384
  ·rw [if_pos h16]
   rw [if_pos h16]at hR
   generalize z3h (recF sig dg.1 256)=L at*
   generalize chkP L i 8 path root=c at*
   by_cases h0:c=0
   ·subst h0
    rw [if_pos rfl]
    repeat' (first|apply zs_|apply zb_|apply zc_|apply zt_ rfl|apply zf_ rfl|(apply zd_ rfl<;>intro ht<;>try omega)|((first|apply zr_|apply zk_|apply ze_|apply zq_|(apply callW.mk_pu;(first|exact(fun _=>hR _)|exact(fun _=>hC _)))|(apply callW.za;(first|exact(hR _)|exact(hC _)))|(apply zG<;>intro ht));all_goals try simp (disch:=first|omega|(simp only [lens,z6,zi,lQr];first|done|omega)) only [go_sem,xc]))
    all_goals exact DownV.pure hw (z1d _ rfl)
   ·rw [if_neg h0]
    repeat' (first|apply zs_|apply zb_|apply zc_|apply zt_ rfl|apply zf_ rfl|(apply zd_ rfl<;>intro ht<;>try omega)|((first|apply zr_|apply zk_|apply ze_|apply zq_|(apply callW.mk_pu;(first|exact(fun _=>hR _)|exact(fun _=>hC _)))|(apply callW.za;(first|exact(hR _)|exact(hC _)))|(apply zG<;>intro ht));all_goals try simp (disch:=first|omega|(simp only [lens,z6,zi,lQr];first|done|omega)) only [go_sem,xc,h0]))
    all_goals exact DownV.pure hw (z1d _ rfl)
  ·rw [if_neg h16]
   rw [if_neg h16]at hR
   repeat' (first|apply zs_|apply zb_|apply zc_|apply zt_ rfl|apply zf_ rfl|(apply zd_ rfl<;>intro ht<;>try omega)|((first|apply zr_|apply zk_|apply ze_|apply zq_|(apply callW.mk_pu;(first|exact(fun _=>hR _)))|(apply callW.za;(first|exact(hR _)))|(apply zG<;>intro ht));all_goals try simp (disch:=first|omega|(simp only [lens,z6,zi,lQr];first|done|omega)) only [go_sem,xc]))
   all_goals exact DownV.pure hw (z1d _ rfl)
end
section
def secM(seed:List UInt8)(idx k:Int):List UInt8:=2::(z28 seed++(putS idx 4++putS k 2))
def secH(seed:List UInt8)(idx k:Int):Hash:=shaH (secM seed idx k)
def shwH(seed:List UInt8)(idx k:Int):Hash:=z7o (secH seed idx k).1
def pubH(seed:List UInt8)(idx:Int):List Hash:=(List.range 512).map fun k:Nat=>shwH seed idx k
theorem zbu(x n:Int):(putS x n).length<=8:=by
 unfold putS
 split
 ·rw [z3u];omega
 ·simp
theorem zge(s:List UInt8):(z28 s).length<=s.length+11:=by
 unfold z28
 have:=z24 s.length
 rw [List.length_append];omega
theorem zz4(seed:List UInt8)(idx k:Int):(secM seed idx k).length<=seed.length+40:=by
 unfold secM
 have:=zge seed
 have:=zbu idx 4
 have:=zbu k 2
 simp only [List.length_cons,List.length_append];omega
attribute [local irreducible] ACallsTo ACallsP
theorem zgz(O:Store)(seed:List UInt8)(idx i b:Int)(hs:seed.length<1000000)(hx:0<=idx/\ idx<2147483648)(hi:0<=i/\ i<256)(hb:0<=b/\ b<=1):ACallsTo TC 88 [.str seed,.int .i64 idx,.int .i64 i,.int .i64 b] O (.agg (hc (secH seed idx (2*i+b)))) O:=by
 have hT:=fun O=>zdg O seed (by omega)
 have hP1:=fun O=>z78 O idx 4 (by omega) (by omega)
 have hP2:=fun O=>z78 O (2*i+b) 2 (by omega) (by omega)
 have hS:=fun O=>zcg O (secM seed idx (2*i+b)) (by have:=zz4 seed idx (2*i+b);omega)
 have l1:=zge seed
 have l2:=zbu idx 4
 have l3:=zbu (2*i+b) 2
 unfold secH
 unfold secM at*
 generalize z28 seed=T at*
 generalize putS idx 4=A at*
 generalize putS (2*i+b) 2=B at*
 refine ACallsTo.of_body q13ok (by simp) fun hw _=> ?_
 repeat' (first|apply zs_|apply zb_|apply zc_|apply zt_ rfl|apply zf_ rfl|(apply zd_ rfl<;>intro ht<;>try omega)|((first|apply zr_|apply zk_|apply ze_|apply zq_|(apply callW.mk_pu;(first|exact(fun _=>hT _)|exact(fun _=>hP1 _)|exact(fun _=>hP2 _)|exact(fun _=>hS _)))|(apply callW.za;(first|exact(hT _)|exact(hP1 _)|exact(hP2 _)|exact(hS _)))|(apply zG<;>intro ht));all_goals try simp (disch:=first|omega|(simp only [lens,z6,zi,lQr,lQm];first|done|omega)) only [go_sem]))
 exact DownV.pure hw (z62 _)
end
section
theorem z43(seed:List UInt8)(idx:Int):(pubH seed idx).length=512:=by simp [pubH]
theorem zkz(seed:List UInt8)(idx:Int)(k:Nat)(h:k<512):hd (pubH seed idx) k=shwH seed idx k:=by
 rw [z9b (by rw [z43];exact h)]
 simp [pubH]
theorem zvo(seed:List UInt8)(idx:Int)(k:Nat)(h:k<512):(pubH seed idx).take (k+1)=(pubH seed idx).take k++ [shwH seed idx k]:=by
 rw [z9x (by rw [z43];exact h),zkz _ _ _ h]
def pubZ(seed:List UInt8)(idx:Int)(k:Nat):List Hash:=(pubH seed idx).take k++List.replicate (512-k) zeroH
theorem zvq(seed:List UInt8)(idx:Int)(k:Nat)(h:k<=512):(pubZ seed idx k).length=512:=by
 unfold pubZ
 rw [List.length_append,List.length_take,z43,List.length_replicate];omega
theorem zvr(seed:List UInt8)(idx:Int)(k:Nat)(h:k<512):(pubZ seed idx k).set k (shwH seed idx k)=pubZ seed idx (k+1):=by
 unfold pubZ
 have e:512-k=(512-(k+1))+1:=by omega
 have l:((pubH seed idx).take k).length=k:=by rw [List.length_take,z43];omega
 rw [e,List.replicate_succ,List.set_append_right _ _ (by omega),l,Nat.sub_self,List.set_cons_zero,zvo _ _ _ h,List.append_assoc]
 rfl
theorem zvs(seed:List UInt8)(idx:Int):pubZ seed idx 0=List.replicate 512 zeroH:=by unfold pubZ;rw [List.take_zero,Nat.sub_zero];exact List.nil_append _
theorem zvp(seed:List UInt8)(idx:Int):pubZ seed idx 512=pubH seed idx:=by
 unfold pubZ
 rw [List.take_of_length_le (by rw [z43];omega)];simp
attribute [local irreducible] ACallsTo ACallsP pubH
theorem zgx(O:Store)(seed:List UInt8)(idx:Int)(hs:seed.length<1000000)(hx:0<=idx/\ idx<2147483648):ACallsTo TC 41 [.str seed,.int .i64 idx] O (zz 32 (hr (pubH seed idx))) O:=by
 refine ACallsTo.of_body qxok (by simp) fun hw _=> ?_
 have hz:=zjh
 rw [zdx]at hz
 repeat' (first|apply zs_|apply zb_|apply zc_|apply zt_ rfl|apply zf_ rfl|(apply zd_ rfl<;>intro ht<;>try omega)|((first|apply zr_|apply zk_|apply ze_|apply zq_|(apply zG<;>intro ht));all_goals try simp (disch:=first|omega|(simp only [lens,z6,zi,lQr,lQm];first|done|omega)) only [go_sem,hz]))
 refine zW.loop (fun m J O'=>∃k:Nat,m+k=512/\ Ext O O'/\ O'[O.length]? =some (some (hr (pubZ seed idx k)))/\ J 0=.str seed/\ J 1=.int .i64 idx/\ J 5=.sl O.length 0 512 (some 512) 32/\ J 15=.int .i64 512/\ J 16=.int .i64 k) 512 ?_ ?_
 ·exact⟨0,by omega,(Ext.refl O).app,by rw [z19 (by omega),Nat.sub_self,zvs];rfl,by simp (disch:=first|omega|(simp only [lens,z6,zi,lQr,lQm];first|done|omega)) only [go_sem],by simp (disch:=first|omega|(simp only [lens,z6,zi,lQr,lQm];first|done|omega)) only [go_sem],by simp (disch:=first|omega|(simp only [lens,z6,zi,lQr,lQm];first|done|omega)) only [go_sem],by simp (disch:=first|omega|(simp only [lens,z6,zi,lQr,lQm];first|done|omega)) only [go_sem];rfl,by simp (disch:=first|omega|(simp only [lens,z6,zi,lQr,lQm];first|done|omega)) only [go_sem];rfl⟩
 ·rintro m J O' ⟨k,hm,he,c2,q0,q1,q5,q15,q16⟩
  have d2:=slen c2
  by_cases hk:k<512
  ·have hrl:=zvq seed idx k (by omega)
   have hSe:=fun O=>zgz O seed idx ((k/2:Nat):Int) ((k%2:Nat):Int) hs hx (by omega) (by omega)
   have hkk:2*((k/2:Nat):Int)+((k%2:Nat):Int)=k:=by omega
   rw [hkk]at hSe
   have hH:=fun O=>z4u O (secH seed idx k)
   have hSh:=fun O=>zmc O (secH seed idx k).1 (by have:=(secH seed idx k).2;omega)
   have hst:=zvr seed idx k hk
   rw [show z7o (secH seed idx k).1=shwH seed idx k from rfl]at hSh
   generalize pubZ seed idx k=L at*
   generalize shwH seed idx k=A at*
   generalize secH seed idx k=B at*
   have e1:(k:Int)/2=((k/2:Nat):Int):=by omega
   have e2:(k:Int)%2=((k%2:Nat):Int):=by omega
   have g1:=zbd (l:=L) (i:=k) (by omega)
   repeat' (first|apply zs_|apply zb_|apply zc_|apply zt_ rfl|apply zf_ rfl|(apply zd_ rfl<;>intro ht<;>try omega)|((first|apply zr_|apply zk_|apply ze_|apply zq_|(apply callW.mk_pu;(first|exact(fun _=>hSe _)|exact(fun _=>hH _)|exact(fun _=>hSh _)))|(apply callW.za;(first|exact(hSe _)|exact(hH _)|exact(hSh _)))|(apply zG<;>intro ht));all_goals try simp (disch:=first|omega|(simp only [lens,z6,zi,lQr,lQm];first|done|omega)) only [go_sem,q0,q1,q5,q15,q16,c2,e1,e2,hrl,g1]))
   exact⟨m-1,by omega,k+1,by omega,he.set (by omega),by rw [<-hst],by simp⟩
  ·obtain rfl:k=512:=by omega
   rw [zvp]at c2
   obtain⟨news,rfl⟩:=he
   repeat' (first|apply zs_|apply zb_|apply zc_|apply zt_ rfl|apply zf_ rfl|(apply zd_ rfl<;>intro ht<;>try omega)|((first|apply zr_|apply zk_|apply ze_|apply zq_|(apply zG<;>intro ht));all_goals try simp (disch:=first|omega|(simp only [lens,z6,zi,lQr,lQm];first|done|omega)) only [go_sem,q0,q1,q5,q15,q16]))
   refine DownV.all hw ?_
   have hne:hr (pubH seed idx) ≠ []:=fun e=>by have:=congrArg List.length e;rw [zi,z43]at this;simp at this
   unfold zz
   rw [if_neg hne]
   have hf:=FrzD.sl (τ:=O) (news:=news) (r:=O.length) (off:=0) (lim:=some 512) (esz:=32) (o:=hr (pubH seed idx)) (es:=hr (pubH seed idx)) (by omega) c2 (by omega) (by simp) (z3x _)
   rw [show (hr (pubH seed idx)).length=512 by rw [zi,z43]]at hf
   exact hf
end
end Am
end Go.Proofs.YtcdcmgjnbjoajaaGreatDoor
