import Derived.Test.YtcdcmgjnbjoajaaGreatDoorK2e6d30c09
import Derived.Shelf.Strings.Builder1
import Derived.Shelf.Strings.Builder2
import Derived.Shelf.Strings.BuilderF
import Derived.Shelf.Strings.Prefix
import Derived.Shelf.Bits.Mul64
import Derived.Shelf.Strings.Repeat
import Derived.Test.YtcdcmgjnbjoajaaGreatDoorProg
set_option linter.unusedSimpArgs false
set_option linter.unusedVariables false
open Nat (reduceEqDiff reduceAdd reduceMul reduceSub reduceLeDiff)
open Int (reduceToNat reducePow)
open Nat renaming reduceEqDiff -> nQ1, reduceBEq -> nQ2, reduceAdd -> nQ3, reduceMul -> nQ4, reduceSub -> nQ5, reduceLeDiff -> nQ6
open Int renaming reduceToNat -> nQ7, reducePow -> nQ8
open List renaming length_reverse -> lQr, length_map -> lQm, length_take -> lQt, length_drop -> lQd, length_set -> lQs
set_option maxHeartbeats 16000000
attribute [local go_sem_proc] Nat.reduceEqDiff Nat.reduceBEq Nat.reduceAdd Nat.reduceMul Nat.reduceSub Nat.reduceLeDiff Int.reduceToNat Int.reducePow
namespace Go.Proofs.YtcdcmgjnbjoajaaGreatDoor
namespace Am
variable {vs:List Value}{w w':World}{Z Z':Places}{k n i off sz r p:Nat}{C:Ctx}{cs:List AV}{t e:TypeId}{x v:AV}{a b:Int}{es ys:List (List AV)}{s:List UInt8}{O O':Store}{f:FuncId}{J:Env}{K:Env->Store->Prop}{d:Option Nat}{ops:Array Oper}{ac:ACode}{rest:List (Nat × Nat × AV)}
section
def V8.c8(v:V8):List AV:=[.int .u32 v.a.toNat,.int .u32 v.b.toNat,.int .u32 v.c.toNat,.int .u32 v.d.toNat,.int .u32 v.e.toNat,.int .u32 v.f.toNat,.int .u32 v.g.toNat,.int .u32 v.h.toNat]
theorem ws_l(v:V8):ws v.l=v.c8:=rfl
theorem zku(h:i<64):(gl_sha_rounds.drop i)[0]? =some (.int .u32 (kAt i).toNat):=by
 have hall:∀j:Fin 64,(gl_sha_rounds.drop j.val)[0]? =some (.int .u32 (kAt j.val).toNat):=by
  intro j
  have h2:(gl_sha_rounds.drop j.val)[0]? =some (AV.int .u32 (shaRounds.getD j.val 0)):=by
   have hl:shaRounds.length=64:=rfl
   simp only [gl_sha_rounds,List.getElem?_drop,Nat.add_zero,List.getElem?_map,List.getD_eq_getElem?_getD]
   rw [List.getElem?_eq_getElem (by rw [hl];exact j.isLt)];rfl
  rw [h2]
  have h3:∀j:Fin 64,shaRounds.getD j.val 0=((kAt j.val).toNat:Int):=by decide
  rw [h3 j]
 exact hall ⟨i,h⟩
theorem zk8:gl_sha_rounds.length=64:=rfl
theorem mix_to(O:Store)(v:V8)(s:List UInt8)(h:64<=s.length)(hs:s.length<9223372036854775808):ACallsTo TC 127 [.agg (ws v.l),.str s] O (.agg (ws (mixS v s).l)) O:=by
 obtain⟨R,hR⟩:∃R,R=z17 s 64:=⟨_,rfl⟩
 have hsp:=fun O=>z124 O s h hs
 rw [<-hR]at hsp
 have hRl:R.length=64:=by rw [hR,z4v]
 have hst:∀n,rnds s v (n+1)=rnd (rnds s v n) (kAt n) (wat R n):=fun n=>by rw [rnds,hR]
 obtain⟨F,hF⟩:∃F,F=(rnds s v 64).add v:=⟨_,rfl⟩
 have hmix:mixS v s=F:=hF.symm
 rw [hmix,ws_l,ws_l]
 clear hmix
 refine ACallsTo.of_body qcok (by simp) fun hw _=> ?_
 unfold V8.c8
 repeat' (first|apply zA rfl|(apply zd_ rfl<;>intro ht<;>try omega)|((first|apply zB rfl|(apply callW.mk_pu;exact(fun _=>hsp _))|(apply callW.za;exact(hsp _))|(apply zG<;>intro ht))<;>try simp (disch:=first|omega|simp only [lz];try omega) only [go_sem]))
 refine zW.loop (fun m J O'=>∃i:Nat,m+i=64/\ J 2=.ptr O.length 0 0/\ J 4=.ptr (O.length+1) 0 0/\ J 5=.ptr (O.length+2) 0 0/\ J 15=.agg (ws R)/\ J 16=.int .i64 i ∧
  O'=O++ [some [v.c8],some [[AV.int .u32 0,AV.int .u32 0,AV.int .u32 0,AV.int .u32 0,AV.int .u32 0,AV.int .u32 0,AV.int .u32 0,AV.int .u32 0]],some [(rnds s v i).c8]]) 64 ?_ ?_
 ·exact⟨0,by omega,by simp only [go_sem],by simp only [go_sem],by simp only [go_sem],by simp only [go_sem],by simp only [go_sem];rfl,rfl⟩
 ·rintro m J O' ⟨i,hm,q2,q4,q5,q15,q16,rfl⟩
  by_cases hi:i<64
  ·have hk:=zku hi
   have hw:=z8j (w:=R) (i:=i) (by omega)
   have hst:=hst i
   generalize rnds s v i=u at*
   obtain⟨a,b,c,d,e,f,g,h⟩:=u
   generalize kAt i=kk at*
   generalize wat R i=ww at*
   have r6:((-6:Int)%32).toNat=26:=rfl
   have r11:((-11:Int)%32).toNat=21:=rfl
   have r25:((-25:Int)%32).toNat=7:=rfl
   have r2:((-2:Int)%32).toNat=30:=rfl
   have r13:((-13:Int)%32).toNat=19:=rfl
   have r22:((-22:Int)%32).toNat=10:=rfl
   refine zs_ ?_
   refine zr_ ?_
   simp (disch:=first|omega|simp only [lz];try omega) only [go_sem,q16]
   refine zs_ ?_
   refine zt_ rfl ?_
   refine zk_ ?_
   simp (disch:=first|omega|simp only [lz];try omega) only [go_sem]
   refine zs_ ?_
   refine zb_ ?_
   refine zs_ ?_
   refine zW.regS ?_
   simp (disch:=first|omega|simp only [lz];try omega) only [go_sem,q15,q16,hw]
   (refine zW.slots [2,4,5,6,7,15,16] ?_;intro J1 hs;simp (disch:=first|omega|simp only [lz];try omega) only [go_sem,q2,q4,q5,q15,q16]at hs;obtain⟨s2,s4,s5,s6,s7,s15,s16⟩:=hs)
   refine zs_ ?_
   refine zW.regS ?_
   simp (disch:=first|omega|simp only [lz];try omega) only [go_sem,s5,V8.c8]
   (refine zW.slots [2,4,5,6,7,8,9,15,16] ?_;intro J2 hs;simp (disch:=first|omega|simp only [lz];try omega) only [go_sem,s2,s4,s5,s6,s7,s15,s16]at hs;obtain⟨s2,s4,s5,s6,s7,s8,s9,s15,s16⟩:=hs)
   refine zs_ ?_
   (refine zW.regS ?_;(simp (disch:=first|omega|simp only [lz];try omega) only [go_sem,s5,s9]);repeat' (apply callW.za;(first|exact(zaw _ _ _));all_goals try (simp (disch:=first|omega|simp only [lz];try omega) only [go_sem,s5,s6,s7,s9,hk,zk8,r6,r11,r25])))
   (refine zW.slots [2,4,5,8,9,10,15,16] ?_;intro J3 hs;simp (disch:=first|omega|simp only [lz];try omega) only [go_sem,s2,s4,s5,s8,s9,s15,s16]at hs;obtain⟨s2,s4,s5,s8,s9,s10,s15,s16⟩:=hs)
   refine zs_ ?_
   (refine zW.regS ?_;(simp (disch:=first|omega|simp only [lz];try omega) only [go_sem,s8]);repeat' (apply callW.za;(first|exact(zaw _ _ _));all_goals try (simp (disch:=first|omega|simp only [lz];try omega) only [go_sem,s5,s8,r2,r13,r22])))
   (refine zW.slots [2,4,5,8,9,10,11,15,16] ?_;intro J4 hs;simp (disch:=first|omega|simp only [lz];try omega) only [go_sem,s2,s4,s5,s8,s9,s10,s15,s16]at hs;obtain⟨s2,s4,s5,s8,s9,s10,s11,s15,s16⟩:=hs)
   (refine zW.regS ?_;(simp (disch:=first|omega|simp only [lz];try omega) only [go_sem,s5,s8,s9,s10,s11]))
   (refine zW.slots [2,4,5,15,16] ?_;intro J5 hs;simp (disch:=first|omega|simp only [lz];try omega) only [go_sem,s2,s4,s5,s15,s16]at hs;obtain⟨s2,s4,s5,s15,s16⟩:=hs)
   (refine zW.regS ?_;(simp (disch:=first|omega|simp only [lz];try omega) only [go_sem,s16]))
   refine⟨64-(i+1),by omega,i+1,by omega,s2,s4,s5,s15,by simp,?_⟩
   rw [hst]
   simp only [rnd,bs1,chW,bs0,majW]
  ·obtain rfl:i=64:=by omega
   clear hst
   generalize rnds s v 64=U at*
   rw [hF,V8.add]
   clear hF hR
   obtain⟨a,b,c,d,e,f,g,h⟩:=U
   obtain⟨a',b',c',d',e',f',g',h'⟩:=v
   simp only [V8.c8]at*
   repeat' (first|apply zA rfl|(apply zd_ rfl<;>intro ht<;>try omega)|((first|apply zB rfl|(apply zG<;>intro ht))<;>try simp (disch:=first|omega|simp only [lz];try omega) only [go_sem,q16]))
   refine zW.loop (fun m J O'=>∃j:Nat,m+j=8/\ J 2=.ptr O.length 0 0/\ J 4=.ptr (O.length+1) 0 0/\ J 5=.ptr (O.length+2) 0 0/\ J 95=.int .i64 j ∧
    O'=O++ [some [V8.c8 ⟨a',b',c',d',e',f',g',h'⟩],some [[AV.int .u32 0,AV.int .u32 0,AV.int .u32 0,AV.int .u32 0,AV.int .u32 0,AV.int .u32 0,AV.int .u32 0,AV.int .u32 0]],some [(V8.c8 ⟨a+a',b+b',c+c',d+d',e+e',f+f',g+g',h+h'⟩).take j++(V8.c8 ⟨a,b,c,d,e,f,g,h⟩).drop j]]) 8 ?_ ?_
   ·exact⟨0,by omega,by simp only [go_sem,q2],by simp only [go_sem,q4],by simp only [go_sem,q5],by simp only [go_sem];rfl,rfl⟩
   ·clear q2 q4 q5 q15 q16
    rintro m J O' ⟨j,hm,q2,q4,q5,q95,rfl⟩
    have hj:j=0 \/j=1 \/j=2 \/j=3 \/j=4 \/j=5 \/j=6 \/j=7 \/j=8:=by omega
    rcases hj with rfl|rfl|rfl|rfl|rfl|rfl|rfl|rfl|rfl
    ·repeat' (first|refine zs_ ?_|refine zb_ ?_|refine zc_ ?_|refine zt_ rfl ?_|refine zf_ rfl ?_|(refine zd_ rfl (fun ht=> ?_) (fun ht=> ?_)<;>try (exfalso;omega))|((first|refine zW.regS ?_|refine zk_ ?_|refine ze_ ?_|refine zq_ ?_|(apply zG<;>intro ht))<;>try simp (disch:=first|omega|simp only [lz];try omega) only [go_sem,q2,q4,q5,q95,V8.c8]))
     exact⟨7,by omega,1,by omega,rfl,rfl⟩
    ·repeat' (first|refine zs_ ?_|refine zb_ ?_|refine zc_ ?_|refine zt_ rfl ?_|refine zf_ rfl ?_|(refine zd_ rfl (fun ht=> ?_) (fun ht=> ?_)<;>try (exfalso;omega))|((first|refine zW.regS ?_|refine zk_ ?_|refine ze_ ?_|refine zq_ ?_|(apply zG<;>intro ht))<;>try simp (disch:=first|omega|simp only [lz];try omega) only [go_sem,q2,q4,q5,q95,V8.c8]))
     exact⟨6,by omega,2,by omega,rfl,rfl⟩
    ·repeat' (first|refine zs_ ?_|refine zb_ ?_|refine zc_ ?_|refine zt_ rfl ?_|refine zf_ rfl ?_|(refine zd_ rfl (fun ht=> ?_) (fun ht=> ?_)<;>try (exfalso;omega))|((first|refine zW.regS ?_|refine zk_ ?_|refine ze_ ?_|refine zq_ ?_|(apply zG<;>intro ht))<;>try simp (disch:=first|omega|simp only [lz];try omega) only [go_sem,q2,q4,q5,q95,V8.c8]))
     exact⟨5,by omega,3,by omega,rfl,rfl⟩
    ·repeat' (first|refine zs_ ?_|refine zb_ ?_|refine zc_ ?_|refine zt_ rfl ?_|refine zf_ rfl ?_|(refine zd_ rfl (fun ht=> ?_) (fun ht=> ?_)<;>try (exfalso;omega))|((first|refine zW.regS ?_|refine zk_ ?_|refine ze_ ?_|refine zq_ ?_|(apply zG<;>intro ht))<;>try simp (disch:=first|omega|simp only [lz];try omega) only [go_sem,q2,q4,q5,q95,V8.c8]))
     exact⟨4,by omega,4,by omega,rfl,rfl⟩
    ·repeat' (first|refine zs_ ?_|refine zb_ ?_|refine zc_ ?_|refine zt_ rfl ?_|refine zf_ rfl ?_|(refine zd_ rfl (fun ht=> ?_) (fun ht=> ?_)<;>try (exfalso;omega))|((first|refine zW.regS ?_|refine zk_ ?_|refine ze_ ?_|refine zq_ ?_|(apply zG<;>intro ht))<;>try simp (disch:=first|omega|simp only [lz];try omega) only [go_sem,q2,q4,q5,q95,V8.c8]))
     exact⟨3,by omega,5,by omega,rfl,rfl⟩
    ·repeat' (first|refine zs_ ?_|refine zb_ ?_|refine zc_ ?_|refine zt_ rfl ?_|refine zf_ rfl ?_|(refine zd_ rfl (fun ht=> ?_) (fun ht=> ?_)<;>try (exfalso;omega))|((first|refine zW.regS ?_|refine zk_ ?_|refine ze_ ?_|refine zq_ ?_|(apply zG<;>intro ht))<;>try simp (disch:=first|omega|simp only [lz];try omega) only [go_sem,q2,q4,q5,q95,V8.c8]))
     exact⟨2,by omega,6,by omega,rfl,rfl⟩
    ·repeat' (first|refine zs_ ?_|refine zb_ ?_|refine zc_ ?_|refine zt_ rfl ?_|refine zf_ rfl ?_|(refine zd_ rfl (fun ht=> ?_) (fun ht=> ?_)<;>try (exfalso;omega))|((first|refine zW.regS ?_|refine zk_ ?_|refine ze_ ?_|refine zq_ ?_|(apply zG<;>intro ht))<;>try simp (disch:=first|omega|simp only [lz];try omega) only [go_sem,q2,q4,q5,q95,V8.c8]))
     exact⟨1,by omega,7,by omega,rfl,rfl⟩
    ·repeat' (first|refine zs_ ?_|refine zb_ ?_|refine zc_ ?_|refine zt_ rfl ?_|refine zf_ rfl ?_|(refine zd_ rfl (fun ht=> ?_) (fun ht=> ?_)<;>try (exfalso;omega))|((first|refine zW.regS ?_|refine zk_ ?_|refine ze_ ?_|refine zq_ ?_|(apply zG<;>intro ht))<;>try simp (disch:=first|omega|simp only [lz];try omega) only [go_sem,q2,q4,q5,q95,V8.c8]))
     exact⟨0,by omega,8,by omega,rfl,rfl⟩
    ·repeat' (first|apply zA rfl|(apply zd_ rfl<;>intro ht<;>try omega)|((first|apply zB rfl|(apply zG<;>intro ht))<;>try simp (disch:=first|omega|simp only [lz];try omega) only [go_sem,q4,q5,q95,V8.c8]))
     exact DownV.pure hw (z15 _ rfl)
end
end Am
end Go.Proofs.YtcdcmgjnbjoajaaGreatDoor
section
/- Contracts of library functions, laid off the kit's shelf for this program. -/
namespace Go.Proofs
open Go.Shelf
def Tryz.lays169_ren : Go.Shelf.Ren := ⟨fun | 169 => 86 | n => n, fun | 70 => 136 | 9 => 9 | 0 => 0 | 72 => 138 | 37 => 105 | 127 => 180 | 3 => 3 | 5 => 5 | n => n, fun | n => n⟩
theorem Tryz.lays169 : Go.Proofs.Lays.n169 Tryz.prog Tryz.lays169_ren := {
 mixed := by kernel_rfl
 f169 := Tryz.func86.trans (congrArg some (by kernel_rfl))
 t0 := Tryz.underlying0
 a0 := Tryz.isAgg0
 z0 := Tryz.sizeOf0
 v0 := Tryz.zeroValue0
 t3 := Tryz.underlying3
 a3 := Tryz.isAgg3
 z3 := Tryz.sizeOf3
 v3 := Tryz.zeroValue3
 t9 := Tryz.underlying9
 a9 := Tryz.isAgg9
 z9 := Tryz.sizeOf9
 v9 := Tryz.zeroValue9
 t37 := Tryz.underlying105
 a37 := Tryz.isAgg105
 z37 := Tryz.sizeOf105
 v37 := Tryz.zeroValue105
 t70 := Tryz.underlying136
 a70 := Tryz.isAgg136
 z70 := Tryz.sizeOf136
 v70 := Tryz.zeroValue136
 t72 := Tryz.underlying138
 a72 := Tryz.isAgg138
 z72 := Tryz.sizeOf138
 v72 := Tryz.zeroValue138
 t127 := Tryz.underlying180
 a127 := Tryz.isAgg180
 z127 := Tryz.sizeOf180
 v127 := Tryz.zeroValue180 }
theorem Tryz.Builder_Extra_169 : Builder.Extra Tryz.prog Tryz.lays169_ren := {
 sizeBuilder := by kernel_rfl
 liesBuilder := by kernel_rfl
 t5 := Tryz.underlying5
 a5 := Tryz.isAgg5
 z5 := Tryz.sizeOf5
 v5 := Tryz.zeroValue5
 infoByte := by kernel_rfl
 cellsByte := by kernel_rfl
 sizeByte := by kernel_rfl
 neB5 := by decide }
open Go.RowKit in
theorem Tryz.Builder_String_any (B b : Nat) (l : List UInt8) (w : World) (h : Lib.IsBuilder 138 5 B b (Lib.byteCells l) w) (hBw : B <= w.heap.size) :
  Calls Tryz.prog 86 #[.pointer (some ⟨b, 0, none⟩)] w fun e w' => e = .returned (.string ⟨l.toArray⟩) /\ Below B w w' := Any.Builder_String_any Tryz.lays169 Tryz.Builder_Extra_169 B b l w h hBw
def Tryz.lays105_ren : Go.Shelf.Ren := ⟨fun | 105 => 152 | 212 => 165 | 99 => 166 | 165 => 167 | 166 => 83 | 170 => 168 | 169 => 86 | 263 => 174 | 264 => 175 | 206 => 176 | 240 => 125 | 241 => 177 | 276 => 151 | 277 => 178 | n => n, fun | 9 => 9 | 3 => 3 | 4 => 4 | 20 => 20 | 0 => 0 | 46 => 158 | 109 => 208 | 5 => 5 | 72 => 138 | 76 => 142 | 51 => 177 | 146 => 213 | 53 => 155 | 148 => 215 | 70 => 136 | 37 => 105 | 75 => 140 | 127 => 180 | 164 => 195 | 80 => 146 | n => n, fun | n => n⟩
theorem Tryz.lays105 : Go.Proofs.Lays.n105 Tryz.prog Tryz.lays105_ren := {
 mixed := by kernel_rfl
 f99 := Tryz.func166.trans (congrArg some (by kernel_rfl))
 f105 := Tryz.func152.trans (congrArg some (by kernel_rfl))
 f165 := Tryz.func167.trans (congrArg some (by kernel_rfl))
 f166 := Tryz.func83.trans (congrArg some (by kernel_rfl))
 f169 := Tryz.func86.trans (congrArg some (by kernel_rfl))
 f170 := Tryz.func168.trans (congrArg some (by kernel_rfl))
 f206 := Tryz.func176.trans (congrArg some (by kernel_rfl))
 f212 := Tryz.func165.trans (congrArg some (by kernel_rfl))
 f240 := Tryz.func125.trans (congrArg some (by kernel_rfl))
 f241 := Tryz.func177.trans (congrArg some (by kernel_rfl))
 f263 := Tryz.func174.trans (congrArg some (by kernel_rfl))
 f264 := Tryz.func175.trans (congrArg some (by kernel_rfl))
 f276 := Tryz.func151.trans (congrArg some (by kernel_rfl))
 f277 := Tryz.func178.trans (congrArg some (by kernel_rfl))
 t0 := Tryz.underlying0
 a0 := Tryz.isAgg0
 z0 := Tryz.sizeOf0
 v0 := Tryz.zeroValue0
 t3 := Tryz.underlying3
 a3 := Tryz.isAgg3
 z3 := Tryz.sizeOf3
 v3 := Tryz.zeroValue3
 t4 := Tryz.underlying4
 a4 := Tryz.isAgg4
 z4 := Tryz.sizeOf4
 v4 := Tryz.zeroValue4
 t5 := Tryz.underlying5
 a5 := Tryz.isAgg5
 z5 := Tryz.sizeOf5
 v5 := Tryz.zeroValue5
 t9 := Tryz.underlying9
 a9 := Tryz.isAgg9
 z9 := Tryz.sizeOf9
 v9 := Tryz.zeroValue9
 t20 := Tryz.underlying20
 a20 := Tryz.isAgg20
 z20 := Tryz.sizeOf20
 v20 := Tryz.zeroValue20
 t37 := Tryz.underlying105
 a37 := Tryz.isAgg105
 z37 := Tryz.sizeOf105
 v37 := Tryz.zeroValue105
 t46 := Tryz.underlying158
 a46 := Tryz.isAgg158
 z46 := Tryz.sizeOf158
 v46 := Tryz.zeroValue158
 t51 := Tryz.underlying177
 a51 := Tryz.isAgg177
 z51 := Tryz.sizeOf177
 v51 := Tryz.zeroValue177
 t53 := Tryz.underlying155
 a53 := Tryz.isAgg155
 z53 := Tryz.sizeOf155
 v53 := Tryz.zeroValue155
 t70 := Tryz.underlying136
 a70 := Tryz.isAgg136
 z70 := Tryz.sizeOf136
 v70 := Tryz.zeroValue136
 t72 := Tryz.underlying138
 a72 := Tryz.isAgg138
 z72 := Tryz.sizeOf138
 v72 := Tryz.zeroValue138
 t75 := Tryz.underlying140
 a75 := Tryz.isAgg140
 z75 := Tryz.sizeOf140
 v75 := Tryz.zeroValue140
 t76 := Tryz.underlying142
 a76 := Tryz.isAgg142
 z76 := Tryz.sizeOf142
 v76 := Tryz.zeroValue142
 t109 := Tryz.underlying208
 a109 := Tryz.isAgg208
 z109 := Tryz.sizeOf208
 v109 := Tryz.zeroValue208
 t127 := Tryz.underlying180
 a127 := Tryz.isAgg180
 z127 := Tryz.sizeOf180
 v127 := Tryz.zeroValue180
 t146 := Tryz.underlying213
 a146 := Tryz.isAgg213
 z146 := Tryz.sizeOf213
 v146 := Tryz.zeroValue213
 t148 := Tryz.underlying215
 a148 := Tryz.isAgg215
 z148 := Tryz.sizeOf215
 v148 := Tryz.zeroValue215
 t164 := Tryz.underlying195
 a164 := Tryz.isAgg195
 z164 := Tryz.sizeOf195
 v164 := Tryz.zeroValue195 }
theorem Tryz.Builder_Extra_105 : Builder.Extra Tryz.prog Tryz.lays105_ren := {
 sizeBuilder := by kernel_rfl
 liesBuilder := by kernel_rfl
 t5 := Tryz.underlying5
 a5 := Tryz.isAgg5
 z5 := Tryz.sizeOf5
 v5 := Tryz.zeroValue5
 infoByte := by kernel_rfl
 cellsByte := by kernel_rfl
 sizeByte := by kernel_rfl
 neB5 := by decide }
open Go.RowKit Go.Lib in
theorem Tryz.strings_Repeat (s : ByteArray) (c : Nat) (w : World) (hc : c <= 9223372036854775807) (hlen : s.size * c <= 140737488355328) :
  Calls Tryz.prog 152 #[.string s, .int .i64 c] w fun e w' => e = .returned (.string ⟨(Lib.repeatL s.data.toList c).toArray⟩) /\ Below w.heap.size w w' := Any.strings_Repeat Tryz.lays105 Tryz.Builder_Extra_105 s c w hc hlen
end Go.Proofs
end
namespace Go.Proofs.YtcdcmgjnbjoajaaGreatDoor
namespace Am
variable {vs:List Value}{w w':World}{Z Z':Places}{k n i off sz r p:Nat}{C:Ctx}{cs:List AV}{t e:TypeId}{x v:AV}{a b:Int}{es ys:List (List AV)}{s:List UInt8}{O O':Store}{f:FuncId}{J:Env}{K:Env->Store->Prop}{d:Option Nat}{ops:Array Oper}{ac:ACode}{rest:List (Nat × Nat × AV)}
section
open Go.RowKit
def z11(l:List UInt8):List AV:=l.map fun b=> .int .u8 b.toNat
theorem z3d{k:Nat}:∀(l:List UInt8),RLs k (z11 l)
 | []=>by simp [z11,RLs]
 | _::l=>by have:=z3d (k:=k) l;simp only [z11]at this;simp [z11,RLs,RL,this]
theorem Rel.below(h:Rel C Z O w)(hb:Below w.heap.size w w'):Step Z w Z w'/\ Rel C Z O w':=by
 have hs:Step Z w Z w':=⟨fun r fl pl h=>⟨fl,h⟩,hb.size,fun b hb' _=>hb.block b hb',fun r pl h=> .inl ⟨r,pl,h,rfl⟩,hb.os,hb.tape,hb.output⟩
 refine⟨hs,h.len,fun r o hr=> ?_,h.dead,h.inj,fun g cs hg=>(h.gl g cs hg).mono hs⟩
 obtain⟨pl,h1,h2⟩:=h.alive r o hr
 exact⟨pl,h1,h2.mono hs (hb.block _ h2.lt)⟩
theorem ACallsTo.of_calls{args:List AV}(hc:(cFn C f).isSome=true)
  (h:∀(Z:Places) (w:World) (cargs:List Value),VRt Z w args cargs->Calls C.P f cargs.toArray w fun e w'=>∃cv,e=.returned cv/\ VR Z w' v cv/\ Below w.heap.size w w'):ACallsTo C f args O v O:=by
 obtain⟨e,hc⟩:=Option.isSome_iff_exists.1 hc
 simp only [cFn,Option.bind_eq_some_iff]at hc
 obtain⟨fn,hf,hc⟩:=hc
 split at hc
 ·cases hc
 ·rename_i hname
  simp only [Option.bind_eq_some_iff,Option.map_eq_some_iff]at hc
  obtain⟨c,hb,_⟩:=hc
  intro Z w cargs hR ha
  left
  constructor
  ·have h1:fn.name ≠ "runtime.NumGoroutine" :=by simpa using hname
   simp [callFunc,hf,h1,hb]
  ·refine(h Z w cargs ha).mono ?_
   rintro e w' ⟨cv,rfl,hv,hbl⟩
   obtain⟨s1,s2⟩:=hR.below hbl
   exact⟨cv,Z,rfl,s1,s2,hv⟩
theorem zzt(b:UInt8):∀n,Lib.repeatL [b] n=List.replicate n b:=by
 intro n
 induction n with
 |zero=>simp [Lib.repeatL]
 |succ n ih=>simp [Lib.repeatL,List.replicate_succ]at ih ⊢ <;>simp [ih]
theorem znc(O:Store)(b:UInt8)(c:Nat)(h:c<=1000000):ACallsTo TC 152 [.str [b],.int .i64 c] O (.str (List.replicate c b)) O:=by
 refine ACallsTo.of_calls (by kernel_rfl) ?_
 intro Z w cargs ha
 simp only [VRt,VR]at ha
 obtain⟨_,_,rfl,rfl,_,_,rfl,rfl,rfl⟩:=ha
 refine(Tryz.strings_Repeat ⟨[b].toArray⟩ c w (by omega) (by simp [ByteArray.size];omega)).mono ?_
 rintro e w' ⟨rfl,hb⟩
 refine⟨_,rfl,?_,hb⟩
 simp only [VR]
 rw [zzt]
theorem zti(O:Store)(s:List UInt8)(h:s.length<1000000000000):ACallsTo TC 126 [.str s] O (.str (padS s)) O:=by
 refine ACallsTo.of_body qbok (by simp) fun hw _=> ?_
 obtain⟨z,hz⟩:∃z:Nat,z=(119-s.length%64)%64:=⟨_,rfl⟩
 have hz2:(119-(s.length:Int)%64)%64=z:=by omega
 have hp:putS ((s.length:Int)*8) 8=be 8 (s.length*8):=by
  unfold putS
  rw [if_pos (by omega)]
  rfl
 have hpl:(be 8 (s.length*8)).length=8:=z44 _ _
 repeat' (first|apply zA rfl|(apply zd_ rfl<;>intro ht<;>try omega)|((first|apply zB rfl|(apply callW.mk_pu;(first|exact(fun _=>znc _ 0 z (by omega))|exact(fun _=>z6g _ ((s.length:Int)*8) 8 (by omega) (by omega))))|(apply callW.za;(first|exact(znc _ 0 z (by omega))|exact(z6g _ ((s.length:Int)*8) 8 (by omega) (by omega))))|(apply zG<;>intro ht))<;>try simp (disch:=first|omega|simp only [lz];try omega) only [go_sem,hz2,hp,hpl,List.length_replicate]))
 rw [show s++128::(List.replicate z 0++be 8 (s.length*8))=padS s by unfold padS;rw [<-hz]]
 exact DownV.same hw (z15 _ rfl)
theorem zlu(s:List UInt8):(padS s).length%64=0/\ (padS s).length<s.length+80:=by
 unfold padS
 simp only [List.length_append,List.length_cons,List.length_replicate,z44]
 omega
theorem ztu:zea=v0.c8:=rfl
theorem put4(x:W):putS (x.toNat:Int) 4=be 4 x.toNat:=by
 unfold putS
 rw [if_pos (by omega)]
 rfl
theorem mix_c8(O:Store)(v:V8)(s:List UInt8)(h:64<=s.length)(hs:s.length<9223372036854775808):ACallsTo TC 127 [.agg v.c8,.str s] O (.agg (mixS v s).c8) O:=mix_to O v s h hs
theorem ztk{l:List W}{j:Nat}(h:j<l.length):(l.flatMap fun x=>be 4 x.toNat).take (4*j)++be 4 (l[j]).toNat=(l.flatMap fun x=>be 4 x.toNat).take (4*(j+1)):=by
 induction l generalizing j with
 |nil=>simp at h
 |cons x l ih=>
  have hb:(be 4 x.toNat).length=4:=z44 _ _
  rw [List.flatMap_cons]
  cases j with
  |zero=>
   simp only [Nat.mul_zero,List.take_zero,List.nil_append,List.getElem_cons_zero,Nat.zero_add,Nat.mul_one]
   rw [List.take_append_of_le_length (by omega),List.take_of_length_le (by omega)]
  |succ j=>
   simp only [List.length_cons]at h
   have e1:(be 4 x.toNat).take (4*(j+1))=be 4 x.toNat:=List.take_of_length_le (by omega)
   have e2:(be 4 x.toNat).take (4*(j+1+1))=be 4 x.toNat:=List.take_of_length_le (by omega)
   rw [List.getElem_cons_succ,List.take_append,List.take_append,e1,e2,hb,List.append_assoc,show 4*(j+1)-4=4*j by omega,show 4*(j+1+1)-4=4*(j+1)by omega,ih (by omega)]
theorem z58(v:V8):(outV v).length=32:=by
 simp [outV,V8.l,z44]
def z4p(v:V8)(j:Nat):List AV:=z11 ((outV v).take (4*j))++List.replicate (32-4*j) (.int .u8 0)
theorem zw(l:List UInt8):(z11 l).length=l.length:=by simp [z11]
theorem zu5(v:V8){j:Nat}(h:j<=8):(z4p v j).length=32:=by
 simp [z4p,zw,z58];omega
theorem zip(l:List UInt8):(zy l).flatten=z11 l:=by
 induction l with
 |nil=>rfl
 |cons b l ih=>simp [zy,z11,B8]at ih ⊢;exact ih
theorem zu6(v:V8){j:Nat}(h:j<8):z1i (z4p v j) (4*j) (z11 (be 4 (wat v.l j).toNat))=z4p v (j+1):=by
 have hl:v.l.length=8:=rfl
 have e:=ztk (l:=v.l) (j:=j) (by omega)
 have hw:wat v.l j=v.l[j]'(by omega):=by simp [wat,List.getD_eq_getElem?_getD,List.getElem?_eq_getElem (show j<v.l.length by omega)]
 have h1:(z11 ((outV v).take (4*j))).length=4*j:=by rw [zw,List.length_take,z58];omega
 have h2:(z11 (be 4 (wat v.l j).toNat)).length=4:=by rw [zw,z44]
 unfold z1i z4p
 rw [List.take_append_of_le_length (by omega),List.take_of_length_le (by omega),List.drop_append,List.drop_of_length_le (by omega),h1,h2,List.nil_append]
 rw [show 4*j+4-4*j=4 by omega,List.drop_replicate,show 32-4*j-4=32-4*(j+1)by omega]
 congr 1
 unfold z11
 rw [<-List.map_append]
 congr 1
 rw [hw]
 exact e
theorem z89(O:Store)(s:List UInt8)(h:s.length<100000000000):ACallsTo TC 85 [.str s] O (.agg (z11 (shaS s))) O:=by
 obtain⟨p,hp⟩:∃p,p=padS s:=⟨_,rfl⟩
 obtain⟨hp1,hp2⟩:=zlu s
 rw [<-hp]at hp1 hp2
 obtain⟨N,hN⟩:∃N,p.length=64*N:=⟨p.length/64,by omega⟩
 obtain⟨V,hV⟩:∃V,V=blocks N v0 p:=⟨_,rfl⟩
 have hS:shaS s=outV V:=by
  unfold shaS
  rw [<-hp,hV]
  have:p.length/64=N:=by omega
  rw [this]
 rw [hS]
 have hf:=fun O=>zti O s (by omega)
 rw [<-hp]at hf
 refine ACallsTo.of_body q8ok (by simp) fun hw _=> ?_
 repeat' (first|apply zA rfl|(apply zd_ rfl<;>intro ht<;>try omega)|((first|apply zB rfl|(apply callW.mk_pu;exact(fun _=>hf _))|(apply callW.za;exact(hf _))|(apply zG<;>intro ht))<;>try simp (disch:=first|omega|simp only [lz];try omega) only [go_sem,ztu,V8.c8]))
 refine zW.loop (fun m J O'=>∃u q,q.length=64*m/\ q.length<=p.length/\ blocks m u q=V/\ J 2=.ptr O.length 0 0/\ J 3=.ptr (O.length+1) 0 0/\ J 4=.str q/\ O'=O++ [some [z11 (List.replicate 32 0)],some [u.c8]]) N ?_ ?_
 ·exact⟨v0,p,hN,Nat.le_refl _,hV.symm,by simp only [go_sem],by simp only [go_sem],by simp only [go_sem],rfl⟩
 ·rintro m J O' ⟨u,q,hq,hqp,hb,q2,q3,q4,rfl⟩
  have hz:(z11 (List.replicate 32 0)).length=32:=rfl
  cases m with
  |succ m=>
   have hne:(q==[])=false:=by cases q with
    |nil=>simp at hq
    |cons a q=>rfl
   have hmix:=fun O=>mix_c8 O u (q.take 64) (by rw [List.length_take];omega) (by rw [List.length_take];omega)
   obtain⟨M,hM⟩:∃M,M=mixS u (q.take 64):=⟨_,rfl⟩
   rw [<-hM]at hmix
   have hb2:blocks m M (q.drop 64)=V:=by rw [hM];exact hb
   unfold V8.c8 at hmix
   repeat' (first|refine zs_ ?_|refine zb_ ?_|refine zc_ ?_|refine zt_ rfl ?_|refine zf_ rfl ?_|(refine zd_ rfl (fun ht=> ?_) (fun ht=> ?_)<;>try (exfalso;omega))|((first|refine zW.regS ?_|refine zk_ ?_|refine ze_ ?_|refine zq_ ?_|(apply callW.mk_pu;exact(fun _=>hmix _))|(apply callW.za;exact(hmix _))|(apply zG<;>intro ht))<;>try simp (disch:=first|omega|simp only [lz];try omega) only [go_sem,q2,q3,q4,hne,V8.c8]))
   refine⟨m,by omega,M,q.drop 64,by rw [List.length_drop];omega,by rw [List.length_drop];omega,hb2,rfl,rfl⟩
  |zero=>
   have hq0:q=[]:=List.eq_nil_of_length_eq_zero (by omega)
   subst hq0
   have hu:u=V:=hb
   subst hu
   repeat' (first|apply zA rfl|(apply zd_ rfl<;>intro ht<;>try omega)|((first|apply zB rfl|(apply zG<;>intro ht))<;>try simp (disch:=first|omega|simp only [lz];try omega) only [go_sem,q3,q4,V8.c8]))
   refine zW.loop (fun m J O'=>∃j:Nat,m+j=8/\ J 2=.ptr O.length 0 0/\ J 5=.ptr (O.length+2) 0 0/\ J 19=.agg u.c8/\ J 20=.int .i64 j/\ O'=O++ [some [z11 (List.replicate 32 0)],some [u.c8],some [z4p u j]]) 8 ?_ ?_
   ·exact⟨0,by omega,by simp only [go_sem,q2],by simp only [go_sem],by simp only [go_sem];rfl,by simp only [go_sem];rfl,rfl⟩
   ·clear q2 q3 q4
    rintro m J O' ⟨j,hm,q2,q5,q19,q20,rfl⟩
    have hlen:=zu5 u (j:=j) (by omega)
    by_cases hj:j<8
    ·have hst:=zu6 u hj
     have hw:=z8j (w:=u.l) (i:=j) (by simpa [V8.l]using hj)
     rw [ws_l]at hw
     generalize wat u.l j=x at*
     generalize z4p u j=cc at*
     generalize hcc:z4p u (j+1)=cc' at*
     have hx:x.toNat<4294967296:=x.isLt
     have hb4:(be 4 x.toNat).length=4:=z44 _ _
     have ht4:(zy (be 4 x.toNat)).take (32-4*j)=zy (be 4 x.toNat):=List.take_of_length_le (by rw [zo,hb4];omega)
     have hn4:(4*(j:Int)).toNat=4*j:=by omega
     repeat' (first|refine zs_ ?_|refine zb_ ?_|refine zc_ ?_|refine zt_ rfl ?_|refine zf_ rfl ?_|(refine zd_ rfl (fun ht=> ?_) (fun ht=> ?_)<;>try (exfalso;omega))|((first|refine zW.regS ?_|refine zk_ ?_|refine ze_ ?_|refine zq_ ?_|(apply callW.mk_pu;exact(fun _=>z6g _ _ _ (by omega) (by omega)))|(apply callW.za;exact(z6g _ _ _ (by omega) (by omega)))|(apply zG<;>intro ht))<;>try simp (disch:=first|omega|simp only [lz];try omega) only [go_sem,q2,q5,q19,q20,hlen,hw,put4,hb4,ht4,hn4,zip]))
     unfold z1i at hst
     rw [List.append_assoc]at hst
     exact⟨8-(j+1),by omega,j+1,by omega,by simp,by rw [hst,hcc]⟩
    ·obtain rfl:j=8:=by omega
     have e8:z4p u 8=z11 (outV u):=by
      unfold z4p
      rw [List.take_of_length_le (by rw [z58];decide)]
      exact List.append_nil _
     have hd:List.drop 32 (z11 (List.replicate 32 0))=[]:=rfl
     have hl:(z11 (outV u)).length=32:=by rw [zw,z58]
     rw [e8]at*
     repeat' (first|apply zA rfl|(apply zd_ rfl<;>intro ht<;>try omega)|((first|apply zB rfl|(apply zG<;>intro ht))<;>try simp (disch:=first|omega|simp only [lz];try omega) only [go_sem,q2,q5,q20,hl,hd]))
     exact DownV.pure hw (z4t (z3d _))
end
end Am
end Go.Proofs.YtcdcmgjnbjoajaaGreatDoor
section
namespace Go.Proofs
open Go.Shelf Go.RowKit
def Tryz.lays240_ren:Go.Shelf.Ren:=⟨fun| 240=>125| 276=>151|n=>n,fun| 0=>0| 4=>4| 9=>9| 20=>20| 70=>136| 72=>138| 164=>195| 37=>105|n=>n,fun|n=>n⟩
theorem Tryz.lays240:Go.Proofs.Lays.n240 Tryz.prog Tryz.lays240_ren:={
 mixed:=by kernel_rfl
 f240:=Tryz.func125.trans (congrArg some (by kernel_rfl))
 f276:=Tryz.func151.trans (congrArg some (by kernel_rfl))
 t0:=Tryz.underlying0
 a0:=Tryz.isAgg0
 z0:=Tryz.sizeOf0
 v0:=Tryz.zeroValue0
 t4:=Tryz.underlying4
 a4:=Tryz.isAgg4
 z4:=Tryz.sizeOf4
 v4:=Tryz.zeroValue4
 t9:=Tryz.underlying9
 a9:=Tryz.isAgg9
 z9:=Tryz.sizeOf9
 v9:=Tryz.zeroValue9
 t20:=Tryz.underlying20
 a20:=Tryz.isAgg20
 z20:=Tryz.sizeOf20
 v20:=Tryz.zeroValue20
 t70:=Tryz.underlying136
 a70:=Tryz.isAgg136
 z70:=Tryz.sizeOf136
 v70:=Tryz.zeroValue136
 t72:=Tryz.underlying138
 a72:=Tryz.isAgg138
 z72:=Tryz.sizeOf138
 v72:=Tryz.zeroValue138
 t164:=Tryz.underlying195
 a164:=Tryz.isAgg195
 z164:=Tryz.sizeOf195
 v164:=Tryz.zeroValue195 }
theorem Tryz.x72_240:Builder.X72 Tryz.prog Tryz.lays240_ren:={
 sizeBuilder:=by kernel_rfl
 liesBuilder:=by kernel_rfl }
section
variable {P:Program} {J:Ren}
set_option maxRecDepth 100000 in
theorem Tryz.string_ex(L:Lays.n169 P J)(X:Builder.Extra P J)(b g cap:Nat)(cur:Array Value)(p:Value)(fb fg:Nat × Nat)(l:List UInt8)(w:World)(h0:l ≠ [])
  (hbk:w.heap[b]? =some (.cells #[p,.slice (some ⟨g,0,none⟩) l.length cap] (J.t 72) fb)) (hg:w.heap[g]? =some (.cells cur (J.t 5) fg)) (hnc:l.length<=cap) (hcs:l.length<=cur.size) (hln:l.length<=9223372036854775807)
  (hcl:∀j x,l[j]? =some x->w.cell? ((⟨g,0,none⟩:Addr).add j)=some (.int .u8 x.toNat)):
  Calls P (J.f 169) #[.pointer (some ⟨b,0,none⟩)] w fun e w'=>e=.returned (.string ⟨l.toArray⟩)/\ w'=w.drew.freeze ⟨g,0,none⟩ l.length:=by
 have hl0:l.length ≠ 0:=by simpa using h0
 have c1:w.drew.cell? ⟨b,1,none⟩=some (.slice (some ⟨g,0,none⟩) l.length cap):=by
  have:w.drew.heap[b]? =some (.cells #[p,.slice (some ⟨g,0,none⟩) l.length cap] (J.t 72) fb):=hbk
  rw [Lib.cell_of_heap this];rfl
 have hSD:(Builtin.unsafeSliceData_ #[(J.t 37)] (J.t 127) #[.slice (some ⟨g,0,none⟩) l.length cap]).run P w.drew=.ok (.pointer (some ⟨g,0,none⟩)) w.drew:=
  Lib.run_unsafeSliceData_row _ _ _ _ _ _ (by omega)
 have hUS:(Builtin.unsafeString_ #[(J.t 127),(J.t 3)] (J.t 9) #[.pointer (some ⟨g,0,none⟩),.int .i64 l.length]).run P w.drew=.ok (.string ⟨l.toArray⟩) (w.drew.freeze ⟨g,0,none⟩ l.length):=
  Lib.run_unsafeString_row w.drew (J.t 127) (J.t 3) (J.t 9) (J.t 5) L.t127 X.cellsByte g cur.size (by have hg':w.drew.heap[g]? =some (.cells cur (J.t 5) fg):=hg;simp [World.shape?,hg']) l h0 hcs hln hcl
 have mixed:=L.mixed
 have t72:=L.t72;have a72:=L.a72;have z72:=L.z72;have v72:=L.v72;have u72:=run_underlying L.t72
 have t70:=L.t70;have a70:=L.a70;have z70:=L.z70;have v70:=L.v70;have u70:=run_underlying L.t70
 have t37:=L.t37;have a37:=L.a37;have z37:=L.z37;have v37:=L.v37;have u37:=run_underlying L.t37
 have t127:=L.t127;have a127:=L.a127;have z127:=L.z127;have v127:=L.v127;have u127:=run_underlying L.t127
 have t3:=L.t3;have a3:=L.a3;have z3:=L.z3;have v3:=L.v3;have u3:=run_underlying L.t3
 have t9:=L.t9;have a9:=L.a9;have z9:=L.z9;have v9:=L.v9;have u9:=run_underlying L.t9
 have t5:=X.t5;have a5:=X.a5;have z5:=X.z5;have v5:=X.v5;have u5:=run_underlying X.t5
 clear hcl hcs hln hg hbk hnc
 go_enter L.f169,Body.n169_ntmps J
 go_wp2
 go_region_o
 all_goals (go_wp2;go_ret;exact⟨rfl,rfl⟩)
end
end Go.Proofs
namespace Go.Proofs.YtcdcmgjnbjoajaaGreatDoor
namespace Am
open Go.RowKit
section
variable {C:Ctx} {Z:Places} {O:Store} {w w':World}
theorem Rel.lose(h:Rel C Z O w){r:Nat}{pl:Place}(hr:Z[r]? =some (true,pl))(hsz:w'.heap.size=w.heap.size)(hother:∀b,b ≠ pl.b->w'.heap[b]? =w.heap[b]?)(ho:w'.os=w.os)(ht:w'.tape=w.tape)(hp:w'.output=w.output):
  Step Z w (Z.set r (false,pl)) w'/\ Rel C (Z.set r (false,pl)) (O.set r none) w':=by
 obtain⟨k1,k2⟩:=h.kill hr
 have hrl:r<Z.length:=(List.getElem?_eq_some_iff.1 hr).1
 have hs:Step Z w (Z.set r (false,pl)) w':=⟨k1.keep,by omega,fun b _ hn=>hother b fun e=>hn r pl hr e.symm,fun q x hx=>by
  rcases k1.new q x hx with h|h
  ·exact .inl h
  ·exact .inr h,ho,ht,hp⟩
 refine⟨hs,by simp [h.len],fun q o hq=> ?_,fun q hq=>k2.dead q hq,fun q q' x x' h1 h2 h3=>k2.inj q q' x x' h1 h2 h3,fun g cs hg=>(h.gl g cs hg).mono hs⟩
 by_cases e:r=q
 ·subst e
  rw [List.getElem?_set_self (by rw [<-h.len];exact hrl)]at hq;cases hq
 ·rw [List.getElem?_set_ne e]at hq
  obtain⟨x,h1,h2⟩:=h.alive q o hq
  exact⟨x,by rw [List.getElem?_set_ne e];exact h1,h2.mono hs (hother _ fun e'=>e (h.inj r q pl x hr h1 e'.symm))⟩
theorem Rel.bld_at(hR:Rel C Z O w){r:Nat}{x:AV}(hr:O[r]? =some (some [[.bld r,x]])):∃(pl:Place) (v0 v1:Value) (fz:Nat × Nat),Z[r]? =some (true,pl)/\ pl.base=0/\ pl.esz=2/\ w.heap[pl.b]? =some (.cells #[v0,v1] bldT fz) ∧
  (v0=.pointer none \/v0=.pointer (some ⟨pl.b,0,none⟩))/\ VR Z w x v1/\ (∀k,k<2->(decide (fz.1<=k) && decide (k<fz.2))=false):=by
 obtain⟨pl,hpl,hok⟩:=hR.alive r _ hr
 obtain⟨c,ty,fz,pre,mid,post,q1,q2,q3,q4,q5,q6⟩:=hok.ex
 simp only [List.flatten_cons,List.flatten_nil,List.append_nil,VRs]at q5
 obtain⟨v0,_,rfl,⟨k1,_⟩,v1,_,rfl,⟨k2,_⟩,rfl⟩:=q5
 simp only [VR]at k1
 obtain⟨fl,pl',hpl',⟨e1,e2,e3,e4,e5⟩,k3⟩:=k1
 rw [hpl]at hpl';cases hpl'
 have hty:ty=bldT:=by
  obtain⟨c0,fz0,h0⟩:=hok.tyk
  rw [q1]at h0;cases h0;exact e1
 have hpre:pre=[]:=List.eq_nil_of_length_eq_zero (by omega)
 subst hpre
 have hlen:c.toList.length=2:=by rw [Array.length_toList,q4,e5]
 have hpost:post=[]:=by
  rw [q2]at hlen
  simpa using hlen
 subst hpost
 have hc:c= #[v0,v1]:=by
  apply Array.ext'
  rw [q2];rfl
 subst hc hty
 exact⟨pl,v0,v1,fz,hpl,e2,e3,q1,k3,k2,fun k hk=>q6.1.lt k (by omega)⟩
end
theorem z10d{O:Store}{r:Nat}{x:Option AObj}(h:O[r]? =some x):O.set r x=O:=by
 apply List.ext_getElem?
 intro i
 by_cases e:r=i
 ·subst e
  rw [List.getElem?_set_self (List.getElem?_eq_some_iff.1 h).1,h]
 ·rw [List.getElem?_set_ne e]
theorem zdv(O:Store)(r:Nat)(x:AV)(hr:O[r]? =some (some [[.bld r,x]])):ACallsTo TC 125 [.ptr r 0 0] O (.tup []) O:=by
 obtain⟨e,hc⟩:=Option.isSome_iff_exists.1 (show (cFn TC 125).isSome=true by kernel_rfl)
 simp only [cFn,Option.bind_eq_some_iff]at hc
 obtain⟨fn,hf,hc⟩:=hc
 split at hc
 ·cases hc
 ·rename_i hname
  simp only [Option.bind_eq_some_iff,Option.map_eq_some_iff]at hc
  obtain⟨c,hb,_⟩:=hc
  intro Z w cargs hR ha
  left
  constructor
  ·have h1:fn.name ≠ "runtime.NumGoroutine" :=by simpa using hname
   simp [callFunc,hf,h1,hb]
  ·obtain⟨pl,v0,v1,fz,hpl,hb0,hez,hw,hv0,hv1,hfz⟩:=hR.bld_at hr
   simp only [VRt,VR]at ha
   obtain⟨_,_,rfl,⟨fl,pl',hpl',rfl⟩,rfl⟩:=ha
   rw [hpl]at hpl';cases hpl'
   have ea:pl.base+0*pl.esz+0=0:=by rw [hb0];omega
   rw [ea]
   have hcell:w.cell? ⟨pl.b,0,none⟩=some v0:=by rw [Lib.cell_of_heap hw];rfl
   rcases hv0 with rfl|rfl
   ·refine(Any.Builder_copyCheck_fresh Tryz.lays240 Tryz.x72_240 pl.b w hcell (by simp [World.shape?,hw];rfl) (by simp only [World.frozen?,hw];exact hfz 0 (by omega))).mono ?_
    rintro e w' ⟨rfl,rfl⟩
    obtain⟨w2,k1,k2,k3⟩:=hR.storeElem (i:=0) (off:=0) (vs:=[.bld r]) (vals:=[.pointer (some ⟨pl.b,0,none⟩)]) hr hpl rfl (by simp) (VRs.one ⟨by
     simp only [VR]
     obtain⟨pl2,hpl2,hok⟩:=hR.alive r _ hr
     rw [hpl]at hpl2;cases hpl2
     obtain⟨c,ty,fz2,pre,mid,post,q1,q2,q3,q4,q5,q6⟩:=hok.ex
     simp only [List.flatten_cons,List.flatten_nil,List.append_nil,VRs,VR]at q5
     obtain⟨u0,_,_,⟨⟨fl3,pl3,hpl3,k,_⟩,_⟩,_⟩:=q5
     rw [hpl]at hpl3;cases hpl3
     exact⟨true,pl,hpl,k,.inr rfl⟩,rfl⟩)
    rw [ea]at k1
    have e2:w2=w.setCell ⟨pl.b,0,none⟩ (.pointer (some ⟨pl.b,0,none⟩)):=by
     have hfr:w.frozen? ⟨pl.b,0,none⟩=false:=by simp only [World.frozen?,hw];exact hfz 0 (by omega)
     have hst:(store ⟨pl.b,0,none⟩ (.pointer (some ⟨pl.b,0,none⟩))).run TC.P w=.ok () (w.setCell ⟨pl.b,0,none⟩ (.pointer (some ⟨pl.b,0,none⟩))):=by
      rw [run_store TC.P w _ _ _ rfl,hcell];simp [hfr]
     have:=k1
     simp only [storeCells,z3i,Nat.add_zero,Sem.run_bind,hst,Result.andThen_ok,Sem.run_pure,Result.ok.injEq,true_and]at this
     exact this.symm
    rw [<-e2]
    have e3:O.set r (some ([[.bld r,x]].set 0 (z1i [.bld r,x] 0 [.bld r])))=O:=by
     have:([[AV.bld r,x]]:List (List AV)).set 0 (z1i [.bld r,x] 0 [.bld r])=[[.bld r,x]]:=by simp [z1i]
     rw [this]
     exact z10d hr
    rw [e3]at k3
    exact⟨_,Z,rfl,k2,k3,by simp only [VR];exact⟨[],rfl,VRt.nil⟩⟩
   ·refine(Any.Builder_copyCheck_used Tryz.lays240 Tryz.x72_240 pl.b w hcell).mono ?_
    rintro e w' ⟨rfl,rfl⟩
    exact⟨_,Z,rfl,Step.refl _ _,hR,by simp only [VR];exact⟨[],rfl,VRt.nil⟩⟩
theorem zdg(O:Store)(r rb:Nat)(s:List UInt8)(h0:s ≠ [])(hs:s.length<=1073741824)(h1:O[r]? =some (some [[.bld r,.bsl rb s.length]]))(h2:O[rb]? =some (some (zy s))):
  ACallsTo TC 86 [.ptr r 0 0] O (.str s) (O.set rb none):=by
 obtain⟨e,hc⟩:=Option.isSome_iff_exists.1 (show (cFn TC 86).isSome=true by kernel_rfl)
 simp only [cFn,Option.bind_eq_some_iff]at hc
 obtain⟨fn,hf,hc⟩:=hc
 split at hc
 ·cases hc
 ·rename_i hname
  simp only [Option.bind_eq_some_iff,Option.map_eq_some_iff]at hc
  obtain⟨c,hb,_⟩:=hc
  intro Z w cargs hR ha
  left
  constructor
  ·have h1:fn.name ≠ "runtime.NumGoroutine" :=by simpa using hname
   simp [callFunc,hf,h1,hb]
  ·obtain⟨pl,v0,v1,fz,hpl,hb0,hez,hw,hv0,hv1,hfz⟩:=hR.bld_at h1
   simp only [VRt,VR]at ha
   obtain⟨_,_,rfl,⟨fl,pl',hpl',rfl⟩,rfl⟩:=ha
   rw [hpl]at hpl';cases hpl'
   have ea:pl.base+0*pl.esz+0=0:=by rw [hb0];omega
   rw [ea]
   simp only [VR]at hv1
   obtain⟨fl2,pb,cap,hpb,⟨t1,t2,t3⟩,rfl,hso⟩:=hv1
   obtain⟨pb',hpb',hok⟩:=hR.alive rb _ h2
   rw [hpb]at hpb';cases hpb'
   obtain⟨cur,ty,fg,pre,mid,post,q1,q2,q3,q4,q5,q6⟩:=hok.ex
   have hty:ty=u8T:=by
    obtain⟨c0,fz0,h0⟩:=hok.tyk
    rw [q1]at h0;cases h0;exact t1
   subst hty
   have hpre:pre=[]:=List.eq_nil_of_length_eq_zero (by omega)
   subst hpre
   rw [zay]at q5
   have hml:=q5.length
   rw [List.length_map]at hml
   have hcs:s.length<=cur.size:=by
    rw [<-Array.length_toList,q2];simp;omega
   refine(Tryz.string_ex Tryz.lays169 Tryz.Builder_Extra_169 pl.b pb.b cap cur v0 fz fg s w h0 hw q1 hso.le hcs (by omega) (fun j x hj=> ?_)).mono ?_
   ·obtain⟨v,k1,k2⟩:=q5.get (i:=j) (a:=B8 x) (by rw [List.getElem?_map,hj];rfl)
    have hv:=k2.1
    simp only [B8,VR]at hv
    rw [z3i,Nat.zero_add,Lib.cell_of_heap q1]
    show cur[j]? =_
    rw [<-Array.getElem?_toList,q2,List.nil_append,List.getElem?_append_left (by
     rcases Nat.lt_or_ge j mid.length with h|h
     ·exact h
     ·simp [List.getElem?_eq_none h]at k1),k1,hv]
   ·rintro e w' ⟨rfl,rfl⟩
    have hz:s.length ≠ 0:=by simpa using h0
    obtain⟨k1,k2⟩:=hR.lose (w':=w.drew.freeze ⟨pb.b,0,none⟩ s.length) hpb (by show (World.freeze w.drew _ _).heap.size=w.drew.heap.size;unfold World.freeze;rw [if_neg hz];exact Array.size_modify) (fun b hb=>by
     show (World.freeze w.drew _ _).heap[b]? =w.drew.heap[b]?
     unfold World.freeze
     rw [if_neg hz]
     simp only [Array.getElem?_modify]
     rw [if_neg (fun e=>hb e.symm)]) (by unfold World.freeze;rw [if_neg hz];rfl) (by unfold World.freeze;rw [if_neg hz];rfl) (by unfold World.freeze;rw [if_neg hz];rfl)
    exact⟨_,_,rfl,k1,k2,by simp only [VR]⟩
end Am
end Go.Proofs.YtcdcmgjnbjoajaaGreatDoor
end
namespace Go.Proofs.YtcdcmgjnbjoajaaGreatDoor
namespace Am
variable {vs:List Value}{w w':World}{Z Z':Places}{k n i off sz r p:Nat}{C:Ctx}{cs:List AV}{t e:TypeId}{x v:AV}{a b:Int}{es ys:List (List AV)}{s:List UInt8}{O O':Store}{f:FuncId}{J:Env}{K:Env->Store->Prop}{d:Option Nat}{ops:Array Oper}{ac:ACode}{rest:List (Nat × Nat × AV)}
section
theorem zpw(l:List UInt8):RLss k (zy l):=by
 induction l with
 |nil=>simp [zy,RLss]
 |cons b l ih=>simp only [zy,B8]at ih;simp [zy,RLss,B8,RLs,RL,ih]
def OwnB(O O':Store)(v:AV)(b:List UInt8):Prop:=∃news j,O'=O++news/\ v=.sl (O.length+j) 0 b.length none 1/\ news[j]? =some (some (zy b))
theorem OwnB.down{b:List UInt8}(hw:Wf O.length O)(h:OwnB O O' v b):DownV O.length v O' (.vsl 1 (zy b) false) O:=by
 obtain⟨news,j,rfl,rfl,h⟩:=h
 have hl:(zy b).length=b.length:=zo b
 have e:((zy b).drop 0).take b.length=zy b:=by rw [List.drop_zero,List.take_of_length_le (by omega)]
 have:=DownV.froze (off:=0) (len:=b.length) (esz:=1) (lim:=none) hw h (by omega) (by rw [e];exact zpw b)
 rw [e]at this
 exact this
theorem OwnB.app{b c:List UInt8}(h:OwnB O O' (.sl r 0 n none 1) b):OwnB O (O'.set r none++ [some (zy c)]) (.sl O'.length 0 c.length none 1) c:=by
 obtain⟨news,j,rfl,e,h⟩:=h
 simp only [AV.sl.injEq,true_and,and_true]at e
 obtain⟨rfl,rfl⟩:=e
 refine⟨news.set j none++ [some (zy c)],news.length,?_,by simp,?_⟩
 ·rw [List.set_append_right _ _ (by omega),Nat.add_sub_cancel_left,List.append_assoc]
 ·rw [List.getElem?_append_right (by simp)];simp
theorem OwnB.get{b:List UInt8}(h:OwnB O O' v b):∃r,v=.sl r 0 b.length none 1/\ O'[r]? =some (some (zy b)):=by
 obtain⟨news,j,rfl,rfl,h⟩:=h
 exact⟨_,rfl,by rw [List.getElem?_append_right (by omega),Nat.add_sub_cancel_left];exact h⟩
theorem ziq(b:List UInt8)(x:Nat)(m:Int)(h:m=((x%256:Nat):Int)):zy b++ [[AV.int .u8 m]]=zy (b++ [UInt8.ofNat x]):=by
 subst h
 simp [zy,B8]
theorem zr6(x:Nat){j:Nat}(h:j<8):(be 8 x).take j++ [UInt8.ofNat (x/2^(8*(7-j)))]=(be 8 x).take (j+1):=by
 have e:be 8 x=[UInt8.ofNat (x/256^7),UInt8.ofNat (x/256^6),UInt8.ofNat (x/256^5),UInt8.ofNat (x/256^4),UInt8.ofNat (x/256^3),UInt8.ofNat (x/256^2),UInt8.ofNat (x/256^1),UInt8.ofNat (x/256^0)]:=by
  simp only [z8x]
  rfl
 rw [e]
 have hj:j=0 \/j=1 \/j=2 \/j=3 \/j=4 \/j=5 \/j=6 \/j=7:=by omega
 rcases hj with rfl|rfl|rfl|rfl|rfl|rfl|rfl|rfl<;>rfl
theorem pad_to(O:Store)(s:List UInt8)(h:s.length<1000000000):ACallsTo TC 132 [.str s] O (.vsl 1 (zy (padS s)) false) O:=by
 obtain⟨z,hz⟩:∃z:Nat,z=(119-s.length%64)%64:=⟨_,rfl⟩
 have hz64:z<64:=by rw [hz];exact Nat.mod_lt _ (by decide)
 obtain⟨P,hP⟩:∃P,P=padS s:=⟨_,rfl⟩
 have hP2:P=(s++128::List.replicate z 0)++be 8 (s.length*8):=by rw [hP,padS,hz];simp
 rw [<-hP]
 refine ACallsTo.of_body q9ok (by simp) fun hw _=> ?_
 repeat' (first|apply zA rfl|(apply zd_ rfl<;>intro ht<;>try omega)|((first|apply zB rfl|(apply zG<;>intro ht))<;>try simp (disch:=first|omega|simp only [lz];try omega) only [go_sem]))
 refine zW.loop (fun m J O'=>∃k:Nat,m+k=z/\ J 0=.str s/\ OwnB O O' (J 3) (s++128::List.replicate k 0)) z ?_ ?_
 ·refine⟨0,by omega,by simp only [go_sem],?_⟩
  simp (disch:=first|omega|simp only [lz];try omega) only [go_sem]
  refine⟨[none,some (zy (s++ [128]))],1,?_,?_,rfl⟩
  ·simp [zy,B8]
  ·simp
 ·rintro m J O' ⟨k,hm,q0,hO⟩
  obtain⟨r,q3,hg⟩:=hO.get
  have hb:(s++128::List.replicate k 0).length=s.length+1+k:=by simp;omega
  have hbe:=zo (s++128::List.replicate k 0)
  by_cases hk:k<z
  ·rw [q3]at hO
   rw [hb]at q3 hbe hO
   have e0:zy (s++128::List.replicate k 0)++ [[AV.int .u8 0]]=zy (s++128::List.replicate (k+1) 0):=by
    rw [ziq _ 0 0 (by simp),List.append_assoc,List.cons_append,List.replicate_succ']
    rfl
   have hO2:=hO.app (c:=s++128::List.replicate (k+1) 0)
   have hc:(s++128::List.replicate (k+1) 0).length=s.length+1+k+1:=by simp;omega
   rw [hc]at hO2
   generalize zy (s++128::List.replicate k 0)=bb at*
   repeat' (first|apply zA rfl|(apply zd_ rfl<;>intro ht<;>try omega)|((first|apply zB rfl|(apply zG<;>intro ht))<;>try simp (disch:=first|omega|simp only [lz];try omega) only [go_sem,q0,q3,hg,hbe,e0]))
   exact⟨z-(k+1),by omega,k+1,by omega,hO2⟩
  ·obtain rfl:k=z:=by omega
   obtain⟨N,hN⟩:∃N,N=s.length*8:=⟨_,rfl⟩
   have hN2:(s.length:Int)*8=N:=by omega
   have hb8:(be 8 N).length=8:=z44 _ _
   rw [<-hN]at hP2
   rw [hb]at q3 hbe
   have h56:((s.length:Int)+1+k)%64=56:=by omega
   generalize hB:s++128::List.replicate k 0=B at*
   repeat' (first|apply zA rfl|(apply zd_ rfl<;>intro ht<;>try omega)|((first|apply zB rfl|(apply zG<;>intro ht))<;>try simp (disch:=first|omega|simp only [lz];try omega) only [go_sem,q0,q3,h56,hN2,Int.natCast_add,Int.natCast_one]))
   refine zW.loop (fun m J O'=>∃j:Nat,m+j=8/\ J 4=.int .u64 N/\ J 5=.int .i64 (7-j)/\ OwnB O O' (J 3) (B++(be 8 N).take j)) 8 ?_ ?_
   ·refine⟨0,by omega,by simp only [go_sem],by simp only [go_sem];rfl,?_⟩
    simp (disch:=first|omega|simp only [lz];try omega) only [go_sem,q3]
    rw [q3]at hO
    exact hO
   ·clear q0 q3 hO hg
    rintro m J O' ⟨j,hm,q4,q5,hO⟩
    obtain⟨r,q3,hg⟩:=hO.get
    have hl:(B++(be 8 N).take j).length=s.length+1+k+j:=by rw [List.length_append,hb,List.length_take,hb8];omega
    have hbe:=zo (B++(be 8 N).take j)
    by_cases hj:j<8
    ·rw [q3]at hO
     rw [hl]at q3 hbe hO
     have hO2:=hO.app (c:=B++(be 8 N).take (j+1))
     have hc:(B++(be 8 N).take (j+1)).length=s.length+1+k+j+1:=by rw [List.length_append,hb,List.length_take,hb8];omega
     rw [hc]at hO2
     have hs:(8*(7-(j:Int))).toNat=8*(7-j):=by omega
     have e0:zy (B++(be 8 N).take j)++ [[AV.int .u8 ((N:Int)/2^(8*(7-j))%256)]]=zy (B++(be 8 N).take (j+1)):=by
      rw [ziq _ (N/2^(8*(7-j))) _ (by rw [Int.natCast_emod,Int.natCast_ediv,Int.natCast_pow];rfl),List.append_assoc,zr6 N hj]
     generalize zy (B++(be 8 N).take j)=bb at*
     repeat' (first|apply zA rfl|(apply zd_ rfl<;>intro ht<;>try omega)|((first|apply zB rfl|(apply zG<;>intro ht))<;>try simp (disch:=first|omega|simp only [lz];try omega) only [go_sem,q3,q4,q5,hg,hbe,hs,e0]))
     exact⟨8-(j+1),by omega,j+1,by omega,by rw [show (7:Int)-((j+1:Nat):Int)=7-j-1 by omega],hO2⟩
    ·obtain rfl:j=8:=by omega
     have e8:B++(be 8 N).take 8=P:=by rw [List.take_of_length_le (by omega)];exact hP2.symm
     rw [e8]at hO q3
     repeat' (first|apply zA rfl|(apply zd_ rfl<;>intro ht<;>try omega)|((first|apply zB rfl|(apply zG<;>intro ht))<;>try simp (disch:=first|omega|simp only [lz];try omega) only [go_sem,q3,q5]))
     rw [q3]at hO
     exact hO.down hw
end
section
def z32:List AV:=z11 (List.replicate 32 0)
def mkS(τ:Store)(u:V8)(cells:List AV):Store:=τ++ [some [z32],some [gl_sha_rounds],some [u.c8],some [cells]]
def Rk(J:Env)(a:Nat)(p:List UInt8)(n:Nat):Prop:=
 J 2=.ptr a 0 0/\ J 3=.ptr (a+1) 0 0/\ J 4=.ptr (a+2) 0 0/\ J 5=.vsl 1 (zy p) false/\ J 6=.ptr (a+3) 0 0/\ J 7=.int .i64 n
theorem zj8{w:List W}{x:W}{rest:List AV}(h:w.length=n)(hr:0<rest.length):(ws w++rest).take n++AV.int .u32 x.toNat::(ws w++rest).drop (n+1)=ws (w++ [x])++rest.drop 1:=by
 have hl:(ws w).length=n:=by rw [z5j,h]
 rw [List.take_append_of_le_length (by omega),List.take_of_length_le (by omega),List.drop_append,List.drop_of_length_le (by omega),hl]
 rw [show n+1-n=1 by omega,List.nil_append]
 simp [ws,wc]
theorem z13d{p:List UInt8}(h:n+4*i+4<=p.length)(hi:i<16):
  ((p.getD (n+4*i) 0).toNat:Int)*16777216+(p.getD (n+4*i+1) 0).toNat*65536+(p.getD (n+4*i+2) 0).toNat*256+(p.getD (n+4*i+3) 0).toNat=((z7a ((p.drop n).take 64) i).toNat:Int):=by
 have e:((((p.drop n).take 64).drop (4*i)).take 4)=[p.getD (n+4*i) 0,p.getD (n+4*i+1) 0,p.getD (n+4*i+2) 0,p.getD (n+4*i+3) 0]:=by
  rw [List.drop_take,List.take_take,List.drop_drop,show min 4 (64-4*i)=4 by omega]
  obtain⟨A,hA⟩:∃A,A=p.drop (n+4*i):=⟨_,rfl⟩
  have g:∀k,p.getD (n+4*i+k) 0=A.getD k 0:=by
   intro k
   rw [hA,List.getD_eq_getElem?_getD,List.getD_eq_getElem?_getD,List.getElem?_drop]
  have g0:=g 0
  rw [Nat.add_zero]at g0
  rw [g0,g 1,g 2,g 3,<-hA]
  have hl:4<=A.length:=by rw [hA,List.length_drop];omega
  match A,hl with
  |a::b::c::d::A,_=>rfl
 unfold z7a
 rw [e]
 generalize p.getD (n+4*i) 0=a
 generalize p.getD (n+4*i+1) 0=b
 generalize p.getD (n+4*i+2) 0=c
 generalize p.getD (n+4*i+3) 0=d
 have h1:=a.toNat_lt
 have h2:=b.toNat_lt
 have h3:=c.toNat_lt
 have h4:=d.toNat_lt
 simp only [getS,val,List.take_of_length_le (show [a,b,c,d].length<=8 by simp),List.foldl_cons,List.foldl_nil,BitVec.toNat_ofNat]
 omega
section
variable {k:Nat} {Q:AExit->Env->Store->Prop} {J:Env} {τ:Store} {u:V8} {p:List UInt8} {n:Nat}
theorem zzs{cells:List AV}(K:Rk J τ.length p n)(hp:n+64<=p.length)(hpl:p.length<2000000000)(hc:cells.length=64)
  (hQ:∀J' rest,rest.length=48->Rk J' τ.length p n->Q .normal J' (mkS τ u (ws (z17 ((p.drop n).take 64) 16)++rest))):zW TC 252 k q7c21 Q J (mkS τ u cells):=by
 obtain⟨k2,k3,k4,k5,k6,k7⟩:=K
 obtain⟨q,hq⟩:∃q,q=(p.drop n).take 64:=⟨_,rfl⟩
 rw [<-hq]at hQ
 repeat' (first|apply zA rfl|(apply zd_ rfl<;>intro ht<;>try omega)|((first|apply zB rfl|(apply zG<;>intro ht))<;>try simp (disch:=first|omega|simp only [lz];try omega) only [go_sem]))
 refine zW.loop (fun m J O'=>∃(i:Nat) (rest:List AV),m+i=16/\ rest.length=64-i/\ Rk J τ.length p n/\ J 8=.int .i64 i/\ O'=mkS τ u (ws (z17 q i)++rest)) 16 ?_ ?_
 ·exact⟨0,cells,by omega,hc,⟨by simp (disch:=first|omega|simp only [lz];try omega) only [go_sem,k2],by simp (disch:=first|omega|simp only [lz];try omega) only [go_sem,k3],by simp (disch:=first|omega|simp only [lz];try omega) only [go_sem,k4],by simp (disch:=first|omega|simp only [lz];try omega) only [go_sem,k5],by simp (disch:=first|omega|simp only [lz];try omega) only [go_sem,k6],by simp (disch:=first|omega|simp only [lz];try omega) only [go_sem,k7]⟩,by simp only [go_sem];rfl,rfl⟩
 ·rintro m J O' ⟨i,rest,hm,hr,⟨q2,q3,q4,q5,q6,q7⟩,q8,rfl⟩
  by_cases hi:i<16
  ·have hwd:=z13d (p:=p) (n:=n) (i:=i) (by omega) hi
   rw [<-hq]at hwd
   have hset:=zj8 (x:=z7a q i) (rest:=rest) (z4v q i) (by omega)
   have hlen:(ws (z17 q i)++rest).length=64:=by rw [List.length_append,z5j,z4v,hr];omega
   have hsc:z17 q (i+1)=z17 q i++ [z7a q i]:=by rw [z17,z41,z4v,if_pos hi]
   have n0:((n:Int)+4*i).toNat=n+4*i:=by omega
   have n1:((n:Int)+4*i+1).toNat=n+4*i+1:=by omega
   have n2:((n:Int)+4*i+2).toNat=n+4*i+2:=by omega
   have n3:((n:Int)+4*i+3).toNat=n+4*i+3:=by omega
   have b0:=(p.getD (n+4*i) 0).toNat_lt
   have b1:=(p.getD (n+4*i+1) 0).toNat_lt
   have b2:=(p.getD (n+4*i+2) 0).toNat_lt
   have b3:=(p.getD (n+4*i+3) 0).toNat_lt
   have g0:=zk7 (s:=p) (i:=n+4*i) (by omega)
   have e0:=z8z (s:=p) (i:=n+4*i) (by omega)
   have e1:=z8z (s:=p) (i:=n+4*i+1) (by omega)
   have e2:=z8z (s:=p) (i:=n+4*i+2) (by omega)
   have e3:=z8z (s:=p) (i:=n+4*i+3) (by omega)
   have hpb:=zo p
   unfold mkS
   generalize p.getD (n+4*i) 0=x0 at*
   generalize p.getD (n+4*i+1) 0=x1 at*
   generalize p.getD (n+4*i+2) 0=x2 at*
   generalize p.getD (n+4*i+3) 0=x3 at*
   generalize hpb2:zy p=pb at*
   generalize hcc:ws (z17 q i)++rest=cc at*
   repeat' (first|refine zs_ ?_|refine zb_ ?_|refine zc_ ?_|refine zt_ rfl ?_|refine zf_ rfl ?_|(refine zd_ rfl (fun ht=> ?_) (fun ht=> ?_)<;>try (exfalso;omega))|((first|refine zW.regS ?_|refine zk_ ?_|refine ze_ ?_|refine zq_ ?_|(apply zG<;>intro ht))<;>try simp (disch:=first|omega|simp only [lz];try omega) only [go_sem,q5,q6,q7,q8,hlen,n0,n1,n2,n3,e0,e1,e2,e3]))
   refine⟨16-(i+1),by omega,i+1,rest.drop 1,by omega,by rw [List.length_drop];omega,⟨by simp only [go_sem,q2],by simp only [go_sem,q3],by simp only [go_sem,q4],(by simp only [go_sem,q5];rw [hpb2]),by simp only [go_sem,q6],by simp only [go_sem,q7]⟩,by simp,?_⟩
   rw [hwd,hset,hsc]
  ·obtain rfl:i=16:=by omega
   repeat' (first|apply zA rfl|(apply zd_ rfl<;>intro ht<;>try omega)|((first|apply zB rfl|(apply zG<;>intro ht))<;>try simp (disch:=first|omega|simp only [lz];try omega) only [go_sem,q8]))
   exact hQ _ rest (by omega) ⟨by simp only [go_sem,q2],by simp only [go_sem,q3],by simp only [go_sem,q4],by simp only [go_sem,q5],by simp only [go_sem,q6],by simp only [go_sem,q7]⟩
theorem zzr{q:List UInt8}{rest:List AV}(K:Rk J τ.length p n)(hr:rest.length=48)
  (hQ:∀J',Rk J' τ.length p n->Q .normal J' (mkS τ u (ws (z17 q 64)))):zW TC 252 k q7c34 Q J (mkS τ u (ws (z17 q 16)++rest)):=by
 obtain⟨R,hR⟩:∃R,R=z17 q 64:=⟨_,rfl⟩
 rw [<-hR]at hQ
 obtain⟨k2,k3,k4,k5,k6,k7⟩:=K
 repeat' (first|apply zA rfl|(apply zd_ rfl<;>intro ht<;>try omega)|((first|apply zB rfl|(apply zG<;>intro ht))<;>try simp (disch:=first|omega|simp only [lz];try omega) only [go_sem]))
 refine zW.loop (fun m J O'=>∃(i:Nat) (rest:List AV),m+i=64/\ 16<=i/\ rest.length=64-i/\ Rk J τ.length p n/\ J 10=.int .i64 i/\ O'=mkS τ u (ws (z17 q i)++rest)) 48 ?_ ?_
 ·exact⟨16,rest,by omega,by omega,hr,⟨by simp (disch:=first|omega|simp only [lz];try omega) only [go_sem,k2],by simp (disch:=first|omega|simp only [lz];try omega) only [go_sem,k3],by simp (disch:=first|omega|simp only [lz];try omega) only [go_sem,k4],by simp (disch:=first|omega|simp only [lz];try omega) only [go_sem,k5],by simp (disch:=first|omega|simp only [lz];try omega) only [go_sem,k6],by simp (disch:=first|omega|simp only [lz];try omega) only [go_sem,k7]⟩,by simp only [go_sem];rfl,rfl⟩
 ·clear hr
  rintro m J O' ⟨i,rest,hm,h16,hr,⟨q2,q3,q4,q5,q6,q7⟩,q10,rfl⟩
  have hsl:=z4v q i
  by_cases hi:i<64
  ·have hset:=zj8 (x:=z41 q (z17 q i)) (rest:=rest) hsl (by omega)
   have hlen:(ws (z17 q i)++rest).length=64:=by rw [List.length_append,z5j,z4v,hr];omega
   have hsc:z17 q (i+1)=z17 q i++ [z41 q (z17 q i)]:=by rw [z17]
   have en:z41 q (z17 q i)=wat (z17 q i) (i-16)+wat (z17 q i) (i-7)+ss0 (wat (z17 q i) (i-15))+ss1 (wat (z17 q i) (i-2)):=by rw [z41,if_neg (by omega),hsl]
   have hwi:∀j,j<i->(ws (z17 q i)++rest)[j]? =some (.int .u32 (wat (z17 q i) j).toNat):=by
    intro j hj
    rw [List.getElem?_append_left (by rw [z5j];omega),z8j (by omega)]
   have g16:=hwi (i-16) (by omega)
   have g7:=hwi (i-7) (by omega)
   have g15:=hwi (i-15) (by omega)
   have g2:=hwi (i-2) (by omega)
   have t16:((i:Int)-16).toNat=i-16:=by omega
   have t7:((i:Int)-7).toNat=i-7:=by omega
   have t15:((i:Int)-15).toNat=i-15:=by omega
   have t2:((i:Int)-2).toNat=i-2:=by omega
   have r7:32-(7:Int).toNat=25:=rfl
   clear hwi
   generalize z41 q (z17 q i)=nx at*
   generalize wat (z17 q i) (i-16)=w16 at*
   generalize wat (z17 q i) (i-7)=w7 at*
   generalize wat (z17 q i) (i-15)=w15 at*
   generalize wat (z17 q i) (i-2)=w2 at*
   unfold mkS
   generalize hpb2:zy p=pb at*
   generalize hcc:ws (z17 q i)++rest=cc at*
   repeat' (first|refine zs_ ?_|refine zb_ ?_|refine zc_ ?_|refine zt_ rfl ?_|refine zf_ rfl ?_|(refine zd_ rfl (fun ht=> ?_) (fun ht=> ?_)<;>try (exfalso;omega))|((first|refine zW.regS ?_|refine zk_ ?_|refine ze_ ?_|refine zq_ ?_|(apply callW.mk_pu;exact(fun _=>zcz _ _ _ (by omega)))|(apply callW.za;exact(zcz _ _ _ (by omega)))|(apply zG<;>intro ht))<;>try simp (disch:=first|omega|simp only [lz];try omega) only [go_sem,q6,q10,hlen,g16,g7,g15,g2,t16,t7,t15,t2]))
   refine⟨64-(i+1),by omega,i+1,rest.drop 1,by omega,by omega,by rw [List.length_drop];omega,⟨by simp only [go_sem,q2],by simp only [go_sem,q3],by simp only [go_sem,q4],(by simp only [go_sem,q5];rw [hpb2]),by simp only [go_sem,q6],by simp only [go_sem,q7]⟩,by simp,?_⟩
   rw [hsc,<-hset,en]
   have ec:∀s t:W,w16+s+w7+t=w16+w7+s+t:=fun s t=>by rw [BitVec.add_assoc w16 s w7,BitVec.add_comm s w7,<-BitVec.add_assoc w16 w7 s]
   rw [ec]
   rfl
  ·obtain rfl:i=64:=by omega
   have hr0:rest=[]:=List.eq_nil_of_length_eq_zero (by omega)
   rw [hr0,<-hR,List.append_nil]
   clear hsl hR
   repeat' (first|apply zA rfl|(apply zd_ rfl<;>intro ht<;>try omega)|((first|apply zB rfl|(apply zG<;>intro ht))<;>try simp (disch:=first|omega|simp only [lz];try omega) only [go_sem,q10]))
   exact hQ _ ⟨by simp only [go_sem,q2],by simp only [go_sem,q3],by simp only [go_sem,q4],by simp only [go_sem,q5],by simp only [go_sem,q6],by simp only [go_sem,q7]⟩
end
end
section
theorem k_get(h:i<64):gl_sha_rounds[i]? =some (.int .u32 (kAt i).toNat):=by
 have:=zku h
 rwa [List.getElem?_drop,Nat.add_zero]at this
section
variable {k:Nat} {Q:AExit->Env->Store->Prop} {J:Env} {τ:Store} {u:V8} {p:List UInt8} {n:Nat}
theorem zzq{q:List UInt8}(K:Rk J τ.length p n)
  (hQ:∀J',Rk J' τ.length p n->Q .normal J' (mkS τ (mixS u q) (ws (z17 q 64)))):zW TC 252 k q7c53 Q J (mkS τ u (ws (z17 q 64))):=by
 obtain⟨R,hR⟩:∃R,R=z17 q 64:=⟨_,rfl⟩
 have hRl:R.length=64:=by rw [hR,z4v]
 have hst:∀n,rnds q u (n+1)=rnd (rnds q u n) (kAt n) (wat R n):=fun n=>by rw [rnds,hR]
 obtain⟨U,hU⟩:∃U,U=rnds q u 64:=⟨_,rfl⟩
 have hmix:mixS u q=U.add u:=by rw [mixS,hU]
 rw [hmix]at hQ
 rw [<-hR]at hQ ⊢
 obtain⟨k2,k3,k4,k5,k6,k7⟩:=K
 unfold mkS
 refine zs_ ?_
 (refine zW.regS ?_;(simp (disch:=first|omega|simp only [lz];try omega) only [go_sem,k4,V8.c8]))
 (refine zW.slots [2,3,4,5,6,7,13,14,15,16,17,18,19,20] ?_;intro J1 hs;simp (disch:=first|omega|simp only [lz];try omega) only [go_sem,k2,k3,k4,k5,k6,k7]at hs;obtain⟨s2,s3,s4,s5,s6,s7,s13,s14,s15,s16,s17,s18,s19,s20⟩:=hs)
 refine zs_ ?_
 refine zs_ ?_
 (refine zW.regS ?_;(simp (disch:=first|omega|simp only [lz];try omega) only [go_sem]))
 refine zb_ ?_
 refine zW.loop (fun m J O'=>∃i:Nat,m+i=64/\ Rk J τ.length p n/\ J 21=.int .i64 i/\ J 13=.int .u32 (rnds q u i).a.toNat/\ J 14=.int .u32 (rnds q u i).b.toNat/\ J 15=.int .u32 (rnds q u i).c.toNat/\ J 16=.int .u32 (rnds q u i).d.toNat ∧
  J 17=.int .u32 (rnds q u i).e.toNat/\ J 18=.int .u32 (rnds q u i).f.toNat/\ J 19=.int .u32 (rnds q u i).g.toNat/\ J 20=.int .u32 (rnds q u i).h.toNat/\ O'=mkS τ u (ws R)) 64 ?_ ?_
 ·exact⟨0,by omega,⟨by simp (disch:=first|omega|simp only [lz];try omega) only [go_sem,s2],by simp (disch:=first|omega|simp only [lz];try omega) only [go_sem,s3],by simp (disch:=first|omega|simp only [lz];try omega) only [go_sem,s4],by simp (disch:=first|omega|simp only [lz];try omega) only [go_sem,s5],by simp (disch:=first|omega|simp only [lz];try omega) only [go_sem,s6],by simp (disch:=first|omega|simp only [lz];try omega) only [go_sem,s7]⟩,by simp only [go_sem];rfl,by simp (disch:=first|omega|simp only [lz];try omega) only [go_sem,s13];rfl,by simp (disch:=first|omega|simp only [lz];try omega) only [go_sem,s14];rfl,by simp (disch:=first|omega|simp only [lz];try omega) only [go_sem,s15];rfl,by simp (disch:=first|omega|simp only [lz];try omega) only [go_sem,s16];rfl,by simp (disch:=first|omega|simp only [lz];try omega) only [go_sem,s17];rfl,by simp (disch:=first|omega|simp only [lz];try omega) only [go_sem,s18];rfl,by simp (disch:=first|omega|simp only [lz];try omega) only [go_sem,s19];rfl,by simp (disch:=first|omega|simp only [lz];try omega) only [go_sem,s20];rfl,rfl⟩
 ·clear s2 s3 s4 s5 s6 s7 s13 s14 s15 s16 s17 s18 s19 s20
  rintro m J O' ⟨i,hm,⟨q2,q3,q4,q5,q6,q7⟩,q21,q13,q14,q15,q16,q17,q18,q19,q20,rfl⟩
  by_cases hi:i<64
  ·have hk:=k_get hi
   have hw:=z8j (w:=R) (i:=i) (by omega)
   have hst:=hst i
   generalize rnds q u i=v at*
   obtain⟨a,b,c,d,e,f,g,h⟩:=v
   simp only at q13 q14 q15 q16 q17 q18 q19 q20
   generalize kAt i=kk at*
   generalize wat R i=ww at*
   generalize hpb:zy p=pb at*
   unfold mkS
   refine zs_ ?_
   refine zs_ ?_
   (refine zW.regS ?_;(simp (disch:=first|omega|simp only [lz];try omega) only [go_sem,q21]))
   refine zt_ rfl ?_
   refine zk_ ?_
   simp (disch:=first|omega|simp only [lz];try omega) only [go_sem]
   refine zs_ ?_
   refine zb_ ?_
   refine zs_ ?_
   (refine zW.regS ?_;(simp (disch:=first|omega|simp only [lz];try omega) only [go_sem,q17,q20]);repeat' (apply callW.za;(first|exact(zcz _ _ _ (by omega)));all_goals try (simp (disch:=first|omega|simp only [lz];try omega) only [go_sem,q3,q6,q17,q18,q19,q21,hk,hw])))
   (refine zW.slots [2,3,4,5,6,7,13,14,15,16,17,18,19,20,21,22] ?_;intro J2 hs;simp (disch:=first|omega|simp only [lz];try omega) only [go_sem,q2,q3,q4,q5,q6,q7,q13,q14,q15,q16,q17,q18,q19,q20,q21]at hs;obtain⟨s2,s3,s4,s5,s6,s7,s13,s14,s15,s16,s17,s18,s19,s20,s21,s22⟩:=hs)
   refine zs_ ?_
   (refine zW.regS ?_;(simp (disch:=first|omega|simp only [lz];try omega) only [go_sem,s13]);repeat' (apply callW.za;(first|exact(zcz _ _ _ (by omega)));all_goals try (simp (disch:=first|omega|simp only [lz];try omega) only [go_sem,s13,s14,s15])))
   (refine zW.slots [2,3,4,5,6,7,13,14,15,16,17,18,19,20,21,22,23] ?_;intro J3 hs;simp (disch:=first|omega|simp only [lz];try omega) only [go_sem,s2,s3,s4,s5,s6,s7,s13,s14,s15,s16,s17,s18,s19,s20,s21,s22]at hs;obtain⟨s2,s3,s4,s5,s6,s7,s13,s14,s15,s16,s17,s18,s19,s20,s21,s22,s23⟩:=hs)
   (refine zW.regS ?_;(simp (disch:=first|omega|simp only [lz];try omega) only [go_sem,s13,s14,s15,s16,s17,s18,s19,s22,s23]))
   (refine zW.slots [2,3,4,5,6,7,13,14,15,16,17,18,19,20,21] ?_;intro J4 hs;simp (disch:=first|omega|simp only [lz];try omega) only [go_sem,s2,s3,s4,s5,s6,s7,s21]at hs;obtain⟨s2,s3,s4,s5,s6,s7,s13,s14,s15,s16,s17,s18,s19,s20,s21⟩:=hs)
   (refine zW.regS ?_;(simp (disch:=first|omega|simp only [lz];try omega) only [go_sem,s21]))
   refine⟨64-(i+1),by omega,i+1,by omega,⟨s2,s3,s4,by rw [hpb];exact s5,s6,s7⟩,by simp,?_⟩
   rw [hst]
   simp only [rnd,bs1,chW,bs0,majW]
   exact⟨s13,s14,s15,s16,s17,s18,s19,s20⟩
  ·obtain rfl:i=64:=by omega
   rw [<-hU]at q13 q14 q15 q16 q17 q18 q19 q20
   clear hst hU hmix
   obtain⟨a,b,c,d,e,f,g,h⟩:=U
   obtain⟨a',b',c',d',e',f',g',h'⟩:=u
   simp only at q13 q14 q15 q16 q17 q18 q19 q20
   unfold mkS
   unfold mkS at hQ
   simp only [V8.add,V8.c8]at hQ
   simp only [V8.c8]
   generalize hpb:zy p=pb at*
   refine zs_ ?_
   refine zs_ ?_
   (refine zW.regS ?_;(simp (disch:=first|omega|simp only [lz];try omega) only [go_sem,q21]))
   refine zf_ rfl ?_
   refine ze_ ?_
   simp (disch:=first|omega|simp only [lz];try omega) only [go_sem]
   (refine zW.regS ?_;(simp (disch:=first|omega|simp only [lz];try omega) only [go_sem,q4,q13,q14,q15,q16,q17,q18,q19,q20]))
   rw [BitVec.add_comm a' a,BitVec.add_comm b' b,BitVec.add_comm c' c,BitVec.add_comm d' d,BitVec.add_comm e' e,BitVec.add_comm f' f,BitVec.add_comm g' g,BitVec.add_comm h' h]
   exact hQ _ ⟨by simp only [go_sem,q2],by simp only [go_sem,q3],by simp only [go_sem,q4],(by simp only [go_sem,q5];rw [hpb]),by simp only [go_sem,q6],by simp only [go_sem,q7]⟩
end
end
section
theorem sum_r1{H:Hist}:z10 C K q7r1 H J O=z10 C K (q7r1.drop 1) H (upd J 26 (.agg gl_sha_rounds)) O:=by kernel_rfl
theorem ztj{l:List W}(h:i<4*l.length):(l.flatMap fun x=>be 4 x.toNat)[i]? =(be 4 (wat l (i/4)).toNat)[i%4]?:=by
 induction l generalizing i with
 |nil=>simp at h
 |cons x l ih=>
  have hb:(be 4 x.toNat).length=4:=z44 _ _
  rw [List.flatMap_cons]
  by_cases hi:i<4
  ·rw [List.getElem?_append_left (by omega),Nat.div_eq_of_lt hi,Nat.mod_eq_of_lt hi];rfl
  ·simp only [List.length_cons]at h
   rw [List.getElem?_append_right (by omega),hb,ih (by omega),show i/4=(i-4)/4+1 by omega,show (i-4)%4=i%4 by omega]
   rfl
theorem zr5(x:Nat){j:Nat}(h:j<4):(be 4 x)[j]? =some (UInt8.ofNat (x/2^(24-8*j))):=by
 have e:be 4 x=[UInt8.ofNat (x/256^3),UInt8.ofNat (x/256^2),UInt8.ofNat (x/256^1),UInt8.ofNat (x/256^0)]:=by
  simp only [z8x]
  rfl
 rw [e]
 have hj:j=0 \/j=1 \/j=2 \/j=3:=by omega
 rcases hj with rfl|rfl|rfl|rfl<;>rfl
theorem zx1(v:V8){i:Nat}(h:i<32):(outV v)[i]? =some (UInt8.ofNat ((wat v.l (i/4)).toNat/2^(24-8*(i%4)))):=by
 unfold outV
 rw [ztj (by simp [V8.l];omega),zr5 _ (Nat.mod_lt _ (by decide))]
def z4s(v:V8)(i:Nat):List AV:=z11 ((outV v).take i)++List.replicate (32-i) (.int .u8 0)
theorem zw7(v:V8){i:Nat}(h:i<=32):(z4s v i).length=32:=by simp [z4s,zw,z58];omega
theorem zw8(v:V8){i:Nat}(h:i<32){b:Int}(hb:b=(((wat v.l (i/4)).toNat/2^(24-8*(i%4))%256:Nat):Int)):
  (z4s v i).take i++AV.int .u8 b::(z4s v i).drop (i+1)=z4s v (i+1):=by
 have h1:(z11 ((outV v).take i)).length=i:=by rw [zw,List.length_take,z58];omega
 have hg:=zx1 v h
 have hs:(outV v).take (i+1)=(outV v).take i++ [UInt8.ofNat ((wat v.l (i/4)).toNat/2^(24-8*(i%4)))]:=by
  rw [List.take_add_one,hg];rfl
 unfold z4s
 rw [List.take_append_of_le_length (by omega),List.take_of_length_le (by omega),List.drop_append,List.drop_of_length_le (by omega),h1,show i+1-i=1 by omega,List.nil_append,hs]
 rw [List.drop_replicate,show 32-i-1=32-(i+1)by omega]
 simp [z11,hb]
theorem zn8(O:Store)(s:List UInt8)(h:s.length<900000000):ACallsTo TC 94 [.str s] O (.agg (z11 (shaS s))) O:=by
 obtain⟨p,hp⟩:∃p,p=padS s:=⟨_,rfl⟩
 obtain⟨hp1,hp2⟩:=zlu s
 rw [<-hp]at hp1 hp2
 obtain⟨N,hN⟩:∃N,p.length=64*N:=⟨p.length/64,by omega⟩
 obtain⟨V,hV⟩:∃V,V=blocks N v0 p:=⟨_,rfl⟩
 have hS:shaS s=outV V:=by
  unfold shaS
  rw [<-hp,hV]
  have:p.length/64=N:=by omega
  rw [this]
 rw [hS]
 have hf:=fun O=>pad_to O s (by omega)
 rw [<-hp]at hf
 refine ACallsTo.of_body q7ok (by simp) fun hw _=> ?_
 refine zs_ ?_
 refine zr_ ?_
 simp (disch:=first|omega|simp only [lz];try omega) only [go_sem]
 refine zs_ ?_
 refine zr_ ?_
 rw [sum_r1]
 simp (disch:=first|omega|simp only [lz];try omega) only [go_sem,zk8]
 refine zs_ ?_
 refine zr_ ?_
 simp (disch:=first|omega|simp only [lz];try omega) only [go_sem]
 refine zs_ ?_
 repeat' (first|apply zA rfl|(apply zd_ rfl<;>intro ht<;>try omega)|((first|apply zB rfl|(apply callW.mk_pu;exact(fun _=>hf _))|(apply callW.za;exact(hf _))|(apply zG<;>intro ht))<;>try simp (disch:=first|omega|simp only [lz];try omega) only [go_sem]))
 refine zW.loop (fun m J O'=>∃(u:V8) (n:Nat) (cells:List AV),n+64*m=p.length/\ Rk J O.length p n/\ cells.length=64/\ blocks m u (p.drop n)=V/\ O'=mkS O u cells) N ?_ ?_
 ·exact⟨v0,0,List.replicate 64 (.int .u32 0),by omega,⟨by simp only [go_sem],by simp only [go_sem],by simp only [go_sem],by simp only [go_sem],by simp only [go_sem],by simp only [go_sem];rfl⟩,rfl,by rw [List.drop_zero];exact hV.symm,rfl⟩
 ·rintro m J O' ⟨u,n,cells,hn,⟨q2,q3,q4,q5,q6,q7⟩,hc,hb,rfl⟩
  have hpb:=zo p
  cases m with
  |succ m=>
   refine zs_ ?_
   refine zs_ ?_
   (refine zW.regS ?_;(simp (disch:=first|omega|simp only [lz];try omega) only [go_sem,q5,q7,hpb]))
   refine zt_ rfl ?_
   refine zk_ ?_
   simp (disch:=first|omega|simp only [lz];try omega) only [go_sem]
   refine zs_ ?_
   refine zb_ ?_
   refine zs_ ?_
   refine zzs (p:=p) (n:=n) (u:=u) (cells:=cells) ⟨by simp only [go_sem,q2],by simp only [go_sem,q3],by simp only [go_sem,q4],by simp only [go_sem,q5],by simp only [go_sem,q6],by simp only [go_sem,q7]⟩ (by omega) (by omega) hc ?_
   intro J1 rest hr K1
   refine zs_ ?_
   refine zzr K1 hr ?_
   intro J2 K2
   refine zzq K2 ?_
   intro J3 ⟨t2,t3,t4,t5,t6,t7⟩
   simp only [z4x,blkQ]
   (refine zW.regS ?_;(simp (disch:=first|omega|simp only [lz];try omega) only [go_sem,t7]))
   refine⟨m,by omega,mixS u ((p.drop n).take 64),n+64,ws (z17 ((p.drop n).take 64) 64),by omega,⟨by simp (disch:=first|omega|simp only [lz];try omega) only [go_sem,t2],by simp (disch:=first|omega|simp only [lz];try omega) only [go_sem,t3],by simp (disch:=first|omega|simp only [lz];try omega) only [go_sem,t4],by simp (disch:=first|omega|simp only [lz];try omega) only [go_sem,t5],by simp (disch:=first|omega|simp only [lz];try omega) only [go_sem,t6],by simp only [go_sem];rw [Int.natCast_add];rfl⟩,by rw [z5j,z4v],?_,rfl⟩
   rw [<-hb,blocks,List.drop_drop]
  |zero=>
   have hd:p.drop n=[]:=List.drop_of_length_le (by omega)
   rw [hd]at hb
   have hu:u=V:=hb
   subst hu
   clear hb hd hV
   unfold mkS
   repeat' (first|apply zA rfl|(apply zd_ rfl<;>intro ht<;>try omega)|((first|apply zB rfl|(apply zG<;>intro ht))<;>try simp (disch:=first|omega|simp only [lz];try omega) only [go_sem,q5,q7,hpb]))
   refine zW.loop (fun m J O'=>∃i:Nat,m+i=32/\ J 2=.ptr O.length 0 0/\ J 4=.ptr (O.length+2) 0 0/\ J 24=.ptr (O.length+4) 0 0/\ J 25=.int .i64 i/\ O'=O++ [some [z32],some [gl_sha_rounds],some [u.c8],some [cells],some [z4s u i]]) 32 ?_ ?_
   ·exact⟨0,by omega,by simp only [go_sem,q2],by simp only [go_sem,q4],by simp only [go_sem],by simp only [go_sem];rfl,rfl⟩
   ·clear q2 q3 q4 q5 q6 q7
    rintro m J O' ⟨i,hm,q2,q4,q24,q25,rfl⟩
    have hlen:=zw7 u (i:=i) (by omega)
    have hz:z32.length=32:=rfl
    by_cases hi:i<32
    ·have hst:=zw8 u hi (b:=((((wat u.l (i/4)).toNat/2^(24-8*(i%4))%256:Nat)):Int)) rfl
     have hw:=z8j (w:=u.l) (i:=i/4) (by simp [V8.l];omega)
     rw [ws_l]at hw
     generalize wat u.l (i/4)=x at*
     generalize z4s u i=cc at*
     have hd4:((i:Int)/4).toNat=i/4:=by omega
     have hsh:(24-8*((i:Int)%4)).toNat=24-8*(i%4):=by omega
     repeat' (first|refine zs_ ?_|refine zb_ ?_|refine zc_ ?_|refine zt_ rfl ?_|refine zf_ rfl ?_|(refine zd_ rfl (fun ht=> ?_) (fun ht=> ?_)<;>try (exfalso;omega))|((first|refine zW.regS ?_|refine zk_ ?_|refine ze_ ?_|refine zq_ ?_|(apply zG<;>intro ht))<;>try simp (disch:=first|omega|simp only [lz];try omega) only [go_sem,q2,q4,q24,q25,hlen,hw,hd4,hsh]))
     refine⟨32-(i+1),by omega,i+1,by omega,by simp,?_⟩
     rw [BitVec.toNat_ushiftRight,Nat.shiftRight_eq_div_pow,<-hst,Int.natCast_emod]
     rfl
    ·obtain rfl:i=32:=by omega
     have e32:z4s u 32=z11 (outV u):=by
      unfold z4s
      rw [List.take_of_length_le (by rw [z58];decide)]
      exact List.append_nil _
     have hd:List.drop 32 z32=[]:=rfl
     have hl:(z11 (outV u)).length=32:=by rw [zw,z58]
     rw [e32]at*
     repeat' (first|apply zA rfl|(apply zd_ rfl<;>intro ht<;>try omega)|((first|apply zB rfl|(apply zG<;>intro ht))<;>try simp (disch:=first|omega|simp only [lz];try omega) only [go_sem,q2,q24,q25,hl,hd,hz]))
     exact DownV.pure hw (z4t (z3d _))
end
section
set_option maxRecDepth 10000
def qec13:yX:=yq [yx 1 0,yI 2 (.alloc zZ0)] (.seq (yq [yL 4 false 1 1,yZ 5 4,yJ 6 .eql 5 .i64 0] (.cond (.t 6) (yq [yI 7 (.call (.v (.fn 85 [])) [(.v (.str []))]),yS 32 2 7] .ret) .skip)) (yq [yI 3 (.alloc [.nilfn])] (yq [yI 8 (.mkfn 89 [(.t 1),(.t 3)]),yS 1 3 8] (yq [yL 9 false 1 3,yL 10 false 1 1,yZ 11 10,yI 12 (.call (.t 9) [(.v (.int .i64 0)),(.t 11)]),yS 32 2 12] .ret))))
theorem qeok:cFn TC 42=some (13,[.c 2 true 32],qec13):=by kernel_rfl
def qfc3:yX:=yq [yx 2 0,yx 3 1,yI 4 (.alloc zZ0)] (yq [yR 5 true 32 2,yf 6 84 5,yI 7 (.bin .add .none (.v (.str [1])) (.t 6)),yR 8 true 32 3,yC 9 84 8,yB 10 .add 7 9,yC 11 85 10,yS 32 4 11] .ret)
theorem qfok:cFn TC 91=some (12,[.c 4 true 32],qfc3):=by kernel_rfl
def qgc19:yX:=yq [yK 2 .i64 0] (.seq (yq [yM 4 0,yJ 5 .lss 4 .i64 2] (.cond (.t 5) (yq [yK 2 .i64 0] .ret) .skip)) (yq [yK 3 .i64 1] (.seq (.block 0 (.loop (.seq (yq [yM 6 3,yM 7 0,yM 8 3,yB 9 .sub 7 8,yB 10 .lss 6 9] (.cond (.t 10) .skip (.exit 0))) (.block 1 (.reg [yM 11 3,yJ 12 .mul 11 .i64 2,yM 3 12]))))) (yq [yM 13 3,yM 2 13] .ret))))
theorem qgok:cFn TC 90=some (14,[.t 2],qgc19):=by kernel_rfl
def qhc10:yX:=yq [yM 8 1,yM 9 0,yB 10 .sub 8 9,yC 11 90 10,yM 7 11] (.seq (yq [yM 12 7,yJ 13 .eql 12 .i64 0] (.cond (.t 13) (yq [yL 14 false 1 2,yM 15 0,yN 16 32 14 15,yL 17 true 32 16,yS 32 6 17] .ret) .skip)) (yq [yR 18 false 1 3,yM 19 0,yM 20 0,yM 21 7,yB 22 .add 20 21,⟨some 23,none,.ef,.call (.t 18) [(.t 19),(.t 22)]⟩,yR 24 false 1 3,yM 25 0,yM 26 7,yB 27 .add 25 26,yM 28 1,yI 29 (.call (.t 24) [(.t 27),(.t 28)]),yD 30 91 23 29,yS 32 6 30] .ret))
def qhc11:yX:=yq [yI 6 (.alloc zZ0)] qhc10
theorem qhok:cFn TC 89=some (31,[.c 6 true 32],qhc11):=by kernel_rfl
def qic3:yX:=yq [yx 2 0,yx 3 1,yI 4 (.alloc zZ0)] (yq [yR 5 true 32 2,yf 6 96 5,yI 7 (.bin .add .none (.v (.str [1])) (.t 6)),yR 8 true 32 3,yC 9 96 8,yB 10 .add 7 9,yC 11 94 10,yS 32 4 11] .ret)
theorem qiok:cFn TC 172=some (12,[.c 4 true 32],qic3):=by kernel_rfl
def qjc17:yX:=yq [yx 1 0,ye 2] (yq [yI 3 (.mv (.v .nilsl))] (.seq (yq [yK 4 .i64 0] (.block 0 (.loop (.seq (yq [yM 5 4,yJ 6 .lss 5 .i64 32] (.cond (.t 6) .skip (.exit 0))) (.seq (.block 1 (.reg [yM 9 3,yM 10 4,yI 11 (.iaArr 32 1 (.t 1) (.t 10)),yL 12 false 1 11,yI 13 (.lit 1 [(.t 12)]),yI 14 (.appB (.t 9) (.t 13)),yM 3 14])) (.reg [yM 7 4,yJ 8 .add 7 .i64 1,yM 4 8])))))) (yq [yM 15 3,yI 16 (.conv .str (.t 15)),yM 2 16] .ret)))
theorem qjok:cFn TC 96=some (17,[.t 2],qjc17):=by kernel_rfl
def qkc3:yX:=yq [yx 1 0,ye 2] (yq [yI 3 (.slice (.arr 32 1) (.t 1) none none none),yI 4 (.conv .str (.t 3)),yM 2 4] .ret)
theorem qkok:cFn TC 84=some (5,[.t 2],qkc3):=by kernel_rfl
def qlc17:yX:=yq [yK 2 .i64 0] (yq [yK 3 .i64 0] (.seq (yq [yK 4 .i64 1] (.block 0 (.loop (.seq (yq [yM 5 4,yM 6 0,yB 7 .lss 5 6,yM 8 7,yV 9 8 true 4,yG 10 8 true (.bin .gtr .none (.t 9) (.v (.int .i64 0))),yQ 11 8 10] (.cond (.t 11) .skip (.exit 0))) (.seq (.block 1 (.reg [yM 14 4,yM 3 14])) (.reg [yM 12 4,yJ 13 .mul 12 .i64 2,yM 4 13])))))) (yq [yM 15 3,yM 2 15] .ret)))
theorem qlok:cFn TC 171=some (16,[.t 2],qlc17):=by kernel_rfl
end
variable {τ:Store}
section
theorem zgt(s:List UInt8):(shaS s).length=32:=z58 _
def z3s(a b:List UInt8):List UInt8:=shaS (1::(a++b))
theorem zbp(a b:List UInt8):(z3s a b).length=32:=zgt _
theorem zds:∀(l:List UInt8),chunk 1 l.length (z11 l)=zy l
 | []=>rfl
 |b::l=>by
  have:=zds l
  simp only [z11,zy]at this
  simp [z11,zy,chunk,B8]at this ⊢
  exact this
theorem z7l(O:Store)(h:List UInt8)(hl:h.length=32):ACallsTo TC 84 [.agg (z11 h)] O (.str h) O:=by
 refine ACallsTo.of_body qkok (by simp) fun hw _=> ?_
 have h1:=zw h
 have hc:=zds h
 rw [hl]at h1 hc
 repeat' (first|apply zA rfl|(apply zd_ rfl<;>intro ht<;>try omega)|((first|apply zB rfl|(apply zG<;>intro ht))<;>try simp (disch:=first|omega|simp only [lz];try omega) only [go_sem,h1,hc]))
 exact DownV.pure hw (z15 _ rfl)
def OwnN(sz:Nat)(τ O':Store)(v:AV)(es:List (List AV)):Prop:=
 ∃news,O'=τ++news/\ ((es=[]/\ v=.nilsl) \/ ∃j,es ≠ []/\ v=.sl (τ.length+j) 0 es.length none sz/\ news[j]? =some (some es))
theorem OwnN.len(h:OwnN sz τ O' v es):z1f v=some (.int .i64 es.length):=by
 obtain⟨news,rfl,⟨rfl,rfl⟩| ⟨j,_,rfl,h⟩⟩:=h<;>rfl
theorem OwnN.appB(h:OwnN sz τ O' v es):z4l O' v ys=aApp O' 1 v ys:=by
 obtain⟨news,rfl,⟨rfl,rfl⟩| ⟨j,_,rfl,h⟩⟩:=h<;>rfl
theorem OwnN.nil{news:Store}:OwnN sz τ (τ++news) .nilsl []:=⟨news,rfl,.inl ⟨rfl,rfl⟩⟩
theorem OwnN.ext(h:OwnN sz τ O' v es):∃news,O'=τ++news:=by
 obtain⟨news,h,_⟩:=h;exact⟨news,h⟩
theorem OwnN.more(h:OwnN sz τ O' v es)(y:Store):OwnN sz τ (O'++y) v es:=by
 obtain⟨news,rfl,h| ⟨j,h0,rfl,h⟩⟩:=h
 ·exact⟨news++y,by rw [List.append_assoc],.inl h⟩
 ·exact⟨news++y,by rw [List.append_assoc],.inr ⟨j,h0,rfl,by rw [List.getElem?_append_left (List.getElem?_eq_some_iff.1 h).1];exact h⟩⟩
theorem OwnN.app(h:OwnN sz τ O' v es)(h0:ys.length ≠ 0)(hl:es.length+ys.length<=1073741824):
  ∃v' O'',aApp O' sz v ys=some (v',O'')/\ OwnN sz τ O'' v' (es++ys):=by
 have hne:es++ys ≠ []:=fun e=>h0 (by rw [(List.append_eq_nil_iff.1 e).2];rfl)
 obtain⟨news,rfl,⟨rfl,rfl⟩| ⟨j,_,rfl,h⟩⟩:=h
 ·refine⟨_,_,by rw [zde,if_neg h0,if_pos (by simpa using hl)],news++ [some ys],by rw [List.append_assoc],.inr ⟨news.length,hne,by simp,by rw [List.getElem?_append_right (Nat.le_refl _)];simp⟩⟩
 ·have hj:=(List.getElem?_eq_some_iff.1 h).1
  have hg:(τ++news)[τ.length+j]? =some (some es):=by rw [List.getElem?_append_right (by omega),Nat.add_sub_cancel_left];exact h
  refine⟨.sl (τ++news).length 0 (es.length+ys.length) none sz,(τ++news).set (τ.length+j) none++ [some (es++ys)],?_,news.set j none++ [some (es++ys)],?_,.inr ⟨news.length,hne,by simp,by rw [List.getElem?_append_right (by simp)];simp⟩⟩
  ·rw [zdf,if_neg h0,hg]
   simp only
   rw [if_pos ⟨trivial,by omega,by omega⟩,if_neg (by omega),List.drop_zero,List.take_of_length_le (Nat.le_refl _)]
  ·rw [List.set_append_right _ _ (by omega),Nat.add_sub_cancel_left,List.append_assoc]
theorem OwnN.sl(h:OwnN sz τ O' v es)(h0:es ≠ []):∃r,v=.sl r 0 es.length none sz/\ O'[r]? =some (some es)/\ τ.length<=r:=by
 obtain⟨news,rfl,⟨rfl,rfl⟩| ⟨j,_,rfl,h⟩⟩:=h
 ·exact absurd rfl h0
 ·exact⟨_,rfl,by rw [List.getElem?_append_right (by omega),Nat.add_sub_cancel_left];exact h,by omega⟩
def SlV(sz:Nat)(es:List (List AV))(x:AV):Prop:=(x=.nilsl/\ es=[]) \/ ∃ex,x=.vsl sz es ex
theorem SlV.len(h:SlV sz es x):z1f x=some (.int .i64 es.length):=by
 rcases h with⟨rfl,rfl⟩| ⟨ex,rfl⟩<;>rfl
theorem SlV.vsl(h:SlV sz es x)(h0:0<es.length):∃ex,x=.vsl sz es ex:=by
 rcases h with⟨rfl,rfl⟩|h
 ·simp at h0
 ·exact h
def zz(sz:Nat)(es:List (List AV)):AV:=if es=[]then .nilsl else .vsl sz es false
theorem z1l(sz:Nat)(es:List (List AV)):SlV sz es (zz sz es):=by
 unfold zz
 split
 ·rename_i h;exact .inl ⟨rfl,h⟩
 ·exact .inr ⟨false,rfl⟩
def ownV(O:Store)(sz:Nat)(es:List (List AV)):AV:=if es=[]then .nilsl else .sl O.length 0 es.length none sz
def ownS(O:Store)(es:List (List AV)):Store:=if es=[]then O else O++ [some es]
theorem z9j(O:Store)(sz:Nat)(es:List (List AV)):OwnN sz O (ownS O es) (ownV O sz es) es:=by
 unfold ownV ownS
 by_cases h:es=[]
 ·rw [if_pos h,if_pos h];exact⟨[],by simp,.inl ⟨h,rfl⟩⟩
 ·rw [if_neg h,if_neg h];exact⟨[some es],rfl,.inr ⟨0,h,rfl,rfl⟩⟩
theorem OwnN.froze(hw:Wf O.length O)(h:OwnN sz O O' v es)(hr:RLss O.length es):DownV O.length v O' (zz sz es) O:=by
 unfold zz
 obtain⟨news,rfl,⟨rfl,rfl⟩| ⟨j,h0,rfl,h⟩⟩:=h
 ·rw [if_pos rfl];exact DownV.pure hw (z15 _ rfl)
 ·have e:(es.drop 0).take es.length=es:=by rw [List.drop_zero,List.take_of_length_le (Nat.le_refl _)]
  have:=DownV.froze (off:=0) (len:=es.length) (esz:=sz) (lim:=none) hw h (by omega) (by rw [e];exact hr)
  rw [e]at this
  rw [if_neg h0];exact this
theorem OwnN.own(hw:Wf O.length O)(h:OwnN sz O O' v es)(hr:RLss O.length es):DownV O.length v O' (ownV O sz es) (ownS O es):=by
 unfold ownV ownS
 obtain⟨news,rfl,⟨rfl,rfl⟩| ⟨j,h0,rfl,h⟩⟩:=h
 ·rw [if_pos rfl,if_pos rfl];exact DownV.pure hw (z15 _ rfl)
 ·rw [if_neg h0,if_neg h0];exact DownV.own (off:=0) (len:=es.length) (esz:=sz) (lim:=none) hw h hr
theorem zio{l:List UInt8}(h:i<l.length):(z11 l)[i]? =some (.int .u8 (l.getD i 0).toNat):=by
 simp [z11,List.getD_eq_getElem?_getD,List.getElem?_eq_getElem h]
theorem z73(O:Store)(h:List UInt8)(hl:h.length=32):ACallsTo TC 96 [.agg (z11 h)] O (.str h) O:=by
 refine ACallsTo.of_body qjok (by simp) fun hw _=> ?_
 have h1:=zw h
 rw [hl]at h1
 repeat' (first|apply zA rfl|(apply zd_ rfl<;>intro ht<;>try omega)|((first|apply zB rfl|(apply zG<;>intro ht))<;>try simp (disch:=first|omega|simp only [lz];try omega) only [go_sem]))
 refine zW.loop (fun m J O'=>∃i:Nat,m+i=32/\ J 1=.ptr O.length 0 0/\ J 4=.int .i64 i/\ OwnN 1 (O++ [some [z11 h]]) O' (J 3) (zy (h.take i))) 32 ?_ ?_
 ·refine⟨0,by omega,by simp only [go_sem],by simp only [go_sem];rfl,?_⟩
  simp (disch:=first|omega|simp only [lz];try omega) only [go_sem]
  have:=OwnN.nil (sz:=1) (τ:=O++ [some [z11 h]]) (news:=[])
  rwa [List.append_nil]at this
 ·rintro m J O' ⟨i,hm,q1,q4,hO⟩
  by_cases hi:i<32
  ·have hg:=zio (l:=h) (i:=i) (by omega)
   have hs:h.take (i+1)=h.take i++ [h.getD i 0]:=by
    rw [List.take_add_one,List.getD_eq_getElem?_getD,List.getElem?_eq_getElem (by omega)];rfl
   obtain⟨v',O2,he,hO2⟩:=hO.app (ys:=zy [h.getD i 0]) (by simp [zy]) (by simp [zo];omega)
   have ho:O'[O.length]? =some (some [z11 h]):=by
    obtain⟨news,rfl,_⟩:=hO
    rw [List.append_assoc,List.getElem?_append_right (Nat.le_refl _),Nat.sub_self];rfl
   have hb:zy [h.getD i 0]=[[.int .u8 (h.getD i 0).toNat]]:=rfl
   rw [hb]at he
   rw [<-hO.appB]at he
   generalize h.getD i 0=x at*
   generalize hv:J 3=v at*
   repeat' (first|apply zA rfl|(apply zd_ rfl<;>intro ht<;>try omega)|((first|apply zB rfl|(apply zG<;>intro ht))<;>try simp (disch:=first|omega|simp only [lz];try omega) only [go_sem,q1,q4,hv,ho,hg,he]))
   refine⟨32-(i+1),by omega,i+1,by omega,by simp,?_⟩
   rw [hs,<-zax]
   exact hO2
  ·obtain rfl:i=32:=by omega
   rw [List.take_of_length_le (by omega)]at hO
   obtain⟨r,q3,hg,_⟩:=hO.sl (by intro e;have:=zo h;rw [e]at this;simp at this;omega)
   rw [zo]at q3
   repeat' (first|apply zA rfl|(apply zd_ rfl<;>intro ht<;>try omega)|((first|apply zB rfl|(apply zG<;>intro ht))<;>try simp (disch:=first|omega|simp only [lz];try omega) only [go_sem,q4,q3,hg]))
   obtain⟨news,rfl,_⟩:=hO
   rw [List.append_assoc]
   exact DownV.pure hw (z15 _ rfl)
theorem zhe(O:Store)(a b:List UInt8)(ha:a.length=32)(hb:b.length=32):ACallsTo TC 91 [.agg (z11 a),.agg (z11 b)] O (.agg (z11 (z3s a b))) O:=by
 refine ACallsTo.of_body qfok (by simp) fun hw _=> ?_
 have h1:=zw a
 have h2:=zw b
 have h3:=zw (z3s a b)
 rw [ha]at h1
 rw [hb]at h2
 rw [zbp]at h3
 obtain⟨n,hn⟩:∃n,n=z3s a b:=⟨_,rfl⟩
 have hs:∀O,ACallsTo TC 85 [.str (1::(a++b))] O (.agg (z11 n)) O:=fun O=>by rw [hn];exact z89 O _ (by simp;omega)
 rw [<-hn]at h3 ⊢
 repeat' (first|refine zs_ ?_|refine zb_ ?_|refine zc_ ?_|refine zt_ rfl ?_|refine zf_ rfl ?_|(refine zd_ rfl (fun ht=> ?_) (fun ht=> ?_)<;>try (exfalso;omega))|((first|refine zW.regS ?_|refine zk_ ?_|refine ze_ ?_|refine zq_ ?_|(apply callW.mk_pu;(first|exact(fun _=>z7l _ _ ha)|exact(fun _=>z7l _ _ hb)|exact(fun _=>hs _)))|(apply callW.za;(first|exact(z7l _ _ ha)|exact(z7l _ _ hb)|exact(hs _)))|(apply zG<;>intro ht))<;>try simp (disch:=first|omega|simp only [lz];try omega) only [go_sem,h1,h2,h3]))
 exact DownV.pure hw (z4t (z3d _))
theorem zzo(O:Store)(a b:List UInt8)(ha:a.length=32)(hb:b.length=32):ACallsTo TC 172 [.agg (z11 a),.agg (z11 b)] O (.agg (z11 (z3s a b))) O:=by
 refine ACallsTo.of_body qiok (by simp) fun hw _=> ?_
 have h1:=zw a
 have h2:=zw b
 have h3:=zw (z3s a b)
 rw [ha]at h1
 rw [hb]at h2
 rw [zbp]at h3
 obtain⟨n,hn⟩:∃n,n=z3s a b:=⟨_,rfl⟩
 have hs:∀O,ACallsTo TC 94 [.str (1::(a++b))] O (.agg (z11 n)) O:=fun O=>by rw [hn];exact zn8 O _ (by simp;omega)
 rw [<-hn]at h3 ⊢
 repeat' (first|refine zs_ ?_|refine zb_ ?_|refine zc_ ?_|refine zt_ rfl ?_|refine zf_ rfl ?_|(refine zd_ rfl (fun ht=> ?_) (fun ht=> ?_)<;>try (exfalso;omega))|((first|refine zW.regS ?_|refine zk_ ?_|refine ze_ ?_|refine zq_ ?_|(apply callW.mk_pu;(first|exact(fun _=>z73 _ _ ha)|exact(fun _=>z73 _ _ hb)|exact(fun _=>hs _)))|(apply callW.za;(first|exact(z73 _ _ ha)|exact(z73 _ _ hb)|exact(hs _)))|(apply zG<;>intro ht))<;>try simp (disch:=first|omega|simp only [lz];try omega) only [go_sem,h1,h2,h3]))
 exact DownV.pure hw (z4t (z3d _))
end
section
def z1c(n:Nat):Nat:=if n<2 then 0 else 2^Nat.log2 (n-1)
theorem z9z(h:2<=n):z1c n<n/\ n<=2*z1c n/\ 0<z1c n:=by
 unfold z1c
 rw [if_neg (by omega)]
 have h1:=Nat.log2_self_le (n:=n-1) (by omega)
 have h2:=Nat.lt_log2_self (n:=n-1)
 rw [Nat.pow_succ]at h2
 have h3:0<2^Nat.log2 (n-1):=Nat.pow_pos (by decide)
 omega
theorem zh1{j:Nat}(h1:2^j<n)(h2:n<=2^(j+1)):z1c n=2^j:=by
 have h3:0<2^j:=Nat.pow_pos (by decide)
 unfold z1c
 rw [if_neg (by omega)]
 have h4:=Nat.log2_self_le (n:=n-1) (by omega)
 have h5:=Nat.lt_log2_self (n:=n-1)
 congr 1
 generalize Nat.log2 (n-1)=i at*
 have a1:2^j<2^(i+1):=by omega
 have a2:2^i<2^(j+1):=by omega
 have b1:=(Nat.pow_lt_pow_iff_right (by decide:1<2)).1 a1
 have b2:=(Nat.pow_lt_pow_iff_right (by decide:1<2)).1 a2
 omega
theorem zhg(O:Store)(n:Nat)(h:n<1000000000000):ACallsTo TC 90 [.int .i64 n] O (.int .i64 (z1c n)) O:=by
 refine ACallsTo.of_body qgok (by simp) fun hw _=> ?_
 by_cases h2:n<2
 ·have e:z1c n=0:=by unfold z1c;rw [if_pos h2]
  rw [e]
  repeat' (first|apply zA rfl|(apply zd_ rfl<;>intro ht<;>try omega)|((first|apply zB rfl|(apply zG<;>intro ht))<;>try simp (disch:=first|omega|simp only [lz];try omega) only [go_sem]))
  exact DownV.same hw (z15 _ rfl)
 ·repeat' (first|apply zA rfl|(apply zd_ rfl<;>intro ht<;>try omega)|((first|apply zB rfl|(apply zG<;>intro ht))<;>try simp (disch:=first|omega|simp only [lz];try omega) only [go_sem]))
  refine zW.loop (fun m J O'=>∃j:Nat,m=n-2^j/\ 2^j<n/\ J 0=.int .i64 n/\ J 3=.int .i64 ((2^j:Nat):Int)/\ O'=O) (n-1) ?_ ?_
  ·exact⟨0,rfl,by omega,by simp only [go_sem],by simp only [go_sem];rfl,rfl⟩
  ·rintro m J O' ⟨j,hm,hj,q0,q3,rfl⟩
   have hp:0<2^j:=Nat.pow_pos (by decide)
   have hs:2^(j+1)=2^j*2:=Nat.pow_succ ..
   generalize hk:2^j=k at*
   by_cases hc:(k:Int)<n-k
   ·repeat' (first|apply zA rfl|(apply zd_ rfl<;>intro ht<;>try omega)|((first|apply zB rfl|(apply zG<;>intro ht))<;>try simp (disch:=first|omega|simp only [lz];try omega) only [go_sem,q0,q3]))
    exact⟨n-k*2,by omega,j+1,by rw [hs],by omega,by rw [hs];rfl⟩
   ·have e:z1c n=k:=by rw [<-hk];exact zh1 (by omega) (by omega)
    rw [e]
    repeat' (first|apply zA rfl|(apply zd_ rfl<;>intro ht<;>try omega)|((first|apply zB rfl|(apply zG<;>intro ht))<;>try simp (disch:=first|omega|simp only [lz];try omega) only [go_sem,q0,q3]))
    exact DownV.same hw (z15 _ rfl)
theorem zzp(O:Store)(n:Nat)(h:n<1000000000000):ACallsTo TC 171 [.int .i64 n] O (.int .i64 (z1c n)) O:=by
 refine ACallsTo.of_body qlok (by simp) fun hw _=> ?_
 repeat' (first|apply zA rfl|(apply zd_ rfl<;>intro ht<;>try omega)|((first|apply zB rfl|(apply zG<;>intro ht))<;>try simp (disch:=first|omega|simp only [lz];try omega) only [go_sem]))
 refine zW.loop (fun m J O'=>∃j k:Nat,m=n-2^j/\ ((j=0/\ k=0) \/(k<n/\ 2^j=k*2/\ ∃i,k=2^i))/\ J 0=.int .i64 n/\ J 3=.int .i64 k/\ J 4=.int .i64 ((2^j:Nat):Int)/\ O'=O) (n-1) ?_ ?_
 ·exact⟨0,0,rfl,.inl ⟨rfl,rfl⟩,by simp only [go_sem],by simp only [go_sem];rfl,by simp only [go_sem];rfl,rfl⟩
 ·rintro m J O' ⟨j,k,hm,hk,q0,q3,q4,rfl⟩
  have hp:0<2^j:=Nat.pow_pos (by decide)
  have hs:2^(j+1)=2^j*2:=Nat.pow_succ ..
  by_cases hc:2^j<n
  ·generalize hmm:2^j=mm at*
   repeat' (first|apply zA rfl|(apply zd_ rfl<;>intro ht<;>try omega)|((first|apply zB rfl|(apply zG<;>intro ht))<;>try simp (disch:=first|omega|simp only [lz];try omega) only [go_sem,q0,q3,q4]))
   clear hk
   exact⟨n-mm*2,by omega,j+1,mm,by rw [hs],.inr ⟨hc,hs,j,hmm.symm⟩,rfl,by rw [hs];rfl⟩
  ·have e:z1c n=k:=by
    rcases hk with⟨rfl,rfl⟩| ⟨h1,h2,i,rfl⟩
    ·unfold z1c;rw [if_pos (by simp at hc;omega)]
    ·exact zh1 h1 (by rw [Nat.pow_succ];omega)
   rw [e]
   clear e hk hs
   generalize hmm:2^j=mm at*
   repeat' (first|apply zA rfl|(apply zd_ rfl<;>intro ht<;>try omega)|((first|apply zB rfl|(apply zG<;>intro ht))<;>try simp (disch:=first|omega|simp only [lz];try omega) only [go_sem,q0,q3,q4]))
   exact DownV.same hw (z15 _ rfl)
def z77:Nat->List (List UInt8)->List UInt8
 | 0,_=>[]
 | _+1,[]=>shaS []
 | _+1,[h]=>h
 |f+1,a::b::l=>z3s (z77 f ((a::b::l).take (z1c (l.length+2)))) (z77 f ((a::b::l).drop (z1c (l.length+2))))
theorem zcs:∀(f g:Nat) (l:List (List UInt8)),l.length<f->l.length<g->z77 f l=z77 g l
 | 0,_,_,h,_=>by omega
 | _+1,0,_,_,h=>by omega
 |f+1,g+1,[],_,_=>rfl
 |f+1,g+1,[_],_,_=>rfl
 |f+1,g+1,a::b::l,h,h'=>by
  obtain⟨s1,s2,s3⟩:=z9z (n:=l.length+2) (by omega)
  simp only [List.length_cons]at h h'
  simp only [z77]
  rw [zcs f g ((a::b::l).take (z1c (l.length+2))) (by rw [List.length_take];simp;omega) (by rw [List.length_take];simp;omega),
   zcs f g ((a::b::l).drop (z1c (l.length+2))) (by rw [List.length_drop];simp;omega) (by rw [List.length_drop];simp;omega)]
def z2j(l:List (List UInt8)):List UInt8:=z77 (l.length+1) l
theorem zzw:z2j []=shaS []:=rfl
theorem zgj{l:List (List UInt8)}(h:2<=l.length):z2j l=z3s (z2j (l.take (z1c l.length))) (z2j (l.drop (z1c l.length))):=by
 match l,h with
 |a::b::l,_=>
  obtain⟨s1,s2,s3⟩:=z9z (n:=l.length+2) (by omega)
  unfold z2j
  simp only [z77,List.length_cons]
  congr 1
  ·refine zcs _ _ _ ?_ (Nat.lt_succ_self _)
   rw [List.length_take]
   simp only [List.length_cons]
   omega
  ·refine zcs _ _ _ ?_ (Nat.lt_succ_self _)
   rw [List.length_drop]
   simp only [List.length_cons]
   omega
def H32(l:List (List UInt8)):Prop:=∀h ∈ l,h.length=32
theorem H32.take{l:List (List UInt8)}(h:H32 l)(n:Nat):H32 (l.take n):=fun x hx=>h x (List.mem_of_mem_take hx)
theorem H32.drop{l:List (List UInt8)}(h:H32 l)(n:Nat):H32 (l.drop n):=fun x hx=>h x (List.mem_of_mem_drop hx)
theorem z9u{l:List (List UInt8)}(h:H32 l):(z2j l).length=32:=by
 match l,h with
 | [],_=>exact zgt _
 | [x],h=>exact h x (by simp)
 |a::b::l,_=>rw [zgj (by simp)];exact zbp _ _
end
section
def z2s(l:List (List UInt8)):List (List AV):=l.map z11
theorem zkm(l:List (List UInt8)):(z2s l).length=l.length:=by simp [z2s]
theorem zgg{k:Nat}:∀(l:List (List UInt8)),RLss k (z2s l)
 | []=>by simp [z2s,RLss]
 |h::l=>by have:=zgg (k:=k) l;simp only [z2s]at this;simp [z2s,RLss,this,z3d]
theorem zq0(hs:List (List UInt8))(hH:H32 hs)(hl:hs.length<1000000000)(ex:Bool)(r1 r3:Nat):
  ∀(d:Nat) (O:Store) (a:Nat),0<d->a+d<=hs.length->O[r1]? =some (some [[.vsl 32 (z2s hs) ex]])->O[r3]? =some (some [[.fn 89 [.ptr r1 0 0,.ptr r3 0 0]]])->
   ACallsTo TC 89 [.int .i64 a,.int .i64 ((a+d:Nat):Int),.ptr r1 0 0,.ptr r3 0 0] O (.agg (z11 (z2j ((hs.drop a).take d)))) O:=by
 intro d
 induction d using Nat.strongRecOn with
 | _ d ih=>
  intro O a h0 had hg1 hg3
  have hr1:=(List.getElem?_eq_some_iff.1 hg1).1
  have hr3:=(List.getElem?_eq_some_iff.1 hg3).1
  obtain⟨L,hL⟩:∃L,L=(hs.drop a).take d:=⟨_,rfl⟩
  have hLl:L.length=d:=by rw [hL,List.length_take,List.length_drop];omega
  have hLH:H32 L:=by rw [hL];exact(hH.drop a).take d
  have hn:=z9u hLH
  have hc:=zw (z2j L)
  rw [hn]at hc
  rw [<-hL]
  have hsub:((a+d:Nat):Int)-a=d:=by omega
  by_cases h1:d=1
  ·have e0:z1c d=0:=by unfold z1c;rw [if_pos (by omega)]
   have hsp:=fun O=>zhg O d (by omega)
   rw [e0]at hsp
   obtain⟨x,hx⟩:∃x,hs[a]? =some x:=⟨_,List.getElem?_eq_getElem (by omega)⟩
   have hgr:(z2s hs)[a]? =some (z11 x):=by simp [z2s,hx]
   have eL:z2j L=x:=by
    have:L=[x]:=by
     rw [hL,h1]
     apply List.ext_getElem?
     intro i
     cases i with
     |zero=>simp [List.getElem?_drop,hx]
     |succ i=>simp [List.getElem?_take]
    rw [this];rfl
   rw [eL]at hc ⊢
   have hrl:=zkm hs
   clear eL
   generalize z2s hs=rows at*
   refine ACallsTo.of_body qhok (by simp) fun hw _=> ?_
   repeat' (first|apply zA rfl|(apply zd_ rfl<;>intro ht<;>try omega)|((first|apply zB rfl|(apply callW.mk_pu;exact(fun _=>hsp _))|(apply callW.za;exact(hsp _))|(apply zG<;>intro ht))<;>try simp (disch:=first|omega|simp only [lz];try omega) only [go_sem,hsub,hg1,hgr,hc]))
   exact DownV.pure hw (z4t (z3d _))
  ·obtain⟨s1,s2,s3⟩:=z9z (n:=d) (by omega)
   have hsp:=fun O=>zhg O d (by omega)
   have eL:=zgj (l:=L) (by omega)
   rw [hLl]at eL
   have t1:L.take (z1c d)=(hs.drop a).take (z1c d):=by rw [hL,List.take_take,Nat.min_eq_left (by omega)]
   have t2:L.drop (z1c d)=(hs.drop (a+z1c d)).take (d-z1c d):=by rw [hL,List.drop_take,List.drop_drop]
   generalize hk:z1c d=k at*
   have i1:=fun y=>ih k (by omega) (O++y) a (by omega) (by omega) (by rw [gapp hr1];exact hg1) (by rw [gapp hr3];exact hg3)
   have i2:=fun y=>ih (d-k) (by omega) (O++y) (a+k) (by omega) (by omega) (by rw [gapp hr1];exact hg1) (by rw [gapp hr3];exact hg3)
   rw [<-t1]at i1
   rw [<-t2]at i2
   rw [show a+k+(d-k)=a+d by omega]at i2
   have n1:=z9u (hLH.take k)
   have n2:=z9u (hLH.drop k)
   have e1:((a:Int)+k)=((a+k:Nat):Int):=by omega
   rw [eL]at hc ⊢
   generalize z2j (L.take k)=A at*
   generalize z2j (L.drop k)=B at*
   have k0:¬(k:Int)=0:=by omega
   refine ACallsTo.of_body qhok (by simp) fun hw _=> ?_
   repeat' (first|refine zs_ ?_|refine zb_ ?_|refine zc_ ?_|refine zt_ rfl ?_|refine zf_ rfl ?_|(refine zd_ rfl (fun ht=> ?_) (fun ht=> ?_)<;>try (exfalso;omega))|((first|refine zW.regS ?_|refine zk_ ?_|refine ze_ ?_|refine zq_ ?_|(apply callW.mk_pu;(first|exact(fun _=>hsp _)|exact(fun _=>i1 _)|exact(fun _=>i2 _)|exact(fun _=>zhe _ _ _ n1 n2)))|(apply callW.za;(first|exact(hsp _)|exact(i1 _)|exact(i2 _)|exact(zhe _ _ _ n1 n2)))|(apply zG<;>intro ht))<;>try simp (disch:=first|omega|simp only [lz];try omega) only [go_sem,hsub,hg3,hc,e1]))
   exact DownV.pure hw (z4t (z3d _))
theorem z130(O:Store)(hs:List (List UInt8))(x:AV)(hx:SlV 32 (z2s hs) x)(hH:H32 hs)(hl:hs.length<1000000000):ACallsTo TC 42 [x] O (.agg (z11 (z2j hs))) O:=by
 have hc:=zw (z2j hs)
 rw [z9u hH]at hc
 have hrl:=zkm hs
 by_cases h0:hs=[]
 ·subst h0
  have hx':=hx.len
  unfold z1f at hx'
  refine ACallsTo.of_body qeok (by simp) fun hw _=> ?_
  rw [zzw]at hc ⊢
  rcases hx with⟨rfl,h⟩| ⟨ex,rfl⟩
  ·repeat' (first|apply zA rfl|(apply zd_ rfl<;>intro ht<;>try omega)|((first|apply zB rfl|(apply callW.mk_pu;exact(fun _=>z89 _ [] (by simp)))|(apply callW.za;exact(z89 _ [] (by simp)))|(apply zG<;>intro ht))<;>try simp (disch:=first|omega|simp only [lz];try omega) only [go_sem,hc]))
   exact DownV.pure hw (z4t (z3d _))
  ·repeat' (first|apply zA rfl|(apply zd_ rfl<;>intro ht<;>try omega)|((first|apply zB rfl|(apply callW.mk_pu;exact(fun _=>z89 _ [] (by simp)))|(apply callW.za;exact(z89 _ [] (by simp)))|(apply zG<;>intro ht))<;>try simp (disch:=first|omega|simp only [lz];try omega) only [go_sem,hc,hrl]))
   exact DownV.pure hw (z4t (z3d _))
 ·have hpos:0<hs.length:=List.length_pos_iff.2 h0
  obtain⟨ex,rfl⟩:=hx.vsl (by rw [hrl];exact hpos)
  have h1:=zq0 hs hH hl ex O.length (O.length+2) hs.length
  refine ACallsTo.of_body qeok (by simp) fun hw _=> ?_
  have h1:=fun O'=>h1 O' 0 hpos (by omega)
  simp only [Nat.zero_add,List.drop_zero,List.take_length]at h1
  generalize z2j hs=R at*
  generalize z2s hs=rows at*
  repeat' (first|apply zA rfl|(apply zd_ rfl<;>intro ht<;>try omega)|((first|apply zB rfl|(apply callW.mk_pu;exact(fun _=>h1 _ (by simp) (by simp)))|(apply callW.za;exact(h1 _ (by simp) (by simp)))|(apply zG<;>intro ht))<;>try simp (disch:=first|omega|simp only [lz];try omega) only [go_sem,hc,hrl]))
  exact DownV.pure hw (z4t (z3d _))
end
section
def RdSl(O:Store)(sz:Nat)(es:List (List AV))(x:AV):Prop:=
 SlV sz es x \/ ∃r off lim o,x=.sl r off es.length lim sz/\ O[r]? =some (some o)/\ off+es.length<=o.length/\ (o.drop off).take es.length=es
theorem RdSl.of(h:SlV sz es x):RdSl O sz es x:=.inl h
theorem OwnN.rd(h:OwnN sz τ O' v es):RdSl O' sz es v:=by
 by_cases h0:es=[]
 ·obtain⟨news,rfl,⟨rfl,rfl⟩| ⟨j,h1,_⟩⟩:=h
  ·exact .inl (.inl ⟨rfl,rfl⟩)
  ·exact absurd h0 h1
 ·obtain⟨r,rfl,hg,_⟩:=h.sl h0
  exact .inr ⟨r,0,none,es,rfl,hg,by omega,by rw [List.drop_zero,List.take_of_length_le (Nat.le_refl _)]⟩
theorem RdSl.app{y:Store}(h:RdSl O sz es x):RdSl (O++y) sz es x:=by
 rcases h with h| ⟨r,off,lim,o,rfl,hg,h1,h2⟩
 ·exact .inl h
 ·exact .inr ⟨r,off,lim,o,rfl,by rw [gapp (List.getElem?_eq_some_iff.1 hg).1];exact hg,h1,h2⟩
theorem RdSl.len(h:RdSl O sz es x):z1f x=some (.int .i64 es.length):=by
 rcases h with h| ⟨r,off,lim,o,rfl,_⟩
 ·exact h.len
 ·rfl
theorem RdSl.lend(h:RdSl O sz es x)(hr:RLss 0 es):∃x0,SlV sz es x0/\ DR (z4d O) x0 x:=by
 rcases h with h| ⟨r,off,lim,o,rfl,hg,h1,h2⟩
 ·refine⟨x,h,DR.refl (k:=0) (by omega) x ?_⟩
  rcases h with⟨rfl,_⟩| ⟨ex,rfl⟩
  ·simp [RL]
  ·simpa only [RL]using hr
 ·refine⟨.vsl sz es false,.inr ⟨false,rfl⟩,?_⟩
  simp only [DR,z4d]
  exact .inr (.inl ⟨r,off,lim,o,rfl,trivial,hg,h1,by simp,by rw [h2];exact DRss.refl (k:=0) (by omega) es hr⟩)
theorem zvb{cap esz:Nat}{o:List (List AV)}{rest:List AV}(hg:O[r]? =some (some o))(hi:o[i]? =some cs)(ho:off<=cs.length)(hd:cs.drop off=es.flatten++rest)(he:∀e ∈ es,e.length=esz)(hn:es.length ≠ 0)(hr:RLss 0 es):
  DR (z4d O) (.vsl esz es false) (.asl r i off es.length cap esz):=by
 simp only [DR,z4d]
 exact .inr (.inr ⟨r,i,off,cap,o,cs,es,rest,rfl,trivial,hg,hi,ho,hd,he,hn,by simp,DRss.refl (k:=0) (by omega) es hr⟩)
theorem rl0{a:AV}(h:RL 0 a)(O:Store):DR (z4d O) a a:=DR.refl (k:=0) (by omega) a h
theorem drs1{D:DC}{a b:AV}(h:DR D a b):DRs D [a] [b]:=by simp only [DRs];exact⟨b,[],rfl,h,rfl⟩
theorem drsc{D:DC}{a b:AV}{l m:List AV}(h:DR D a b)(h2:DRs D l m):DRs D (a::l) (b::m):=by simp only [DRs];exact⟨b,m,rfl,h,h2⟩
theorem zgu(k:Nat):∀(l:List UInt8),shs k (z11 l)=z11 l
 | []=>rfl
 |b::l=>by have:=zgu k l;simp only [z11]at this;simp [z11,shs,sh,this]
theorem z10l(k:Nat)(l:List UInt8):sh k (.agg (z11 l))=.agg (z11 l):=by simp only [sh,zgu]
theorem z5b(k:Nat):shS k []=[]:=rfl
theorem z12z(O:Store)(hs:List (List UInt8))(x:AV)(hx:RdSl O 32 (z2s hs) x)(hH:H32 hs)(hl:hs.length<1000000000):ACallsTo TC 42 [x] O (.agg (z11 (z2j hs))) O:=by
 obtain⟨x0,h0,hd⟩:=hx.lend (zgg hs)
 have:=ACallsTo.lend glok (z130 [] hs x0 h0 hH hl) (drs1 hd)
 rwa [z10l,z5b,List.append_nil]at this
theorem zjs:∀(a b:List UInt8),z2c (z11 a) (z11 b)=decide (a=b)
 | [],[]=>rfl
 | [],_::_=>rfl
 | _::_,[]=>rfl
 |a::l,b::m=>by
  have ih:=zjs l m
  simp only [z11,List.map_cons,z2c,z6k]at ih ⊢
  rw [ih,Bool.eq_iff_iff]
  simp [<-UInt8.toNat_inj]
  intro _
  omega
theorem zkw:∀(l:List UInt8),(z11 l).map z1p=List.replicate l.length (some (LK.i .u8))
 | []=>rfl
 | _::l=>by have:=zkw l;simp only [z11]at this;simp [z11,z1p,this,List.replicate_succ]
theorem zv7{l:List UInt8}(h:l.length=32):(z11 l).map z1p=(List.replicate 32 (LK.i .u8)).map some:=by rw [zkw,h];rfl
end
section
def subF:Nat->List (List UInt8)->Nat->Bool->List (List UInt8)
 | 0,_,_,_=>[]
 |f+1,l,m,known=>
  if m=l.length then(if known then []else [z2j l])
  else if m<=z1c l.length then subF f (l.take (z1c l.length)) m known++ [z2j (l.drop (z1c l.length))]
  else subF f (l.drop (z1c l.length)) (m-z1c l.length) false++ [z2j (l.take (z1c l.length))]
def subS(l:List (List UInt8))(m:Nat)(known:Bool):List (List UInt8):=subF (l.length+1) l m known
theorem DownV.tup2{v2:AV}{O2:Store}{i:IntKind}{e:Int}(h:DownV k v O v2 O2):DownV k (.tup [v,.int i e]) O (.tup [v2,.int i e]) O2:=by
 obtain⟨D,a,b,c⟩:=h
 exact⟨D,a,b,by simp only [DR,DRs];exact⟨_,rfl,_,_,rfl,c,_,_,rfl,rfl,rfl⟩⟩
theorem zjy(h:O.length<=O'.length)(h2:∀q,q<O.length->O'[q]? =O[q]?):∃y,O'=O++y:=by
 refine⟨O'.drop O.length,?_⟩
 have e:O'.take O.length=O:=by
  refine List.ext_getElem? fun i=> ?_
  by_cases hi:i<O.length
  ·rw [List.getElem?_take_of_lt hi];exact h2 i hi
  ·rw [List.getElem?_eq_none (by simp;omega),List.getElem?_eq_none (by omega)]
 calc O'=O'.take O.length++O'.drop O.length:=(List.take_append_drop _ _).symm
  _=O++O'.drop O.length:=by rw [e]
def zby(hs:List (List UInt8))(m:Int):List (List UInt8):=if 0<m/\ m<hs.length then subS hs m.toNat true else []
def zbx(hs:List (List UInt8))(m:Int):Int:=if m<0 \/(hs.length:Int)<m then 2 else 0
def ProofP(O:Store)(hs:List (List UInt8))(m:Int)(v:AV)(O':Store):Prop:=∃v2,v=.tup [v2,.int .i64 (zbx hs m)]/\ OwnN 32 O O' v2 (z2s (zby hs m))
theorem ProofP.ex(O:Store)(hs:List (List UInt8))(m:Int):∃v O',ProofP O hs m v O':=⟨_,_,_,rfl,z9j O 32 _⟩
theorem ProofP.none{hs:List (List UInt8)}{m:Int}(h:zby hs m=[]):ProofP O hs m (.tup [.nilsl,.int .i64 (zbx hs m)]) O:=⟨.nilsl,rfl,by rw [h];exact⟨[],by simp,.inl ⟨rfl,rfl⟩⟩⟩
end
section
def OwnA(sz:Nat)(τ O':Store)(v:AV)(es:List (List AV)):Prop:=OwnN sz τ O' v es \/(v=.vsl sz es true/\ es ≠ []/\ ∃news,O'=τ++news)
theorem OwnA.app(h:OwnA sz τ O' v es)(h0:ys.length ≠ 0)(hl:es.length+ys.length<=1073741824):
  ∃v' O'',aApp O' sz v ys=some (v',O'')/\ OwnN sz τ O'' v' (es++ys):=by
 rcases h with h| ⟨rfl,h1,news,rfl⟩
 ·exact h.app h0 hl
 ·refine⟨.sl (τ++news).length 0 (es.length+ys.length) none sz,(τ++news)++ [some (es++ys)],by rw [z8v,if_neg h0,if_pos ⟨rfl,rfl,hl⟩],news++ [some (es++ys)],by rw [List.append_assoc],.inr ⟨news.length,by simp [h1],by simp,by rw [List.getElem?_append_right (Nat.le_refl _)];simp⟩⟩
theorem OwnA.rd(h:OwnA sz τ O' v es):RdSl O' sz es v:=by
 rcases h with h| ⟨rfl,_⟩
 ·exact h.rd
 ·exact .inl (.inr ⟨true,rfl⟩)
theorem OwnA.more(h:OwnA sz τ O' v es)(y:Store):OwnA sz τ (O'++y) v es:=by
 rcases h with h| ⟨rfl,h1,news,rfl⟩
 ·exact .inl (h.more y)
 ·exact .inr ⟨rfl,h1,news++y,by rw [List.append_assoc]⟩
theorem OwnA.ext(h:OwnA sz τ O' v es):∃news,O'=τ++news:=by
 rcases h with h| ⟨_,_,h⟩
 ·exact h.ext
 ·exact h
theorem OwnA.down(hw:Wf O.length O)(h:OwnA sz O O' v es)(hr:RLss O.length es):∃v2 O2,OwnA sz O O2 v2 es/\ DownV O.length v O' v2 O2:=by
 rcases h with h| ⟨rfl,h1,news,rfl⟩
 ·exact⟨_,_,.inl (z9j O sz es),h.own hw hr⟩
 ·exact⟨_,O,.inr ⟨rfl,h1,[],by simp⟩,DownV.pure hw (by simpa only [RL]using hr)⟩
def OwnQ(kn:Bool)(τ O':Store)(v:AV)(es:List (List AV)):Prop:=OwnA 32 τ O' v es/\ (kn=true->OwnN 32 τ O' v es)
theorem OwnQ.is(kn:Bool)(O:Store)(es:List (List AV)):OwnQ kn O (ownS O es) (ownV O 32 es) es:=⟨.inl (z9j O 32 es),fun _=>z9j O 32 es⟩
theorem OwnQ.down{kn:Bool}(hw:Wf O.length O)(h:OwnN 32 O O' v es)(hr:RLss O.length es):∃v2 O2,OwnQ kn O O2 v2 es/\ DownV O.length v O' v2 O2:=
 ⟨_,_,OwnQ.is kn O es,h.own hw hr⟩
end
section
def RefP(O:Store)(hs:List (List UInt8))(m:Int)(v:AV)(O':Store):Prop:=∃v2,v=.tup [v2,.int .i64 (zbx hs m)]/\ OwnA 32 O O' v2 (z2s (zby hs m))
def st(i last:Nat):Nat × Nat:=if h:i%2=1 then st (i/2) (last/2)else(i,last)
termination_by i
decreasing_by omega
def lp(i last:Nat):List Bool:=
 if h:last=0 then []else if i%2=1 then true::lp (i/2) (last/2)else if i=last then lp (i/2) (last/2)else false::lp (i/2) (last/2)
termination_by last
decreasing_by all_goals omega
def run:List Bool->List (List UInt8)->List UInt8->List UInt8->Option (List UInt8 × List UInt8)
 | [],[],a,b=>some (a,b)
 |true::p,h::ps,a,b=>run p ps (z3s h a) (z3s h b)
 |false::p,h::ps,a,b=>run p ps a (z3s b h)
 | _,_,_,_=>none
def chkG(i last:Nat)(o:List UInt8)(ps:List (List UInt8)):Option (List UInt8 × List UInt8):=
 if 0<i then match ps with
  | []=>none
  |h::ps=>run (lp i last) ps h h
 else run (lp i last) ps o o
def chkS(i last:Nat)(o:List UInt8)(ps:List (List UInt8)):Option (List UInt8 × List UInt8):=chkG (st i last).1 (st i last).2 o ps
def fitI(r:Option (List UInt8 × List UInt8))(o nw:List UInt8):Int:=
 match r with
 |some (a,b)=>if a=o/\ b=nw then 0 else 80
 |none=>80
def chkI(m n:Int)(o nw:List UInt8)(ps:List (List UInt8)):Int:=
 if n<0 \/4096<n \/m<0 \/n<m then 2
 else if m=0 then(if ps=[]/\ o=z2j []/\ (0<n \/nw=o)then 0 else 80)
 else if m=n then(if ps=[]/\ o=nw then 0 else 80)
 else fitI (chkS (m.toNat-1) (n.toNat-1) o ps) o nw
end
section
structure ChkM(ia ib:Nat)(O O':Store)(o nw:List UInt8)(pv:AV)(ps:List (List UInt8))(a b:List UInt8):Prop where
 hab:(ia=3/\ ib=4) \/(ia=4/\ ib=3)
 len:O.length+5<=O'.length
 keep:∀q,q<O.length->O'[q]? =O[q]?
 g0:O'[O.length]? =some (some [z11 o])
 g1:O'[O.length+1]? =some (some [z11 nw])
 g2:O'[O.length+2]? =some (some [[pv]])
 g3:O'[O.length+ia]? =some (some [z11 a])
 g4:O'[O.length+ib]? =some (some [z11 b])
 hp:SlV 32 (z2s ps) pv
 ha:a.length=32
 hb:b.length=32
theorem ChkM.app{ia ib:Nat}{y:Store}{o nw:List UInt8}{pv:AV}{ps:List (List UInt8)}{a b:List UInt8}(h:ChkM ia ib O O' o nw pv ps a b):ChkM ia ib O (O'++y) o nw pv ps a b:=by
 have hl:=h.len
 have hab:=h.hab
 refine⟨hab,by rw [List.length_append];omega,fun q hq=> ?_,?_,?_,?_,?_,?_,h.hp,h.ha,h.hb⟩
 ·rw [gapp (by omega)];exact h.keep q hq
 ·rw [gapp (by omega)];exact h.g0
 ·rw [gapp (by omega)];exact h.g1
 ·rw [gapp (by omega)];exact h.g2
 ·rw [gapp (by omega)];exact h.g3
 ·rw [gapp (by omega)];exact h.g4
theorem ChkM.fin{ia ib:Nat}{o nw:List UInt8}{pv:AV}{ps:List (List UInt8)}{a b:List UInt8}(h:ChkM ia ib O O' o nw pv ps a b)(hw:Wf O.length O){i:Int}:DownV O.length (.int .i64 i) O' (.int .i64 i) O:=by
 have hl:=h.len
 obtain⟨y,rfl⟩:=zjy (by omega) h.keep
 exact DownV.pure hw (z15 _ rfl)
theorem SlV.cells(h:SlV sz es x):cellsOf x=some [x]:=by
 rcases h with⟨rfl,rfl⟩| ⟨ex,rfl⟩<;>rfl
end
section
theorem split2:z1c 2=1:=by decide
theorem split4:z1c 4=2:=by decide
theorem ProofP.is{hs:List (List UInt8)}{m:Int}(h:ProofP O hs m v O'):∃v2,v=.tup [v2,.int .i64 (zbx hs m)]/\ OwnN 32 O O' v2 (z2s (zby hs m)):=h
end
section
def z6m:Ty:=.row (List.replicate 32 (.int .u8))
theorem zis:∀(n:Nat) (cs:List AV),z3m (List.replicate n (.int .u8)) cs->∃h:List UInt8,cs=z11 h/\ h.length=n
 | 0,cs,h=>⟨[],by simpa only [List.replicate_zero,z3m,z11,List.map_nil]using h,rfl⟩
 |n+1,cs,h=>by
  simp only [List.replicate_succ,z3m,ShC]at h
  obtain⟨_,b,rfl,⟨x,rfl,h1,h2⟩,h3⟩:=h
  obtain⟨l,rfl,hl⟩:=zis n b h3
  simp only [IntKind.min,IntKind.max,IntKind.signed,IntKind.bits]at h1 h2
  simp at h1 h2
  refine⟨UInt8.ofNat x.toNat::l,?_,by simp [hl]⟩
  have:((UInt8.ofNat x.toNat).toNat:Int)=x:=by rw [UInt8.toNat_ofNat'];omega
  simp only [z11,List.map_cons,List.singleton_append,this]
theorem zke(h:ShC z6m cs):∃l:List UInt8,cs=z11 l/\ l.length=32:=zis 32 cs (by simpa only [z6m,ShC]using h)
theorem zkf:∀(es:List (List AV)),(∀x ∈ es,ShC z6m x)->∃hs,es=z2s hs/\ H32 hs
 | [],_=>⟨[],rfl,fun _ h=>by simp at h⟩
 |e::es,h=>by
  obtain⟨l,rfl,hl⟩:=zke (h e (by simp))
  obtain⟨hs,rfl,hH⟩:=zkf es (fun x hx=>h x (by simp [hx]))
  refine⟨l::hs,rfl,fun x hx=> ?_⟩
  rcases List.mem_cons.1 hx with rfl|hx
  ·exact hl
  ·exact hH x hx
theorem RefP.ex(O:Store)(hs:List (List UInt8))(m:Int):∃v O',RefP O hs m v O':=⟨_,_,_,rfl,.inl (z9j O 32 _)⟩
end
section
abbrev Hash:={l:List UInt8//l.length=32}
def hc(h:Hash):List AV:=z11 h.1
def hr(l:List Hash):List (List AV):=l.map hc
def hb(l:List Hash):List (List UInt8):=l.map (·.1)
theorem hb_H(l:List Hash):H32 (hb l):=fun x hx=>by
 simp only [hb,List.mem_map]at hx
 obtain⟨h,_,rfl⟩:=hx
 exact h.2
theorem zec(l:List Hash):(hb l).length=l.length:=by simp [hb]
theorem zu2(l:List Hash)(n:Nat):(hb l).take n=hb (l.take n):=by simp [hb,List.map_take]
theorem zu1(l:List Hash)(n:Nat):(hb l).drop n=hb (l.drop n):=by simp [hb,List.map_drop]
theorem zeg(l:List Hash):z2s (hb l)=hr l:=by simp [z2s,hb,hr,hc]
theorem hb_of:∀{l:List (List UInt8)},H32 l->∃m:List Hash,l=hb m
 | [],_=>⟨[],rfl⟩
 |x::l,h=>by
  obtain⟨m,hm⟩:=hb_of (l:=l) fun y hy=>h y (by simp [hy])
  exact⟨⟨x,h x (by simp)⟩::m,by simp [hb,hm]⟩
@[go_sem] theorem z8 (h:Hash):(hc h).length=32:=by rw [hc,zw,h.2]
@[go_sem] theorem zu3 (h:Hash):(hc h).drop 32=[]:=List.drop_of_length_le (by rw [z8];decide)
@[go_sem] theorem zu4 (h:Hash):(hc h).take 32=hc h:=List.take_of_length_le (by rw [z8];decide)
@[go_sem] theorem z7q (h:Hash) (l:List AV):(hc h++l).take 32=hc h:=by
 have:=z8 h
 rw [List.take_append_of_le_length (by omega),zu4]
@[go_sem] theorem z7p (h:Hash) (l:List AV):(hc h++l).drop 32=l:=by
 have:=z8 h
 rw [List.drop_append_of_le_length (by omega),zu3,List.nil_append]
@[go_sem] theorem hc_eq (a b:Hash):z2c (hc a) (hc b)=decide (a=b):=by
 rw [hc,hc,zjs,Bool.eq_iff_iff]
 simp [Subtype.ext_iff]
@[go_sem] theorem hc_kinds (h:Hash):(hc h).map z1p=(List.replicate 32 (LK.i .u8)).map some:=zv7 h.2
@[go_sem] theorem zn (l:List Hash):(hr l).length=l.length:=by simp [hr]
@[go_sem] theorem hr_take (l:List Hash) (n:Nat):(hr l).take n=hr (l.take n):=by simp [hr,List.map_take]
@[go_sem] theorem hr_drop (l:List Hash) (n:Nat):(hr l).drop n=hr (l.drop n):=by simp [hr,List.map_drop]
@[go_sem] theorem hr_set (l:List Hash) (i:Nat) (h:Hash):(hr l).set i (hc h)=hr (l.set i h):=by simp [hr,List.map_set]
theorem zkk(a b:List Hash):hr (a++b)=hr a++hr b:=by simp [hr]
theorem zkl:hr []=[]:=rfl
theorem z9g(h:Hash)(l:List Hash):hr (h::l)=hc h::hr l:=rfl
theorem hr_nil_iff{l:List Hash}:hr l=[] ↔ l=[]:=by simp [hr]
def zeroH:Hash:=⟨List.replicate 32 0,by simp⟩
def hd(l:List Hash)(i:Nat):Hash:=l.getD i zeroH
@[go_sem] theorem z6o {l:List Hash} {i:Nat} (h:i<l.length):(hr l)[i]? =some (hc (hd l i)):=by
 simp [hr,hd,List.getElem?_map,List.getElem?_eq_getElem h]
theorem z9d{l:List Hash}(h:i<l.length):hd l i=l[i]:=by simp [hd,h]
theorem z65(h:Hash):RLs k (hc h):=z3d _
theorem z3e(l:List Hash):RLss k (hr l):=by rw [<-zeg];exact zgg _
theorem zgv(k:Nat)(h:Hash):shs k (hc h)=hc h:=zgu k _
def z1b(a b:Hash):Hash:=⟨z3s a.1 b.1,zbp _ _⟩
def z1o(l:List Hash):Hash:=⟨z2j (hb l),z9u (hb_H l)⟩
def shaH(s:List UInt8):Hash:=⟨shaS s,zgt s⟩
theorem znj(h:Hash):z1o [h]=h:=rfl
theorem zgi{l:List Hash}(h:2<=l.length):z1o l=z1b (z1o (l.take (z1c l.length))) (z1o (l.drop (z1c l.length))):=by
 apply Subtype.ext
 show z2j (hb l)=z3s (z2j (hb _)) (z2j (hb _))
 rw [<-zu2,<-zu1]
 have:=zgj (l:=hb l) (by rw [zec];exact h)
 rwa [zec]at this
theorem zow(O:Store)(a b:Hash):ACallsTo TC 91 [.agg (hc a),.agg (hc b)] O (.agg (hc (z1b a b))) O:=zhe O a.1 b.1 a.2 b.2
theorem zn7(O:Store)(a b:Hash):ACallsTo TC 172 [.agg (hc a),.agg (hc b)] O (.agg (hc (z1b a b))) O:=zzo O a.1 b.1 a.2 b.2
theorem zhf(O:Store)(l:List Hash)(x:AV)(hx:RdSl O 32 (hr l) x)(hl:l.length<1000000000):ACallsTo TC 42 [x] O (.agg (hc (z1o l))) O:=
 z12z O (hb l) x (by rw [zeg];exact hx) (hb_H l) (by rw [zec];exact hl)
theorem zu0(h:ShC z6m cs):∃l:Hash,cs=hc l:=by
 obtain⟨l,rfl,hl⟩:=zke h
 exact⟨⟨l,hl⟩,rfl⟩
end
section
def pushR:Nat->List Hash->Hash->List Hash
 | _,[],h=>[h]
 |m,x::rs,h=>if m%2=1 then pushR (m/2) rs (z1b x h)else h::x::rs
def extR:Nat->List Hash->List Hash->List Hash
 | _,rs,[]=>rs
 |n,rs,x::l=>extR (n+1) (pushR n rs x) l
def ofR(l:List Hash):List Hash:=extR 0 [] l
theorem zcy(j:Nat):z1c (2^(j+1))=2^j:=by
 have:0<2^j:=Nat.pow_pos (by decide)
 exact zh1 (by rw [Nat.pow_succ];omega) (Nat.le_refl _)
def rootR:List Hash->Hash
 | []=>shaH []
 |x::rs=>rs.foldl (fun o h=>z1b h o) x
end
section
set_option maxRecDepth 10000
def qmc9:yX:=yq [yI 2 (.mv (.v .nilsl))] (.seq (yq [yM 3 0,yI 4 (.bin .eql .slc (.t 3) (.v .nilsl))] (.cond (.t 4) (yq [yI 2 (.mv (.v .nilsl))] .ret) .skip)) (yq [yI 5 (.lit 32 []),yM 6 0,yI 7 (.app 32 (.t 5) (.t 6)),yM 2 7] .ret))
theorem qmok:cFn TC 105=some (8,[.t 2],qmc9):=by kernel_rfl
end
section
theorem ACallsP.toDown{args:List AV}{O2:Store}{v2:AV}{P:AV->Store->Prop}(h:ACallsP C f args O P)
  (hd:Wf O.length O->∀v O',P v O'->DownV O.length v O' v2 O2):ACallsTo C f args O v2 O2:=by
 intro Z w cargs hR ha
 rcases h Z w cargs hR ha with⟨h1,h2⟩| ⟨cv,v,Z',O',w',h1,hp,h2,h3,h4⟩
 ·refine .inl ⟨h1,h2.mono ?_⟩
  rintro e w' ⟨cv,v,Z',O',rfl,hp,k1,k2,k3⟩
  obtain⟨Z2,q1,q2,q3⟩:=(hd hR.wf v O' hp).sound k2 k3 k1 hR.gl (by rw [hR.len];exact Nat.le_refl _)
  exact⟨cv,Z2,rfl,q1,q2,q3⟩
 ·obtain⟨Z2,q1,q2,q3⟩:=(hd hR.wf v O' hp).sound h3 h4 h2 hR.gl (by rw [hR.len];exact Nat.le_refl _)
  exact .inr ⟨cv,Z2,w',h1,q1,q2,q3⟩
theorem slen{x:Option AObj}(h:O[r]? =some x):r<O.length:=(List.getElem?_eq_some_iff.1 h).1
def FrzD(τ news:Store):DC:=z2x τ news [] id (fun _=>true)
theorem DownV.all{news:Store}{v2:AV}(hw:Wf τ.length τ)(h:DR (FrzD τ news) v2 v):DownV τ.length v (τ++news) v2 τ:=
 ⟨FrzD τ news,rfl,by show DownS τ.length (z2x τ news [] id (fun _=>true)) τ;simpa using zbj (kept:=[]) (idx:=id) (fzl:=fun _=>true) (news:=news) hw (by simp) (by simp) (by simp) (by simp),h⟩
theorem FrzD.same{news:Store}(h:RL τ.length v):DR (FrzD τ news) v v:=DR.refl (z6q _ _ _) v h
theorem FrzD.sl{news:Store}{lim:Option Nat}{esz:Nat}{o es:AObj}(hk:τ.length<=r)(ho:(τ++news)[r]? =some (some o))(hl:off+es.length<=o.length)(he:(o.drop off).take es.length=es)(hr:RLss τ.length es):
  DR (FrzD τ news) (.vsl esz es false) (.sl r off es.length lim esz):=by
 simp only [DR,FrzD,z2x]
 right
 left
 exact⟨r,off,lim,o,rfl,by simpa using hk,ho,hl,by simp,by rw [he];exact DRss.refl (z6q [] id (fun _=>true)) _ hr⟩
theorem drA{D:DC}{a b:List AV}(h:DRs D a b):DR D (.agg a) (.agg b):=by simp only [DR];exact⟨b,rfl,h⟩
theorem drT{D:DC}{a b:List AV}(h:DRs D a b):DR D (.tup a) (.tup b):=by simp only [DR];exact⟨b,rfl,h⟩
theorem OwnN.frz{news:Store}(h:OwnN sz τ (τ++news) v es)(hr:RLss τ.length es):DR (FrzD τ news) (zz sz es) v:=by
 by_cases h0:es=[]
 ·obtain⟨n2,_,⟨rfl,rfl⟩| ⟨j,h1,_⟩⟩:=h
  ·simp [zz,DR]
  ·exact absurd h0 h1
 ·obtain⟨r,rfl,hg,hk⟩:=h.sl h0
  unfold zz
  rw [if_neg h0]
  exact FrzD.sl hk hg (by omega) (by simp) hr
def lkp:List (Nat × AV)->Env
 | [],_=> .any
 |(a,v)::l,t=>bif t==a then v else lkp l t
@[go_sem] theorem lkp_cons {a t:Nat} {v:AV} {l:List (Nat × AV)}:lkp ((a,v)::l) t=bif t==a then v else lkp l t:=rfl
def OwnE(sz:Nat)(τ O':Store)(v:AV)(es:List (List AV)):Prop:=OwnN sz τ O' v es \/(es=[]/\ v=.vsl sz [] true/\ ∃news,O'=τ++news)
theorem OwnE.ext(h:OwnE sz τ O' v es):∃news,O'=τ++news:=by
 rcases h with h| ⟨_,_,h⟩
 ·exact h.ext
 ·exact h
theorem OwnE.rd(h:OwnE sz τ O' v es):RdSl O' sz es v:=by
 rcases h with h| ⟨rfl,rfl,_⟩
 ·exact h.rd
 ·exact .inl (.inr ⟨true,rfl⟩)
theorem OwnE.len(h:OwnE sz τ O' v es):z1f v=some (.int .i64 es.length):=h.rd.len
theorem OwnE.app(h:OwnE sz τ O' v es)(h0:ys.length ≠ 0)(hl:es.length+ys.length<=1073741824):
  ∃v' O'',aApp O' sz v ys=some (v',O'')/\ OwnN sz τ O'' v' (es++ys):=by
 rcases h with h| ⟨rfl,rfl,news,rfl⟩
 ·exact h.app h0 hl
 ·refine⟨.sl (τ++news).length 0 ys.length none sz,(τ++news)++ [some ys],by rw [z8v,if_neg h0,if_pos ⟨rfl,rfl,hl⟩];simp,news++ [some ys],by rw [List.append_assoc],.inr ⟨news.length,?_,by simp,by rw [List.getElem?_append_right (Nat.le_refl _)];simp⟩⟩
  intro e;exact h0 (by rw [(List.append_eq_nil_iff.1 e).2];rfl)
theorem RdSl.elems(h:RdSl O sz es x):z26 O x=some es:=by
 rcases h with(⟨rfl,rfl⟩| ⟨ex,rfl⟩)| ⟨r,off,lim,o,rfl,hg,h1,h2⟩
 ·rfl
 ·rfl
 ·rw [z10v,hg];simp only;rw [if_pos h1,h2]
theorem zph(O:Store)(l:List Hash)(x:AV)(hx:RdSl O 32 (hr l) x)(hl:l.length<1000000):
  ACallsP TC 105 [x] O (fun v O'=>OwnE 32 O O' v (hr l)/\ (x=.nilsl ↔ v=.nilsl)):=by
 rcases hx with(⟨rfl,hnil⟩| ⟨ex,rfl⟩)| ⟨r,off,lim,o,rfl,hg,h1,h2⟩
 ·refine ACallsTo.toP (v:=.nilsl) (O':=O) ?_ ⟨.inl ⟨[],by simp,.inl ⟨hnil,rfl⟩⟩,Iff.rfl⟩
  refine ACallsTo.of_body qmok (by simp) fun hw _=> ?_
  repeat' (first|apply zA rfl|(apply zd_ rfl<;>intro ht<;>try omega)|((first|apply zB rfl|(apply zG<;>intro ht))<;>try simp (disch:=first|omega|simp only [lz];try omega) only [go_sem]))
  exact DownV.same hw (z15 _ rfl)
 ·by_cases h0:l=[]
  ·subst h0
   refine ACallsTo.toP (v:=.vsl 32 [] true) (O':=O) ?_ ⟨.inr ⟨rfl,rfl,[],by simp⟩,by simp⟩
   refine ACallsTo.of_body qmok (by simp) fun hw _=> ?_
   rw [zkl]
   repeat' (first|apply zA rfl|(apply zd_ rfl<;>intro ht<;>try omega)|((first|apply zB rfl|(apply zG<;>intro ht))<;>try simp (disch:=first|omega|simp only [lz];try omega) only [go_sem]))
   exact DownV.same hw (z15 _ rfl)
  ·have hne:¬l.length=0:=fun e=>h0 (List.eq_nil_of_length_eq_zero e)
   refine ACallsP.of_keep qmok (by simp) ?_
   repeat' (first|apply zA rfl|(apply zd_ rfl<;>intro ht<;>try omega)|((first|apply zB rfl|(apply zG<;>intro ht))<;>try simp (disch:=first|omega|simp only [lz];try omega) only [go_sem,hne,z8v]))
   refine .inl ⟨[some (hr l)],by simp,.inr ⟨0,by rw [Ne,hr_nil_iff];exact h0,?_,by simp⟩⟩
   simp [zn]
 ·have hrl:=zn l
  by_cases h0:l=[]
  ·subst h0
   refine ACallsTo.toP (v:=.vsl 32 [] true) (O':=O) ?_ ⟨.inr ⟨rfl,rfl,[],by simp⟩,by simp⟩
   refine ACallsTo.of_body qmok (by simp) fun hw _=> ?_
   rw [zkl]at*
   repeat' (first|apply zA rfl|(apply zd_ rfl<;>intro ht<;>try omega)|((first|apply zB rfl|(apply zG<;>intro ht))<;>try simp (disch:=first|omega|simp only [lz];try omega) only [go_sem,hg]))
   exact DownV.same hw (z15 _ rfl)
  ·have hne:¬l.length=0:=fun e=>h0 (List.eq_nil_of_length_eq_zero e)
   rw [hrl]at h1 h2
   refine ACallsP.of_keep qmok (by simp) ?_
   repeat' (first|apply zA rfl|(apply zd_ rfl<;>intro ht<;>try omega)|((first|apply zB rfl|(apply zG<;>intro ht))<;>try simp (disch:=first|omega|simp only [lz];try omega) only [go_sem,hg,hne,z8v,h1,h2]))
   refine .inl ⟨[some (hr l)],by simp,.inr ⟨0,by rw [Ne,hr_nil_iff];exact h0,?_,by simp⟩⟩
   simp [zn]
end
section
theorem z5e{l:List Hash}(h:i<l.length):l.take (i+1)=l.take i++ [hd l i]:=by
 rw [z9d h];exact(List.take_append_getElem h).symm
end
section
def Ext(O O':Store):Prop:=∃news,O'=O++news
theorem Ext.refl(O:Store):Ext O O:=⟨[],by simp⟩
theorem Ext.app{y:Store}(h:Ext O O'):Ext O (O'++y):=by
 obtain⟨n,rfl⟩:=h
 exact⟨n++y,by rw [List.append_assoc]⟩
theorem Ext.set{x:Option AObj}(h:Ext O O')(hr:O.length<=r):Ext O (O'.set r x):=by
 obtain⟨n,rfl⟩:=h
 exact⟨n.set (r-O.length) x,List.set_append_right _ _ hr⟩
theorem Ext.trans{O'':Store}(h:Ext O O')(h':Ext O' O''):Ext O O'':=by
 obtain⟨n,rfl⟩:=h
 obtain⟨m,rfl⟩:=h'
 exact⟨n++m,by rw [List.append_assoc]⟩
theorem Ext.le(h:Ext O O'):O.length<=O'.length:=by
 obtain⟨n,rfl⟩:=h;simp
theorem zW.once{Q:AExit->Env->Store->Prop}{x:ACode}(h:zW C n k x (z4x (fun _ _=>False) Q) J O):zW C n k (.loop x) Q J O:=
 zW.loop (fun _ J' O'=>J'=J/\ O'=O) 0 ⟨rfl,rfl⟩ (by
  rintro m _ _ ⟨rfl,rfl⟩
  refine h.mono fun e J O h=> ?_
  cases e
  ·exact h.elim
  ·exact h
  ·exact h)
end
section
def knil(es:List (List AV)):AV->AV
 | .nilsl=> .nilsl
 | _=> .vsl 32 es false
theorem zkx(h:x ≠ .nilsl):knil es x=.vsl 32 es false:=by
 cases x<;>first|rfl|exact absurd rfl h
theorem zzv(l:List Hash)(x:AV):RL k (knil (hr l) x):=by
 by_cases h:x=.nilsl
 ·subst h;simp [knil,RL]
 ·rw [zkx h];simp only [RL];exact z3e _
theorem zhn(O:Store)(l:List Hash)(x:AV)(hx:RdSl O 32 (hr l) x)(hl:l.length<1000000):
  ACallsTo TC 105 [x] O (knil (hr l) x) O:=by
 refine ACallsP.toDown (zph O l x hx hl) fun hw v O' h=> ?_
 obtain⟨h,hn⟩:=h
 obtain⟨y,rfl⟩:=h.ext
 refine DownV.all hw ?_
 by_cases h0:x=.nilsl
 ·rw [hn.1 h0,h0];simp [knil,DR]
 ·have hv:v ≠ .nilsl:=fun e=>h0 (hn.2 e)
  rw [zkx h0]
  rcases h with h| ⟨h1,rfl,_⟩
  ·have h2:=h.frz (z3e l)
   unfold zz at h2
   split at h2
   ·simp only [DR]at h2;exact absurd h2 hv
   ·exact h2
  ·rw [h1]
   simp only [DR]
   exact .inl ⟨_,_,rfl,by simp,by simp [DRss]⟩
theorem Ext.pure(hw:Wf O.length O)(h:Ext O O')(hv:RL O.length v):DownV O.length v O' v O:=by
 obtain⟨n,rfl⟩:=h
 exact DownV.pure hw hv
def zv(x:AV)(first:Bool)(l:List Hash):AV:=if first then knil (hr l) x else .vsl 32 (hr l) false
def rg(n:Int)(z:AV)(e:Int):AV:=.tup [.agg [.int .i64 n,z],.int .i64 e]
end
section
def zf0:Nat->List AV:=fun n=>[.int .i64 n]
def nums(l:List (Nat)):List (List AV):=l.map zf0
@[go_sem] theorem nums_len (l:List (Nat)):(nums l).length=l.length:=by simp [nums]
@[go_sem] theorem nums_take (l:List (Nat)) (n:Nat):(nums l).take n=nums (l.take n):=by simp [nums,List.map_take]
@[go_sem] theorem nums_drop (l:List (Nat)) (n:Nat):(nums l).drop n=nums (l.drop n):=by simp [nums,List.map_drop]
@[go_sem] theorem nums_set (l:List (Nat)) (i:Nat) (x:Nat):(nums l).set i (zf0 x)=nums (l.set i x):=by simp [nums,List.map_set]
def numsD(l:List (Nat))(i:Nat):Nat:=l.getD i 0
@[go_sem] theorem nums_get {l:List (Nat)} {i:Nat} (h:i<l.length):(nums l)[i]? =some (zf0 (numsD l i)):=by
 simp [nums,numsD,List.getElem?_map,List.getElem?_eq_getElem h]
def trsR:Nat × Hash->List AV:=fun t=> .int .i64 t.1::hc t.2
def trs(l:List (Nat × Hash)):List (List AV):=l.map trsR
@[go_sem] theorem trs_len (l:List (Nat × Hash)):(trs l).length=l.length:=by simp [trs]
@[go_sem] theorem trs_take (l:List (Nat × Hash)) (n:Nat):(trs l).take n=trs (l.take n):=by simp [trs,List.map_take]
@[go_sem] theorem trs_drop (l:List (Nat × Hash)) (n:Nat):(trs l).drop n=trs (l.drop n):=by simp [trs,List.map_drop]
@[go_sem] theorem trs_set (l:List (Nat × Hash)) (i:Nat) (x:Nat × Hash):(trs l).set i (trsR x)=trs (l.set i x):=by simp [trs,List.map_set]
def trsD(l:List (Nat × Hash))(i:Nat):Nat × Hash:=l.getD i (0,zeroH)
@[go_sem] theorem trs_get {l:List (Nat × Hash)} {i:Nat} (h:i<l.length):(trs l)[i]? =some (trsR (trsD l i)):=by
 simp [trs,trsD,List.getElem?_map,List.getElem?_eq_getElem h]
theorem RdSl.frz{news:Store}(h:RdSl (τ++news) sz es v)(hn:∀r off len lim e,v=.sl r off len lim e->τ.length<=r)(hr:RLss τ.length es):∃v2,SlV sz es v2/\ DR (FrzD τ news) v2 v:=by
 rcases h with(⟨rfl,rfl⟩| ⟨ex,rfl⟩)| ⟨r,off,lim,o,rfl,hg,h1,h2⟩
 ·exact⟨.nilsl,.inl ⟨rfl,rfl⟩,by simp [DR]⟩
 ·exact⟨.vsl sz es ex,.inr ⟨ex,rfl⟩,FrzD.same (by simpa only [RL]using hr)⟩
 ·exact⟨.vsl sz es false,.inr ⟨false,rfl⟩,FrzD.sl (hn _ _ _ _ _ rfl) hg h1 h2 hr⟩
theorem Ext.all{v2:AV}(hw:Wf O.length O)(he:Ext O O')(h:∀news,O'=O++news->DR (FrzD O news) v2 v):DownV O.length v O' v2 O:=by
 obtain⟨news,rfl⟩:=he
 exact DownV.all hw (h news rfl)
def OwnR(sz k:Nat)(O':Store)(v:AV)(es:List (List AV)):Prop:=(es=[]/\ v=.nilsl) \/ ∃r,k<=r/\ es ≠ []/\ v=.sl r 0 es.length none sz/\ O'[r]? =some (some es)
theorem OwnR.nil:OwnR sz k O' .nilsl []:=.inl ⟨rfl,rfl⟩
theorem OwnR.cells(h:OwnR sz k O' v es):cellsOf v=some [v]:=by
 rcases h with⟨_,rfl⟩| ⟨r,_,_,rfl,_⟩<;>rfl
theorem OwnR.rd(h:OwnR sz k O' v es):RdSl O' sz es v:=by
 rcases h with⟨h,rfl⟩| ⟨r,_,_,rfl,hg⟩
 ·exact .inl (.inl ⟨rfl,h⟩)
 ·exact .inr ⟨r,0,none,es,rfl,hg,by omega,by simp⟩
theorem OwnR.len(h:OwnR sz k O' v es):z1f v=some (.int .i64 es.length):=h.rd.len
theorem OwnR.set{q:Nat}{x:Option AObj}(h:OwnR sz k O' v es)(hq:q<k):OwnR sz k (O'.set q x) v es:=by
 rcases h with h| ⟨r,h1,h2,h3,h4⟩
 ·exact .inl h
 ·exact .inr ⟨r,h1,h2,h3,by rw [z1h (by omega)];exact h4⟩
theorem OwnR.more{y:Store}(h:OwnR sz k O' v es):OwnR sz k (O'++y) v es:=by
 rcases h with h| ⟨r,h1,h2,h3,h4⟩
 ·exact .inl h
 ·exact .inr ⟨r,h1,h2,h3,by rw [gapp (slen h4)];exact h4⟩
theorem OwnR.app(h:OwnR sz k O' v es)(hk:k<=O'.length)(h0:ys.length ≠ 0)(hl:es.length+ys.length<=1073741824):
  ∃v' O2,aApp O' sz v ys=some (v',O2)/\ OwnR sz k O2 v' (es++ys)/\ (∀q,q<k->O2[q]? =O'[q]?)/\ (∀O:Store,O.length<=k->Ext O O'->Ext O O2)/\ k<=O2.length:=by
 have hne:es++ys ≠ []:=fun e=>h0 (by rw [(List.append_eq_nil_iff.1 e).2];rfl)
 rcases h with⟨rfl,rfl⟩| ⟨r,h1,h2,rfl,hg⟩
 ·refine⟨.sl O'.length 0 ys.length none sz,O'++ [some ys],by rw [zde,if_neg h0,if_pos (by simpa using hl)],.inr ⟨O'.length,hk,hne,by simp,by simp⟩,fun q hq=>gapp (by omega),fun O _ he=>he.app,by simp;omega⟩
 ·have hr:=slen hg
  refine⟨.sl O'.length 0 (es.length+ys.length) none sz,O'.set r none++ [some (es++ys)],?_,.inr ⟨O'.length,hk,hne,by simp,by rw [z18 (by simp)];simp⟩,fun q hq=>by rw [gapp (by simp;omega),z1h (by omega)],fun O hs he=>(he.set (by omega)).app,by simp;omega⟩
  rw [zdf,if_neg h0,hg]
  simp only
  rw [if_pos ⟨trivial,by omega,by omega⟩,if_neg (by omega),List.drop_zero,List.take_of_length_le (Nat.le_refl _)]
theorem OwnR.frz{news:Store}(h:OwnR sz k (τ++news) v es)(hk:τ.length<=k)(hr:RLss τ.length es):DR (FrzD τ news) (zz sz es) v:=by
 unfold zz
 rcases h with⟨rfl,rfl⟩| ⟨r,h1,h2,rfl,hg⟩
 ·simp [DR]
 ·rw [if_neg h2]
  exact FrzD.sl (by omega) hg (by omega) (by simp) hr
theorem OwnR.fr{news:Store}(h:OwnR sz k O' v es)(e:O'=τ++news)(hk:τ.length<=k)(hr:RLss τ.length es):DR (FrzD τ news) (zz sz es) v:=by
 subst e;exact h.frz hk hr
end
section
attribute [local irreducible] ACallsTo ACallsP
theorem OwnN.base{y:Store}(h:OwnN sz (τ++y) O' v es):OwnN sz τ O' v es:=by
 obtain⟨news,rfl,h⟩:=h
 refine⟨y++news,by rw [List.append_assoc],?_⟩
 rcases h with h| ⟨j,h0,rfl,hj⟩
 ·exact .inl h
 ·exact .inr ⟨y.length+j,h0,by rw [List.length_append];congr 1;omega,by rw [List.getElem?_append_right (by omega),Nat.add_sub_cancel_left];exact hj⟩
def hss(T:List (Nat × Hash)):List Hash:=T.map (·.2)
theorem zgd(h:RLss k es):RL k (zz sz es):=by
 unfold zz
 split
 ·simp [RL]
 ·simpa only [RL]using h
theorem zog:RdSl O sz es (zz sz es):=.of (z1l sz es)
theorem zof:cellsOf (zz sz es)=some [zz sz es]:=by
 unfold zz;split<;>rfl
theorem z10z{z:AV}(h:SlV sz es z):cellsOf z=some [z]:=by
 rcases h with⟨rfl,_⟩| ⟨ex,rfl⟩<;>rfl
end
section
theorem znk(a b:Hash):z1o [a,b]=z1b a b:=by
 rw [zgi (by simp)];simp [split2,znj]
theorem znl(a b c d:Hash):z1o [a,b,c,d]=z1b (z1b a b) (z1b c d):=by
 rw [zgi (by simp)];simp [split4,znk]
end
section
attribute [local irreducible] ACallsTo ACallsP
theorem hslC_h(h:ShC (.sl 32 z6m) cs):∃(l:List Hash) (a:AV),cs=[a]/\ SlV 32 (hr l) a/\ l.length<=maxLen:=by
 simp only [ShC]at h
 rcases h with rfl| ⟨es,rfl,hl,_,h2⟩
 ·exact⟨[],.nilsl,rfl,.inl ⟨rfl,rfl⟩,Nat.zero_le _⟩
 ·obtain⟨hs,rfl,hH⟩:=zkf es h2
  obtain⟨m,rfl⟩:=hb_of hH
  rw [zeg]at*
  exact⟨m,_,rfl,.inr ⟨false,rfl⟩,by rwa [zn]at hl⟩
end
section
def chkH(m n:Int)(o nw:Hash)(ps:List Hash):Int:=chkI m n o.1 nw.1 (hb ps)
end
section
set_option maxRecDepth 10000
def qnc9:yX:=yq [ye 2] (.seq (yq [yM 3 0,yJ 4 .lss 3 .u64 128] (.cond (.t 4) (yq [yM 5 0,yY 6 .u8 5,yI 7 (.lit 1 [(.t 6)]),yI 8 (.conv .str (.t 7)),yM 2 8] .ret) .skip)) (yq [yM 9 0,yJ 10 .quo 9 .u64 128,⟨some 11,none,.same,.call (.v (.fn 148 [])) [(.t 10)]⟩,yM 12 0,yJ 13 .rem 12 .u64 128,yY 14 .u8 13,yI 15 (.lit 1 [(.t 14)]),⟨some 16,none,.same,.conv .str (.t 15)⟩,yB 17 .add 11 16,yM 2 17] .ret))
theorem qnok:cFn TC 117=some (18,[.t 2],qnc9):=by kernel_rfl
def qoc3:yX:=yq [ye 2] (yq [yM 3 0,yI 4 (.lenStr (.t 3)),yY 5 .u64 4,yC 6 117 5,yM 7 0,yB 8 .add 6 7,yM 2 8] .ret)
theorem qook:cFn TC 124=some (9,[.t 2],qoc3):=by kernel_rfl
def qpc22:yX:=.seq (yq [yM 5 0,yZ 6 5,yJ 7 .gtr 6 .i64 64] (.cond (.t 7) (yq [ye 2] .ret) .skip)) (yq [yM 8 0,yZ 9 8,yY 10 .u64 9,yC 11 117 10,yM 3 11] (.seq (yq [yK 4 .i64 0] (.block 0 (.loop (.seq (yq [yM 12 4,yM 13 0,yZ 14 13,yB 15 .lss 12 14] (.cond (.t 15) .skip (.exit 0))) (.seq (.block 1 (.reg [yM 18 3,yM 19 0,yM 20 4,yN 21 32 19 20,yL 22 true 32 21,yC 23 96 22,yB 24 .add 18 23,yM 3 24])) (.reg [yM 16 4,yJ 17 .add 16 .i64 1,yM 4 17])))))) (yq [yM 25 3,yM 2 25] .ret)))
def qpc23:yX:=yq [ye 2] qpc22
theorem qpok:cFn TC 150=some (26,[.t 2],qpc23):=by kernel_rfl
def qqc15:yX:=.seq (yq [yM 15 2,yJ 16 .eql 15 .u64 0,yM 17 16,yV 18 17 true 6,yG 19 17 true (.bin .eql .none (.t 18) (.v (.int .u8 128))),yQ 20 17 19,yM 21 20,yV 22 21 false 2,yG 23 21 false (.bin .geq .none (.t 22) (.v (.int .u64 144115188075855872))),yP 24 21 23] (.cond (.t 24) (.exit 0) .skip)) (yq [yM 25 2,yJ 26 .shl 25 .u64 7,yM 27 6,yJ 28 .and 27 .u8 127,yY 29 .u64 28,yB 30 .or 26 29,yM 2 30] (yq [yM 31 6,yJ 32 .lss 31 .u8 128] (.cond (.t 32) (yq [yM 33 2,yM 34 0,yM 35 5,yJ 36 .add 35 .i64 1,yI 37 (.slice .str (.t 34) (some (.t 36)) none none),yM 2 33,yM 3 37,yb 4 true] .ret) .skip)))
def qqc28:yX:=yq [yK 2 .u64 0,ye 3,yb 4 false] (.seq (yq [yM 7 0,yI 8 (.lenStr (.t 7)),yK 9 .i64 0] (.block 0 (.loop (yq [yB 10 .lss 9 8] (.seq (.cond (.t 10) .skip (.exit 0)) (.seq (.block 1 (yq [yM 11 9,yM 5 11] (yq [yM 12 0,yM 13 5,yI 14 (.ixStr (.t 12) (.t 13)),yM 6 14] qqc15))) (.reg [yJ 38 .add 9 .i64 1,yM 9 38]))))))) (yq [yK 2 .u64 0,ye 3,yb 4 false] .ret))
theorem qqok:cFn TC 145=some (39,[.t 2,.t 3,.t 4],qqc28):=by kernel_rfl
def qrc7:yX:=yq [yI 2 (.alloc zZ0),ye 3,yb 4 false] (yq [yM 7 0,yI 8 (.call (.v (.fn 161 [])) [(.t 7),(.v (.int .u64 32))]),yM 6 8,yE 9 0 6,yE 10 1 6,yE 11 2 6,yM 5 9,yM 3 10,yM 4 11] (yq [yI 12 (.slice (.arr 32 1) (.t 2) none none none),yM 13 5,yI 14 (.copy 1 (.t 12) (.t 13))] (yq [yL 15 true 32 2,yM 16 3,yM 17 4,yS 32 2 15,yM 3 16,yM 4 17] .ret)))
theorem qrok:cFn TC 146=some (18,[.c 2 true 32,.t 3,.t 4],qrc7):=by kernel_rfl
def qsc11:yX:=yq [ye 2,ye 3,yb 4 false] (yq [yM 7 0,yC 8 145 7,yM 6 8,yE 9 0 6,yE 10 1 6,yE 11 2 6,yM 5 9,yM 3 10,yM 4 11] (.seq (yq [yM 12 4,yu 13 12] (.cond (.t 13) (yq [ye 2,ye 3,yb 4 false] .ret) .skip)) (yq [yM 14 3,yM 15 5,yD 16 161 14 15,yE 17 0 16,yE 18 1 16,yE 19 2 16,yM 2 17,yM 3 18,yM 4 19] .ret)))
theorem qsok:cFn TC 143=some (20,[.t 2,.t 3,.t 4],qsc11):=by kernel_rfl
def qtc21:yX:=.seq (yq [yM 21 5,yJ 22 .gtr 21 .u64 0] (.cond (.t 22) .skip (.exit 0))) (.seq (.block 1 (yq [yM 26 3,yC 27 146 26,yM 25 27,yE 28 0 25,yE 29 1 25,yE 30 2 25,yI 6 (.alloc zZ0),yS 32 6 28,yM 7 29,yM 8 30] (.seq (yq [yM 31 8,yu 32 31] (.cond (.t 32) (yq [yI 2 (.mv (.v .nilsl)),ye 3,yb 4 false] .ret) .skip)) (.reg [yM 33 2,yL 34 true 32 6,yI 35 (.lit 32 [(.t 34)]),yI 36 (.app 32 (.t 33) (.t 35)),yM 37 7,yM 2 36,yM 3 37])))) (.reg [yM 23 5,yJ 24 .sub 23 .u64 1,yM 5 24]))
def qtc28:yX:=yq [yI 2 (.mv (.v .nilsl)),ye 3,yb 4 false] (yq [yM 10 0,yC 11 145 10,yM 9 11,yE 12 0 9,yE 13 1 9,yE 14 2 9,yM 5 12,yM 3 13,yM 4 14] (.seq (yq [yM 15 4,yu 16 15,yM 17 16,yV 18 17 false 5,yG 19 17 false (.bin .gtr .none (.t 18) (.v (.int .u64 64))),yP 20 17 19] (.cond (.t 20) (yq [yI 2 (.mv (.v .nilsl)),ye 3,yb 4 false] .ret) .skip)) (.seq (.block 0 (.loop qtc21)) (yq [yM 38 2,yM 39 3,yM 2 38,yM 3 39,yb 4 true] .ret))))
theorem qtok:cFn TC 162=some (40,[.t 2,.t 3,.t 4],qtc28):=by kernel_rfl
def quc7:yX:=.seq (yq [yM 8 5,yM 9 0,yI 10 (.lenStr (.t 9)),yB 11 .lss 8 10,yM 12 11,yV 13 12 true 5,yG 14 12 true (.bin .lss .none (.t 13) (.v (.int .i64 10))),yQ 15 12 14,yM 16 15,yV 17 16 true 0,yV 18 16 true 5,yG 19 16 true (.ixStr (.t 17) (.t 18)),yG 20 16 true (.bin .geq .none (.t 19) (.v (.int .u8 128))),yQ 21 16 20] (.cond (.t 21) .skip (.exit 0))) (.block 1 (.reg [yM 22 5,yJ 23 .add 22 .i64 1,yM 5 23]))
def quc34:yX:=.seq (yq [yK 7 .i64 0] (.block 2 (.loop (.seq (yq [yM 32 7,yM 33 5,yB 34 .leq 32 33] (.cond (.t 34) .skip (.exit 2))) (.seq (.block 3 (.reg [yM 37 6,yJ 38 .mul 37 .u64 128,yM 39 0,yM 40 7,yI 41 (.ixStr (.t 39) (.t 40)),yJ 42 .rem 41 .u8 128,yY 43 .u64 42,yB 44 .add 38 43,yM 6 44])) (.reg [yM 35 7,yJ 36 .add 35 .i64 1,yM 7 36])))))) (.seq (yq [yM 45 6,yC 46 117 45,yM 47 0,yM 48 5,yJ 49 .add 48 .i64 1,yI 50 (.slice .str (.t 47) none (some (.t 49)) none),yB 51 .neq 46 50] (.cond (.t 51) (yq [yK 2 .u64 0,ye 3,yb 4 false] .ret) .skip)) (yq [yM 52 6,yM 53 0,yM 54 5,yJ 55 .add 54 .i64 1,yI 56 (.slice .str (.t 53) (some (.t 55)) none none),yM 2 52,yM 3 56,yb 4 true] .ret))
def quc39:yX:=yq [yK 2 .u64 0,ye 3,yb 4 false] (yq [yK 5 .i64 0] (.seq (.block 0 (.loop quc7)) (.seq (yq [yM 24 5,yM 25 0,yI 26 (.lenStr (.t 25)),yB 27 .geq 24 26,yM 28 27,yV 29 28 false 5,yG 30 28 false (.bin .gtr .none (.t 29) (.v (.int .i64 9))),yP 31 28 30] (.cond (.t 31) (yq [yK 2 .u64 0,ye 3,yb 4 false] .ret) .skip)) (yq [yK 6 .u64 0] quc34))))
theorem quok:cFn TC 119=some (57,[.t 2,.t 3,.t 4],quc39):=by kernel_rfl
def qvc20:yX:=.seq (yq [yK 6 .i64 0] (.block 0 (.loop (.seq (yq [yM 11 6,yJ 12 .lss 11 .i64 32] (.cond (.t 12) .skip (.exit 0))) (.seq (.block 1 (.reg [yM 15 6,yM 16 0,yM 17 6,yI 18 (.ixStr (.t 16) (.t 17)),yI 19 (.iaArr 32 1 (.t 5) (.t 15)),yS 1 19 18])) (.reg [yM 13 6,yJ 14 .add 13 .i64 1,yM 6 14])))))) (yq [yL 20 true 32 5,yM 21 0,yI 22 (.slice .str (.t 21) (some (.v (.int .i64 32))) none none),yS 32 2 20,yM 3 22,yb 4 true] .ret)
def qvc23:yX:=yq [yI 2 (.alloc zZ0),ye 3,yb 4 false] (yq [yI 5 (.alloc zZ0)] (.seq (yq [yM 7 0,yI 8 (.lenStr (.t 7)),yJ 9 .lss 8 .i64 32] (.cond (.t 9) (yq [yL 10 true 32 5,yS 32 2 10,ye 3,yb 4 false] .ret) .skip)) qvc20))
theorem qvok:cFn TC 122=some (23,[.c 2 true 32,.t 3,.t 4],qvc23):=by kernel_rfl
def qwc9:yX:=.seq (yq [yM 14 7,yu 15 14,yM 16 15,yV 17 16 false 5,yV 18 16 false 6,yG 19 16 false (.lenStr (.t 18)),yG 20 16 false (.conv (.int .u64) (.t 19)),yG 21 16 false (.bin .gtr .none (.t 17) (.t 20)),yP 22 16 21] (.cond (.t 22) (yq [ye 2,ye 3,yb 4 false] .ret) .skip)) (yq [yM 23 6,yM 24 5,yY 25 .i64 24,yI 26 (.slice .str (.t 23) none (some (.t 25)) none),yM 27 6,yM 28 5,yY 29 .i64 28,yI 30 (.slice .str (.t 27) (some (.t 29)) none none),yM 2 26,yM 3 30,yb 4 true] .ret)
def qwc11:yX:=yq [ye 2,ye 3,yb 4 false] (yq [yM 9 0,yC 10 119 9,yM 8 10,yE 11 0 8,yE 12 1 8,yE 13 2 8,yM 5 11,yM 6 12,yM 7 13] qwc9)
theorem qwok:cFn TC 120=some (31,[.t 2,.t 3,.t 4],qwc11):=by kernel_rfl
def qxc6:yX:=yq [yM 19 7,yu 20 19,yM 21 20,yV 22 21 false 5,yG 23 21 false (.bin .gtr .none (.t 22) (.v (.int .u64 64))),yP 24 21 23,yM 25 24,yV 26 25 false 6,yG 27 25 false (.lenStr (.t 26)),yG 28 25 false (.conv (.int .u64) (.t 27)),yV 29 25 false 5,yG 30 25 false (.bin .mul .none (.v (.int .u64 32)) (.t 29)),yG 31 25 false (.bin .lss .none (.t 28) (.t 30)),yP 32 25 31] (.cond (.t 32) (yq [yI 2 (.mv (.v .nilsl)),ye 3,yb 4 false] .ret) .skip)
def qxc19:yX:=.block 0 (.loop (.seq (yq [yM 33 9,yM 34 5,yY 35 .i64 34,yB 36 .lss 33 35] (.cond (.t 36) .skip (.exit 0))) (.seq (.block 1 (yq [yM 40 6,yC 41 122 40,yM 39 41,yE 42 0 39,yE 43 1 39,yE 44 2 39,yI 10 (.alloc zZ0),yS 32 10 42,yM 11 43,yM 12 44] (.reg [yM 45 8,yL 46 true 32 10,yI 47 (.lit 32 [(.t 46)]),yI 48 (.app 32 (.t 45) (.t 47)),yM 49 11,yM 8 48,yM 6 49]))) (.reg [yM 37 9,yJ 38 .add 37 .i64 1,yM 9 38]))))
def qxc27:yX:=yq [yI 2 (.mv (.v .nilsl)),ye 3,yb 4 false] (yq [yM 14 0,yC 15 119 14,yM 13 15,yE 16 0 13,yE 17 1 13,yE 18 2 13,yM 5 16,yM 6 17,yM 7 18] (.seq qxc6 (yq [yI 8 (.mv (.v .nilsl))] (.seq (yq [yK 9 .i64 0] qxc19) (yq [yM 50 8,yM 51 6,yM 2 50,yM 3 51,yb 4 true] .ret)))))
theorem qxok:cFn TC 149=some (52,[.t 2,.t 3,.t 4],qxc27):=by kernel_rfl
def qyc15:yX:=.seq (yq [yM 8 0,yJ 9 .quo 8 .u64 128,yM 0 9] (.block 0 (.loop (.seq (yq [yM 10 0,yJ 11 .gtr 10 .u64 0] (.cond (.t 11) .skip (.exit 0))) (.seq (.block 1 (.reg [yM 14 0,yJ 15 .rem 14 .u64 128,yY 16 .u8 15,yJ 17 .or 16 .u8 128,yI 18 (.lit 1 [(.t 17)]),yM 19 3,yI 20 (.appB (.t 18) (.t 19)),yM 3 20])) (.reg [yM 12 0,yJ 13 .quo 12 .u64 128,yM 0 13])))))) (yq [yM 21 3,yI 22 (.conv .str (.t 21)),yM 2 22] .ret)
def qyc17:yX:=yq [ye 2] (yq [yM 4 0,yJ 5 .rem 4 .u64 128,yY 6 .u8 5,yI 7 (.lit 1 [(.t 6)]),yM 3 7] qyc15)
theorem qyok:cFn TC 109=some (23,[.t 2],qyc17):=by kernel_rfl
def qzc3:yX:=yq [ye 2] (yq [yM 3 0,yI 4 (.lenStr (.t 3)),yY 5 .u64 4,yC 6 109 5,yM 7 0,yB 8 .add 6 7,yM 2 8] .ret)
theorem qzok:cFn TC 129=some (9,[.t 2],qzc3):=by kernel_rfl
def q10c24:yX:=yq [yI 3 (.allB)] (yq [yM 9 0,yZ 10 9,yY 11 .u64 10,yC 12 109 11,yD 13 83 3 12] (.seq (yq [yM 14 0,yZ 15 14,yK 16 .i64 0] (.block 0 (.loop (yq [yB 17 .lss 16 15] (.seq (.cond (.t 17) .skip (.exit 0)) (.seq (.block 1 (yq [yN 18 32 14 16,yL 19 true 32 18,yI 5 (.alloc zZ0),yS 32 5 19] (.reg [yL 20 true 32 5,yC 21 84 20,yD 22 83 3 21]))) (.reg [yJ 23 .add 16 .i64 1,yM 16 23]))))))) (yq [yC 24 86 3,yM 2 24] .ret)))
def q10c26:yX:=yq [ye 2] (.seq (yq [yM 6 0,yZ 7 6,yJ 8 .gtr 7 .i64 64] (.cond (.t 8) (yq [ye 2] .ret) .skip)) q10c24)
theorem q10ok:cFn TC 164=some (25,[.t 2],q10c26):=by kernel_rfl
def q11c11:yX:=yq [ye 2] (yq [yM 4 0,yJ 5 .rem 4 .u64 128,yY 6 .u8 5,yJ 7 .add 6 .u8 128,yI 8 (.lit 1 [(.t 7)]),yI 9 (.conv .str (.t 8)),yM 3 9] (.seq (yq [yM 10 0,yJ 11 .lss 10 .u64 128] (.cond (.t 11) (yq [yM 12 3,yM 2 12] .ret) .skip)) (yq [yM 13 0,yJ 14 .quo 13 .u64 128,yC 15 148 14,yM 16 3,yB 17 .add 15 16,yM 2 17] .ret)))
theorem q11ok:cFn TC 148=some (18,[.t 2],q11c11):=by kernel_rfl
def q12c9:yX:=yq [ye 4,ye 5,yb 6 false] (.seq (yq [yM 7 1,yM 8 0,yI 9 (.lenStr (.t 8)),yY 10 .u64 9,yB 11 .gtr 7 10] (.cond (.t 11) (yq [ye 4,ye 5,yb 6 false] .ret) .skip)) (yq [yM 12 0,yM 13 1,yI 14 (.slice .str (.t 12) none (some (.t 13)) none),yM 15 0,yM 16 1,yI 17 (.slice .str (.t 15) (some (.t 16)) none none),yM 4 14,yM 5 17,yb 6 true] .ret))
theorem q12ok:cFn TC 161=some (18,[.t 4,.t 5,.t 6],q12c9):=by kernel_rfl
def q13c3:yX:=yq [yb 4 false] (yq [yM 5 0,yI 6 (.lenStr (.t 5)),yM 7 1,yI 8 (.lenStr (.t 7)),yB 9 .geq 6 8,yM 10 9,yV 11 10 true 0,yV 12 10 true 1,yG 13 10 true (.lenStr (.t 12)),yG 14 10 true (.slice .str (.t 11) none (some (.t 13)) none),yV 15 10 true 1,yG 16 10 true (.bin .eql .none (.t 14) (.t 15)),yQ 17 10 16,yM 4 17] .ret)
theorem q13ok:cFn TC 176=some (18,[.t 4],q13c3):=by kernel_rfl
end
section
def u8(n:Nat):UInt8:=UInt8.ofNat n
theorem z38(h:n<256):(u8 n).toNat=n:=by unfold u8;rw [UInt8.toNat_ofNat'];omega
theorem zd1{c:UInt8}(h:c.toNat=n):u8 n=c:=by rw [<-h];simp [u8]
def z2k:Nat->Nat->List UInt8
 | 0,_=>[]
 |f+1,n=>if n<128 then [u8 (n+128)]else z2k f (n/128)++ [u8 (n%128+128)]
theorem zau(f n:Nat):z2k (f+1) n=if n<128 then [u8 (n+128)]else z2k f (n/128)++ [u8 (n%128+128)]:=rfl
theorem zat:∀(f g n:Nat),n<128^f->n<128^g->0<f->0<g->z2k f n=z2k g n
 | 0,_,_,_,_,h,_=>by omega
 | _+1,0,_,_,_,_,h=>by omega
 |f+1,g+1,n,h,h',_,_=>by
  simp only [z2k]
  by_cases h1:n<128
  ·rw [if_pos h1,if_pos h1]
  ·rw [if_neg h1,if_neg h1]
   rw [Nat.pow_succ]at h h'
   have hf:0<f:=by
    rcases Nat.eq_zero_or_pos f with h0|h0
    ·subst h0;simp at h;omega
    ·exact h0
   have hg:0<g:=by
    rcases Nat.eq_zero_or_pos g with h0|h0
    ·subst h0;simp at h';omega
    ·exact h0
   rw [zat f g (n/128) (by omega) (by omega) hf hg]
def numS(n:Nat):List UInt8:=if n<128 then [u8 n]else z2k 10 (n/128)++ [u8 (n%128)]
def z3u:Nat->List UInt8->Option (Nat × List UInt8)
 | _,[]=>none
 |n,c::s=>if (n=0/\ c.toNat=128) \/144115188075855872<=n then none else if c.toNat<128 then some (128*n+c.toNat%128,s)else z3u (128*n+c.toNat%128) s
def z1r(s:List UInt8):Option (Nat × List UInt8):=z3u 0 s
theorem zmx:∀(s:List UInt8) (m n:Nat) (rest:List UInt8),z3u m s=some (n,rest)->n<18446744073709551616/\ (if m=0 then []else z2k 10 m)++s=numS n++rest
 | [],_,_,_,h=>by simp [z3u]at h
 |c::s,m,n,rest,h=>by
  have hc:=c.toNat_lt
  simp only [z3u]at h
  split at h
  ·cases h
  ·rename_i hcond
   by_cases h1:c.toNat<128
   ·rw [if_pos h1]at h
    simp only [Option.some.injEq,Prod.mk.injEq]at h
    obtain⟨rfl,rfl⟩:=h
    refine⟨by omega,?_⟩
    by_cases h0:m=0
    ·subst h0
     rw [if_pos rfl]
     unfold numS
     rw [if_pos (by omega),zd1 (c:=c) (by omega)];rfl
    ·rw [if_neg h0]
     unfold numS
     rw [if_neg (by omega),show (128*m+c.toNat%128)/128=m by omega,show (128*m+c.toNat%128)%128=c.toNat by omega,zd1 rfl,List.append_assoc];rfl
   ·rw [if_neg h1]at h
    obtain⟨i1,i2⟩:=zmx s _ n rest h
    refine⟨i1,?_⟩
    have hne:¬128*m+c.toNat%128=0:=by omega
    rw [<-i2,if_neg hne]
    by_cases h0:m=0
    ·subst h0
     rw [if_pos rfl,show (10:Nat)=9+1 from rfl,zau,if_pos (by omega),zd1 (c:=c) (by omega)];rfl
    ·rw [if_neg h0]
     have e:z2k 10 (128*m+c.toNat%128)=z2k 9 m++ [c]:=by
      rw [show (10:Nat)=9+1 from rfl,zau,if_neg (by omega),show (128*m+c.toNat%128)/128=m by omega,zd1 (c:=c) (by omega)]
     rw [e,zat 9 10 m (by omega) (by omega) (by decide) (by decide),List.append_assoc];rfl
theorem zmw:∀(f m:Nat) (s:List UInt8),0<m->m<128^f->m<18446744073709551616->z3u 0 (z2k f m++s)=z3u m s
 | 0,m,s,h0,h,_=>by simp at h;omega
 |f+1,m,s,h0,h,h64=>by
  simp only [z2k]
  by_cases h1:m<128
  ·rw [if_pos h1]
   simp only [List.cons_append,List.nil_append,z3u]
   rw [z38 (by omega),if_neg (by omega),if_neg (by omega),show 128*0+(m+128)%128=m by omega]
  ·rw [if_neg h1,List.append_assoc]
   rw [Nat.pow_succ]at h
   rw [zmw f (m/128) _ (by omega) (by omega) (by omega)]
   simp only [List.cons_append,List.nil_append,z3u]
   rw [z38 (by omega),if_neg (by omega),if_neg (by omega),show 128*(m/128)+(m%128+128)%128=m by omega]
theorem z5a(h:n<18446744073709551616)(rest:List UInt8):z1r (numS n++rest)=some (n,rest):=by
 unfold z1r numS
 by_cases h1:n<128
 ·rw [if_pos h1]
  simp only [List.cons_append,List.nil_append,z3u]
  rw [z38 (by omega),if_neg (by omega),if_pos h1,show 128*0+n%128=n by omega]
 ·rw [if_neg h1,List.append_assoc,zmw 10 (n/128) _ (by omega) (by omega) (by omega)]
  simp only [List.cons_append,List.nil_append,z3u]
  rw [z38 (by omega),if_neg (by omega),if_pos (by omega),show 128*(n/128)+n%128%128=n by omega]
theorem z71{rest:List UInt8}(h:z1r s=some (n,rest)):n<18446744073709551616/\ s=numS n++rest:=by
 have:=zmx s 0 n rest h
 rwa [if_pos rfl,List.nil_append]at this
def dval(l:List UInt8):Nat:=l.foldl (fun n b=>128*n+b.toNat%128) 0
theorem ze0(l:List UInt8)(b:UInt8):dval (l++ [b])=128*dval l+b.toNat%128:=by simp [dval]
theorem zav:∀(f n:Nat),0<f->n<128^f->(∀b ∈ z2k f n,128<=b.toNat)/\ (z2k f n).length<=f/\ dval (z2k f n)=n
 | 0,_,h,_=>by omega
 |f+1,n,_,h=>by
  simp only [z2k]
  by_cases h1:n<128
  ·rw [if_pos h1]
   refine⟨fun b hb=> ?_,by simp,?_⟩
   ·simp at hb;subst hb;rw [z38 (by omega)];omega
   ·simp only [dval,List.foldl_cons,List.foldl_nil];rw [z38 (by omega)];omega
  ·rw [if_neg h1]
   rw [Nat.pow_succ]at h
   have hf:0<f:=by
    rcases Nat.eq_zero_or_pos f with h0|h0
    ·subst h0;simp at h;omega
    ·exact h0
   obtain⟨i1,i2,i3⟩:=zav f (n/128) hf (by omega)
   refine⟨fun b hb=> ?_,by simp;omega,?_⟩
   ·rcases List.mem_append.1 hb with hb|hb
    ·exact i1 b hb
    ·simp at hb;subst hb;rw [z38 (by omega)];omega
   ·rw [ze0,i3,z38 (by omega)];omega
theorem zez(h:n<18446744073709551616):∃A c,numS n=A++ [c]/\ (∀b ∈ A,128<=b.toNat)/\ c.toNat<128/\ A.length<=9/\ dval (numS n)=n:=by
 unfold numS
 by_cases h1:n<128
 ·rw [if_pos h1]
  refine⟨[],u8 n,rfl,by simp,by rw [z38 (by omega)];exact h1,by simp,?_⟩
  simp only [dval,List.foldl_cons,List.foldl_nil];rw [z38 (by omega)];omega
 ·rw [if_neg h1]
  have e:=zat 10 9 (n/128) (by omega) (by omega) (by decide) (by decide)
  obtain⟨i1,i2,i3⟩:=zav 9 (n/128) (by decide) (by omega)
  refine⟨z2k 10 (n/128),u8 (n%128),rfl,by rw [e];exact i1,by rw [z38 (by omega)];omega,by rw [e];exact i2,?_⟩
  rw [ze0,e,i3,z38 (by omega)];omega
end
section
attribute [local irreducible] ACallsTo ACallsP
theorem or128(h:n<128):n ||| 128=n+128:=by
 have:=Nat.two_pow_add_eq_or_of_lt (i:=7) (b:=n) h 1
 simp at this
 rw [Nat.or_comm,<-this,Nat.add_comm]
theorem zrb(b:UInt8)(s:List UInt8):zy (b::s)=[.int .u8 b.toNat]::zy s:=by simp [zy,B8]
theorem lw:(∀(h:Hash),(hc h).length=32)/\ (∀(l:List Hash),(hr l).length=l.length)/\ (∀{α:Type}{l:List α},l.reverse.length=l.length)/\ (∀(s:List UInt8),(zy s).length=s.length):=⟨@z8,@zn,by simp,@zo⟩
theorem znb:∀(f:Nat) (O:Store) (n:Nat),0<f->f<=100->n<128^f->n<18446744073709551616->ACallsTo TC 148 [.int .u64 n] O (.str (z2k f n)) O
 | 0,_,_,h,_,_,_=>by omega
 |f+1,O,n,_,hf100,h,h64=>by
  refine ACallsTo.of_body q11ok (by simp) fun hw _=> ?_
  have hb:[[AV.int .u8 ((n:Int)%128+128)]]=zy [u8 (n%128+128)]:=by
   have:=z38 (n:=n%128+128) (by omega)
   simp [zy,B8,this]
  simp only [z2k]
  by_cases h1:n<128
  ·have e:u8 (n+128)=u8 (n%128+128):=by congr 1;omega
   rw [if_pos h1,e]
   generalize u8 (n%128+128)=c at*
   repeat' (first|apply zA rfl|(apply zd_ rfl<;>intro ht<;>try omega)|((first|apply zB rfl|(apply zG<;>intro ht))<;>try simp (disch:=first|omega|simp only [lz,lw];try omega) only [go_sem,hb]))
   exact DownV.same hw (z15 _ rfl)
  ·rw [if_neg h1]
   rw [Nat.pow_succ]at h
   have hf:0<f:=by
    rcases Nat.eq_zero_or_pos f with h0|h0
    ·subst h0;simp at h;omega
    ·exact h0
   have ih:=fun O=>znb f O (n/128) hf (by omega) (by omega) (by omega)
   have hlen:=(zav f (n/128) hf (by omega)).2.1
   have hd:(n:Int)/128=((n/128:Nat):Int):=by simp
   generalize u8 (n%128+128)=c at*
   repeat' (first|apply zA rfl|(apply zd_ rfl<;>intro ht<;>try omega)|((first|apply zB rfl|(apply callW.mk_pu;exact(fun _=>ih _))|(apply callW.za;exact(ih _))|(apply zG<;>intro ht))<;>try simp (disch:=first|omega|simp only [lz,lw];try omega) only [go_sem,hb,hd]))
   exact DownV.same hw (z15 _ rfl)
theorem z62(O:Store)(n:Nat)(h:n<18446744073709551616):ACallsTo TC 117 [.int .u64 n] O (.str (numS n)) O:=by
 refine ACallsTo.of_body qnok (by simp) fun hw _=> ?_
 unfold numS
 by_cases h1:n<128
 ·have hb:[[AV.int .u8 (n:Int)]]=zy [u8 n]:=by
   have:=z38 (n:=n) (by omega)
   simp [zy,B8,this]
  rw [if_pos h1]
  generalize u8 n=c at*
  repeat' (first|apply zA rfl|(apply zd_ rfl<;>intro ht<;>try omega)|((first|apply zB rfl|(apply zG<;>intro ht))<;>try simp (disch:=first|omega|simp only [lz,lw];try omega) only [go_sem,hb]))
  exact DownV.same hw (z15 _ rfl)
 ·have hb:[[AV.int .u8 ((n:Int)%128)]]=zy [u8 (n%128)]:=by
   have:=z38 (n:=n%128) (by omega)
   simp [zy,B8,this]
  have hA:=fun O=>znb 10 O (n/128) (by decide) (by decide) (by omega) (by omega)
  have hlen:=(zav 10 (n/128) (by decide) (by omega)).2.1
  have hd:(n:Int)/128=((n/128:Nat):Int):=by simp
  rw [if_neg h1]
  generalize u8 (n%128)=c at*
  repeat' (first|apply zA rfl|(apply zd_ rfl<;>intro ht<;>try omega)|((first|apply zB rfl|(apply callW.mk_pu;exact(fun _=>hA _))|(apply callW.za;exact(hA _))|(apply zG<;>intro ht))<;>try simp (disch:=first|omega|simp only [lz,lw];try omega) only [go_sem,hb,hd]))
  exact DownV.same hw (z15 _ rfl)
def preF(m:Nat):List UInt8:=if m=0 then []else z2k 10 m
theorem zy6{m:Nat}(h:0<m)(h2:m<18446744073709551616):preF m=preF (m/128)++ [u8 (m%128+128)]:=by
 unfold preF
 rw [if_neg (by omega),show (10:Nat)=9+1 from rfl,zau]
 by_cases h1:m<128
 ·rw [if_pos h1,if_pos (by omega),show m%128+128=m+128 by omega];rfl
 ·rw [if_neg h1,if_neg (by omega),zat 9 10 (m/128) (by omega) (by omega) (by decide) (by decide)]
theorem zw6(n:Nat):numS n=preF (n/128)++ [u8 (n%128)]:=by
 unfold numS preF
 by_cases h1:n<128
 ·rw [if_pos h1,if_pos (by omega),show n%128=n by omega];rfl
 ·rw [if_neg h1,if_neg (by omega)]
theorem z6h(O:Store)(n:Nat)(h:n<18446744073709551616):ACallsTo TC 109 [.int .u64 n] O (.str (numS n)) O:=by
 refine ACallsTo.of_body qyok (by simp) fun hw _=> ?_
 have hb:[[AV.int .u8 ((n:Int)%128)]]=zy [u8 (n%128)]:=by
  have:=z38 (n:=n%128) (by omega)
  simp [zy,B8,this]
 have hd:(n:Int)/128=((n/128:Nat):Int):=by simp
 have hn:=zw6 n
 generalize u8 (n%128)=c0 at*
 repeat' (first|apply zA rfl|(apply zd_ rfl<;>intro ht<;>try omega)|((first|apply zB rfl|(apply zG<;>intro ht))<;>try simp (disch:=first|omega|simp only [lz,lw];try omega) only [go_sem,hb,hd]))
 refine zW.loop (fun k J O'=>∃(m:Nat) (b:List UInt8) (v:AV),m<128^k/\ m<18446744073709551616/\ preF m++b=numS n/\ 0<b.length/\ b.length+k<=12/\ Ext O O'/\ (v=.vsl 1 (zy b) true \/ ∃r,O.length<=r/\ v=.sl r 0 b.length none 1/\ O'[r]? =some (some (zy b)))/\ J 0=.int .u64 m/\ J 3=v) 10 ?_ ?_
 ·exact⟨n/128,[c0],_,by omega,by omega,hn.symm,by simp,by simp,Ext.refl _,.inl rfl,by simp only [go_sem],by simp only [go_sem]⟩
 ·rintro k J O' ⟨m,b,v,hmk,hm,hmb,hb0,hbk,he,hv,q0,q3⟩
  by_cases h0:m=0
  ·subst h0
   rw [<-hmb]
   have e0:preF 0++b=b:=rfl
   rw [e0]
   rcases hv with rfl| ⟨r,hr,rfl,hg⟩
   ·repeat' (first|apply zA rfl|(apply zd_ rfl<;>intro ht<;>try omega)|((first|apply zB rfl|(apply zG<;>intro ht))<;>try simp (disch:=first|omega|simp only [lz,lw];try omega) only [go_sem,q0,q3]))
    exact Ext.pure hw he (z15 _ rfl)
   ·repeat' (first|apply zA rfl|(apply zd_ rfl<;>intro ht<;>try omega)|((first|apply zB rfl|(apply zG<;>intro ht))<;>try simp (disch:=first|omega|simp only [lz,lw];try omega) only [go_sem,q0,q3,hg]))
    exact Ext.pure hw he (z15 _ rfl)
  ·have hst:=zy6 (m:=m) (by omega) hm
   have hc8:=z38 (n:=m%128+128) (by omega)
   have hor:((((m:Int)%128).toNat ||| 128:Nat):Int)=(((u8 (m%128+128)).toNat:Nat):Int):=by
    have:((m:Int)%128).toNat=m%128:=by omega
    rw [this,or128 (by omega),hc8]
   have hd2:(m:Int)/128=((m/128:Nat):Int):=by simp
   rw [hst,List.append_assoc]at hmb
   have hkk:∃k',k=k'+1:=by
    cases k with
    |zero=>simp at hmk;omega
    |succ k=>exact⟨k,rfl⟩
   obtain⟨k,rfl⟩:=hkk
   rw [Nat.pow_succ]at hmk
   generalize u8 (m%128+128)=c at*
   have hcat:[AV.int .u8 (c.toNat:Int)]::zy b=zy (c::b):=(zrb c b).symm
   have hlen:(zy b).length=b.length:=zo b
   rcases hv with rfl| ⟨r,hr,rfl,hg⟩
   ·repeat' (first|apply zA rfl|(apply zd_ rfl<;>intro ht<;>try omega)|((first|apply zB rfl|(apply zG<;>intro ht))<;>try simp (disch:=first|omega|simp only [lz,lw];try omega) only [go_sem,q0,q3,hor,hd2,hcat]))
    exact⟨k,by omega,m/128,c::b,_,by omega,by omega,hmb,by simp,by simp;omega,he.app,.inr ⟨O'.length,he.le,by simp [Nat.add_comm],by simp⟩,rfl,rfl⟩
   ·repeat' (first|apply zA rfl|(apply zd_ rfl<;>intro ht<;>try omega)|((first|apply zB rfl|(apply zG<;>intro ht))<;>try simp (disch:=first|omega|simp only [lz,lw];try omega) only [go_sem,q0,q3,hor,hd2,hcat,hg]))
    exact⟨k,by omega,m/128,c::b,_,by omega,by omega,hmb,by simp,by simp;omega,he.app,.inr ⟨O'.length,he.le,by simp [Nat.add_comm],by simp⟩,rfl,rfl⟩
def rdV:Option (Nat × List UInt8)->AV
 |none=> .tup [.int .u64 0,.str [],.bool false]
 |some (n,r)=> .tup [.int .u64 n,.str r,.bool true]
theorem zso(h:i<s.length):s.drop i=s.getD i 0::s.drop (i+1):=by
 rw [List.drop_eq_getElem_cons h]
 congr 1
 simp [h]
theorem z10m{c:Nat}(h:c<128):n*128 |||c=128*n+c:=by
 have:=Nat.two_pow_add_eq_or_of_lt (i:=7) (b:=c) h n
 simp at this
 rw [Nat.mul_comm n 128,this]
theorem z6i(O:Store)(s:List UInt8)(hs:s.length<1000000000):ACallsTo TC 145 [.str s] O (rdV (z1r s)) O:=by
 refine ACallsTo.of_body qqok (by simp) fun hw _=> ?_
 repeat' (first|apply zA rfl|(apply zd_ rfl<;>intro ht<;>try omega)|((first|apply zB rfl|(apply zG<;>intro ht))<;>try simp (disch:=first|omega|simp only [lz,lw];try omega) only [go_sem]))
 refine zW.loop (fun m J O'=>∃(i n:Nat),m+i=s.length/\ O'=O/\ n<18446744073709551616/\ z3u n (s.drop i)=z1r s/\ J 0=.str s/\ J 2=.int .u64 n/\ J 8=.int .i64 s.length/\ J 9=.int .i64 i) s.length ?_ ?_
 ·exact⟨0,0,by omega,rfl,by omega,rfl,by simp only [go_sem],by simp only [go_sem];rfl,by simp only [go_sem],by simp only [go_sem];rfl⟩
 ·rintro m J O' ⟨i,n,hm,rfl,hn,hp,q0,q2,q8,q9⟩
  by_cases hi:i<s.length
  ·have hdr:=zso hi
   generalize hc:s.getD i 0=c at*
   have hc8:=c.toNat_lt
   rw [hdr]at hp
   simp only [z3u]at hp
   by_cases h1:(n=0/\ c.toNat=128) \/144115188075855872<=n
   ·rw [if_pos h1]at hp
    rw [<-hp]
    unfold rdV
    by_cases h2:n=0
    ·subst h2
     have h3:c.toNat=128:=by omega
     have h3':(c.toNat:Int)=128:=by omega
     repeat' (first|apply zA rfl|(apply zd_ rfl<;>intro ht<;>try omega)|((first|apply zB rfl|(apply zG<;>intro ht))<;>try simp (disch:=first|omega|simp only [lz,lw];try omega) only [go_sem,q0,q2,q8,q9,hc,h3']))
     exact DownV.same hw (z15 _ rfl)
    ·have h2':¬(n:Int)=0:=by omega
     have h4:(n:Int)>=144115188075855872:=by omega
     repeat' (first|apply zA rfl|(apply zd_ rfl<;>intro ht<;>try omega)|((first|apply zB rfl|(apply zG<;>intro ht))<;>try simp (disch:=first|omega|simp only [lz,lw];try omega) only [go_sem,q0,q2,q8,q9,hc,h2',h4]))
     exact DownV.same hw (z15 _ rfl)
   ·rw [if_neg h1]at hp
    have hor:((n:Int)*128).toNat |||c.toNat%128=128*n+c.toNat%128:=by
     rw [show ((n:Int)*128).toNat=n*128 by omega,z10m (by omega)]
    have h4:¬(n:Int)>=144115188075855872:=by omega
    by_cases h5:c.toNat<128
    ·rw [if_pos h5]at hp
     rw [<-hp]
     unfold rdV
     have h5':(c.toNat:Int)<128:=by omega
     have hi1:(i:Int)+1=((i+1:Nat):Int):=by omega
     by_cases h2:n=0
     ·have h2':(n:Int)=0:=by omega
      have h3':¬(c.toNat:Int)=128:=by omega
      have hz:((0:Int)*128).toNat |||c.toNat%128=128*n+c.toNat%128:=by rw [h2];simp
      repeat' (first|apply zA rfl|(apply zd_ rfl<;>intro ht<;>try omega)|((first|apply zB rfl|(apply zG<;>intro ht))<;>try simp (disch:=first|omega|simp only [lz,lw];try omega) only [go_sem,q0,q2,q8,q9,hc,h2',h3',hz,h5',hi1]))
      exact DownV.same hw (z15 _ rfl)
     ·have h2':¬(n:Int)=0:=by omega
      repeat' (first|apply zA rfl|(apply zd_ rfl<;>intro ht<;>try omega)|((first|apply zB rfl|(apply zG<;>intro ht))<;>try simp (disch:=first|omega|simp only [lz,lw];try omega) only [go_sem,q0,q2,q8,q9,hc,h2',h4,hor,h5',hi1]))
      exact DownV.same hw (z15 _ rfl)
    ·rw [if_neg h5]at hp
     have h5':¬(c.toNat:Int)<128:=by omega
     by_cases h2:n=0
     ·have h2':(n:Int)=0:=by omega
      have h3':¬(c.toNat:Int)=128:=by omega
      have hz:((0:Int)*128).toNat |||c.toNat%128=128*n+c.toNat%128:=by rw [h2];simp
      repeat' (first|apply zA rfl|(apply zd_ rfl<;>intro ht<;>try omega)|((first|apply zB rfl|(apply zG<;>intro ht))<;>try simp (disch:=first|omega|simp only [lz,lw];try omega) only [go_sem,q0,q2,q8,q9,hc,h2',h3',hz,h5']))
      exact⟨m-1,by omega,i+1,128*n+c.toNat%128,by omega,by omega,hp,rfl,by simp⟩
     ·have h2':¬(n:Int)=0:=by omega
      repeat' (first|apply zA rfl|(apply zd_ rfl<;>intro ht<;>try omega)|((first|apply zB rfl|(apply zG<;>intro ht))<;>try simp (disch:=first|omega|simp only [lz,lw];try omega) only [go_sem,q0,q2,q8,q9,hc,h2',h4,hor,h5']))
      exact⟨m-1,by omega,i+1,128*n+c.toNat%128,by omega,by omega,hp,rfl,by simp⟩
  ·have hd:s.drop i=[]:=List.drop_of_length_le (by omega)
   rw [hd]at hp
   simp only [z3u]at hp
   rw [<-hp]
   unfold rdV
   repeat' (first|apply zA rfl|(apply zd_ rfl<;>intro ht<;>try omega)|((first|apply zB rfl|(apply zG<;>intro ht))<;>try simp (disch:=first|omega|simp only [lz,lw];try omega) only [go_sem,q2,q8,q9]))
   exact DownV.same hw (z15 _ rfl)
theorem zz9(hk:k<s.length)(hk9:k<=9)(h1:∀j,j<k->128<=(s.getD j 0).toNat)(h2:k<10->(s.getD k 0).toNat<128):
  z1r s=if numS (dval (s.take (k+1))%18446744073709551616)=s.take (k+1)then some (dval (s.take (k+1))%18446744073709551616,s.drop (k+1))else none:=by
 split
 ·rename_i h
  have:=z5a (n:=dval (s.take (k+1))%18446744073709551616) (by omega) (s.drop (k+1))
  rw [h,List.take_append_drop]at this
  exact this
 ·rename_i h
  cases hr:z1r s with
  |none=>rfl
  |some x=>
   obtain⟨n,rest⟩:=x
   exfalso
   obtain⟨hn,hs⟩:=z71 hr
   obtain⟨A,c,e,a1,a2,a3,a4⟩:=zez hn
   have hkA:k=A.length:=by
    rcases Nat.lt_trichotomy k A.length with hl|hl|hl
    ·exfalso
     have:(s.getD k 0)=A[k]:=by rw [hs,e];simp [List.getElem?_append,hl]
     have h3:=a1 _ (List.getElem_mem hl)
     have h4:=h2 (by omega)
     rw [this]at h4;omega
    ·exact hl
    ·exfalso
     have:(s.getD A.length 0)=c:=by rw [hs,e];simp
     have h3:=h1 A.length hl
     rw [this]at h3;omega
   have ht:s.take (k+1)=numS n:=by
    rw [hs,hkA,List.take_left' (by rw [e];simp)]
   rw [ht,a4,Nat.mod_eq_of_lt hn]at h
   exact h rfl
theorem zza(h1:∀j,j<k->128<=(s.getD j 0).toNat)(hk:s.length<=k \/9<k):z1r s=none:=by
 cases hr:z1r s with
 |none=>rfl
 |some x=>
  obtain⟨n,rest⟩:=x
  exfalso
  obtain⟨hn,hs⟩:=z71 hr
  obtain⟨A,c,e,a1,a2,a3,a4⟩:=zez hn
  have hl:A.length<s.length:=by rw [hs,e];simp
  have:(s.getD A.length 0)=c:=by rw [hs,e];simp
  have h3:=h1 A.length (by omega)
  rw [this]at h3;omega
theorem z63(O:Store)(s:List UInt8)(hs:s.length<1000000000):ACallsTo TC 119 [.str s] O (rdV (z1r s)) O:=by
 refine ACallsTo.of_body quok (by simp) fun hw _=> ?_
 repeat' (first|apply zA rfl|(apply zd_ rfl<;>intro ht<;>try omega)|((first|apply zB rfl|(apply zG<;>intro ht))<;>try simp (disch:=first|omega|simp only [lz,lw];try omega) only [go_sem]))
 refine zW.loop (fun m J O'=>∃k:Nat,m+k=s.length/\ k<=10/\ O'=O/\ (∀j,j<k->128<=(s.getD j 0).toNat)/\ J 0=.str s/\ J 5=.int .i64 k) s.length ?_ ?_
 ·exact⟨0,by omega,by omega,rfl,fun j hj=>by omega,by simp only [go_sem],by simp only [go_sem];rfl⟩
 ·rintro m J O' ⟨k,hm,hk10,rfl,hall,q0,q5⟩
  by_cases hgo:k<s.length/\ k<10/\ 128<=(s.getD k 0).toNat
  ·obtain⟨g1,g2,g3⟩:=hgo
   generalize hc:s.getD k 0=c at*
   have g3':(c.toNat:Int)>=128:=by omega
   repeat' (first|apply zA rfl|(apply zd_ rfl<;>intro ht<;>try omega)|((first|apply zB rfl|(apply zG<;>intro ht))<;>try simp (disch:=first|omega|simp only [lz,lw];try omega) only [go_sem,q0,q5,hc,g3']))
   refine⟨m-1,by omega,k+1,by omega,by omega,fun j hj=> ?_,by simp⟩
   rcases Nat.lt_or_ge j k with h|h
   ·exact hall j h
   ·have:j=k:=by omega
    subst this;rw [hc];exact g3
  ·by_cases hend:s.length<=k \/9<k
   ·rw [zza hall hend]
    unfold rdV
    have hlast:k<s.length->k<10->¬((s.getD k 0).toNat:Int)>=128:=fun a b c=>hgo ⟨a,b,by omega⟩
    rcases Nat.lt_or_ge k s.length with h|h
    ·have h10:¬(k:Int)<10:=by omega
     repeat' (first|apply zA rfl|(apply zd_ rfl<;>intro ht<;>try omega)|((first|apply zB rfl|(apply zG<;>intro ht))<;>try simp (disch:=first|omega|simp only [lz,lw];try omega) only [go_sem,q0,q5,h10]))
     exact DownV.same hw (z15 _ rfl)
    ·repeat' (first|apply zA rfl|(apply zd_ rfl<;>intro ht<;>try omega)|((first|apply zB rfl|(apply zG<;>intro ht))<;>try simp (disch:=first|omega|simp only [lz,lw];try omega) only [go_sem,q0,q5]))
     exact DownV.same hw (z15 _ rfl)
   ·have hkl:k<s.length:=by omega
    have hlt:(s.getD k 0).toNat<128:=by
     rcases Nat.lt_or_ge (s.getD k 0).toNat 128 with h|h
     ·exact h
     ·exact absurd ⟨hkl,by omega,h⟩ hgo
    rw [zz9 hkl (by omega) hall (fun _=>hlt)]
    generalize hc:s.getD k 0=c at*
    have hlt':¬(c.toNat:Int)>=128:=by omega
    have hk1:(k:Int)+1=((k+1:Nat):Int):=by omega
    repeat' (first|apply zA rfl|(apply zd_ rfl<;>intro ht<;>try omega)|((first|apply zB rfl|(apply zG<;>intro ht))<;>try simp (disch:=first|omega|simp only [lz,lw];try omega) only [go_sem,q0,q5,hc,hlt']))
    refine zW.loop (fun m J O2=>∃i:Nat,m+i=k+1/\ O2=O'/\ J 0=.str s/\ J 5=.int .i64 k/\ J 6=.int .u64 ((dval (s.take i)%18446744073709551616:Nat):Int)/\ J 7=.int .i64 i) (k+1) ?_ ?_
    ·refine⟨0,by omega,rfl,?_,?_,?_,?_⟩<;>simp (disch:=first|omega|simp only [lz,lw];try omega) only [go_sem,q0,q5]<;>rfl
    ·rintro m2 J2 O2 ⟨i,hmi,rfl,z0,z5,z6,z7⟩
     by_cases hik:i<=k
     ·have htk:s.take (i+1)=s.take i++ [s.getD i 0]:=by
       rw [<-List.take_append_getElem (by omega:i<s.length)];simp [show i<s.length by omega]
      have hdv:=ze0 (s.take i) (s.getD i 0)
      rw [<-htk]at hdv
      generalize hci:s.getD i 0=d at*
      have hd8:=d.toNat_lt
      generalize dval (s.take i)=D at*
      have hw1:(((D%18446744073709551616:Nat):Int)*128)%18446744073709551616=((D*128%18446744073709551616:Nat):Int):=by omega
      repeat' (first|apply zA rfl|(apply zd_ rfl<;>intro ht<;>try omega)|((first|apply zB rfl|(apply zG<;>intro ht))<;>try simp (disch:=first|omega|simp only [lz,lw];try omega) only [go_sem,z0,z5,z6,z7,hci,hw1]))
      exact⟨m2-1,by omega,i+1,by omega,by rw [hdv];congr 1;omega,by simp⟩
     ·obtain rfl:i=k+1:=by omega
      have hN:=fun O=>z62 O (dval (s.take (k+1))%18446744073709551616) (by omega)
      generalize dval (s.take (k+1))%18446744073709551616=N at*
      by_cases he:numS N=s.take (k+1)
      ·rw [if_pos he]
       unfold rdV
       repeat' (first|apply zA rfl|(apply zd_ rfl<;>intro ht<;>try omega)|((first|apply zB rfl|(apply callW.mk_pu;exact(fun _=>hN _))|(apply callW.za;exact(hN _))|(apply zG<;>intro ht))<;>try simp (disch:=first|omega|simp only [lz,lw];try omega) only [go_sem,z0,z5,z6,z7,hk1,he]))
       exact DownV.same hw (z15 _ rfl)
      ·rw [if_neg he]
       unfold rdV
       have hbq:(numS N==s.take (k+1))=false:=beq_false_of_ne he
       repeat' (first|apply zA rfl|(apply zd_ rfl<;>intro ht<;>try omega)|((first|apply zB rfl|(apply callW.mk_pu;exact(fun _=>hN _))|(apply callW.za;exact(hN _))|(apply zG<;>intro ht))<;>try simp (disch:=first|omega|simp only [lz,lw];try omega) only [go_sem,z0,z5,z6,z7,hk1,hbq]))
       exact DownV.same hw (z15 _ rfl)
def z3g(s:List UInt8)(n:Nat):Option (List UInt8 × List UInt8):=if n<=s.length then some (s.take n,s.drop n)else none
def stV:Option (List UInt8 × List UInt8)->AV
 |none=> .tup [.str [],.str [],.bool false]
 |some (a,r)=> .tup [.str a,.str r,.bool true]
def cutS(s:List UInt8):Option (List UInt8 × List UInt8):=(z1r s).bind fun x=>z3g x.2 x.1
def z23(s:List UInt8):List UInt8:=numS s.length++s
theorem z1u(n:Nat):(numS n).length<=11:=by
 unfold numS
 split
 ·simp
 ·have:∀f m,(z2k f m).length<=f:=by
   intro f
   induction f with
   |zero=>intro m;simp [z2k]
   |succ f ih=>
    intro m
    rw [zau]
    split
    ·simp
    ·have:=ih (m/128);simp;omega
  have:=this 10 (n/128)
  simp;omega
theorem z4h{r:List UInt8}(h:z1r s=some (n,r)):n<18446744073709551616/\ r.length<s.length:=by
 obtain⟨h1,h2⟩:=z71 h
 obtain⟨A,c,e,_⟩:=zez h1
 refine⟨h1,?_⟩
 rw [h2,e];simp;omega
theorem zdu(O:Store)(s:List UInt8)(hs:s.length<1000000000):ACallsTo TC 129 [.str s] O (.str (z23 s)) O:=by
 refine ACallsTo.of_body qzok (by simp) fun hw _=> ?_
 have hN:=fun O=>z6h O s.length (by omega)
 have h1:=z1u s.length
 unfold z23
 generalize numS s.length=N at*
 repeat' (first|apply zA rfl|(apply zd_ rfl<;>intro ht<;>try omega)|((first|apply zB rfl|(apply callW.mk_pu;exact(fun _=>hN _))|(apply callW.za;exact(hN _))|(apply zG<;>intro ht))<;>try simp (disch:=first|omega|simp only [lz,z8,zn,lQr,zo,zw];try omega) only [go_sem]))
 exact DownV.same hw (z15 _ rfl)
theorem zn9(O:Store)(s:List UInt8)(hs:s.length<1000000000):ACallsTo TC 124 [.str s] O (.str (z23 s)) O:=by
 refine ACallsTo.of_body qook (by simp) fun hw _=> ?_
 have hN:=fun O=>z62 O s.length (by omega)
 have h1:=z1u s.length
 unfold z23
 generalize numS s.length=N at*
 repeat' (first|apply zA rfl|(apply zd_ rfl<;>intro ht<;>try omega)|((first|apply zB rfl|(apply callW.mk_pu;exact(fun _=>hN _))|(apply callW.za;exact(hN _))|(apply zG<;>intro ht))<;>try simp (disch:=first|omega|simp only [lz,z8,zn,lQr,zo,zw];try omega) only [go_sem]))
 exact DownV.same hw (z15 _ rfl)
theorem zoq(O:Store)(s:List UInt8)(n:Nat)(hs:s.length<1000000000)(hn:n<18446744073709551616):ACallsTo TC 161 [.str s,.int .u64 n] O (stV (z3g s n)) O:=by
 refine ACallsTo.of_body q12ok (by simp) fun hw _=> ?_
 by_cases h:n<=s.length
 ·unfold z3g
  rw [if_pos h]
  unfold stV
  repeat' (first|apply zA rfl|(apply zd_ rfl<;>intro ht<;>try omega)|((first|apply zB rfl|(apply zG<;>intro ht))<;>try simp (disch:=first|omega|simp only [lz,z8,zn,lQr,zo,zw];try omega) only [go_sem]))
  exact DownV.same hw (z15 _ rfl)
 ·unfold z3g
  rw [if_neg h]
  unfold stV
  repeat' (first|apply zA rfl|(apply zd_ rfl<;>intro ht<;>try omega)|((first|apply zB rfl|(apply zG<;>intro ht))<;>try simp (disch:=first|omega|simp only [lz,z8,zn,lQr,zo,zw];try omega) only [go_sem]))
  exact DownV.same hw (z15 _ rfl)
theorem zdt(O:Store)(s:List UInt8)(hs:s.length<1000000000):ACallsTo TC 143 [.str s] O (stV (cutS s)) O:=by
 refine ACallsTo.of_body qsok (by simp) fun hw _=> ?_
 have hR:=fun O=>z6i O s hs
 unfold cutS
 cases hr:z1r s with
 |none=>
  rw [hr]at hR
  unfold rdV at hR
  unfold stV
  repeat' (first|apply zA rfl|(apply zd_ rfl<;>intro ht<;>try omega)|((first|apply zB rfl|(apply callW.mk_pu;exact(fun _=>hR _))|(apply callW.za;exact(hR _))|(apply zG<;>intro ht))<;>try simp (disch:=first|omega|simp only [lz,z8,zn,lQr,zo,zw];try omega) only [go_sem]))
  exact DownV.same hw (z15 _ rfl)
 |some x=>
  obtain⟨n,r⟩:=x
  obtain⟨h1,h2⟩:=z4h hr
  rw [hr]at hR
  unfold rdV at hR
  have hT:=fun O=>zoq O r n (by omega) h1
  simp only [Option.bind_some]
  unfold stV at hT ⊢
  cases ht:z3g r n with
  |none=>
   rw [ht]at hT
   repeat' (first|apply zA rfl|(apply zd_ rfl<;>intro ht<;>try omega)|((first|apply zB rfl|(apply callW.mk_pu;(first|exact(fun _=>hR _)|exact(fun _=>hT _)))|(apply callW.za;(first|exact(hR _)|exact(hT _)))|(apply zG<;>intro ht))<;>try simp (disch:=first|omega|simp only [lz,z8,zn,lQr,zo,zw];try omega) only [go_sem]))
   exact DownV.same hw (z15 _ rfl)
  |some y=>
   rw [ht]at hT
   repeat' (first|apply zA rfl|(apply zd_ rfl<;>intro ht<;>try omega)|((first|apply zB rfl|(apply callW.mk_pu;(first|exact(fun _=>hR _)|exact(fun _=>hT _)))|(apply callW.za;(first|exact(hR _)|exact(hT _)))|(apply zG<;>intro ht))<;>try simp (disch:=first|omega|simp only [lz,z8,zn,lQr,zo,zw];try omega) only [go_sem]))
   exact DownV.same hw (z15 _ rfl)
theorem zg9(O:Store)(s:List UInt8)(hs:s.length<1000000000):ACallsTo TC 120 [.str s] O (stV (cutS s)) O:=by
 refine ACallsTo.of_body qwok (by simp) fun hw _=> ?_
 have hR:=fun O=>z63 O s hs
 unfold cutS
 cases hr:z1r s with
 |none=>
  rw [hr]at hR
  unfold rdV at hR
  unfold stV
  repeat' (first|apply zA rfl|(apply zd_ rfl<;>intro ht<;>try omega)|((first|apply zB rfl|(apply callW.mk_pu;exact(fun _=>hR _))|(apply callW.za;exact(hR _))|(apply zG<;>intro ht))<;>try simp (disch:=first|omega|simp only [lz,z8,zn,lQr,zo,zw];try omega) only [go_sem]))
  exact DownV.same hw (z15 _ rfl)
 |some x=>
  obtain⟨n,r⟩:=x
  obtain⟨h1,h2⟩:=z4h hr
  rw [hr]at hR
  unfold rdV at hR
  simp only [Option.bind_some]
  unfold z3g
  by_cases h:n<=r.length
  ·rw [if_pos h]
   unfold stV
   repeat' (first|apply zA rfl|(apply zd_ rfl<;>intro ht<;>try omega)|((first|apply zB rfl|(apply callW.mk_pu;exact(fun _=>hR _))|(apply callW.za;exact(hR _))|(apply zG<;>intro ht))<;>try simp (disch:=first|omega|simp only [lz,z8,zn,lQr,zo,zw];try omega) only [go_sem]))
   exact DownV.same hw (z15 _ rfl)
  ·rw [if_neg h]
   unfold stV
   repeat' (first|apply zA rfl|(apply zd_ rfl<;>intro ht<;>try omega)|((first|apply zB rfl|(apply callW.mk_pu;exact(fun _=>hR _))|(apply callW.za;exact(hR _))|(apply zG<;>intro ht))<;>try simp (disch:=first|omega|simp only [lz,z8,zn,lQr,zo,zw];try omega) only [go_sem]))
   exact DownV.same hw (z15 _ rfl)
def toH(l:List UInt8):Hash:=if h:l.length=32 then⟨l,h⟩else zeroH
theorem zkh{l:List UInt8}(h:l.length=32):hc (toH l)=z11 l:=by simp [toH,h,hc]
theorem zha(h:Hash):toH h.1=h:=by simp [toH,h.2]
def unS(s:List UInt8):Option (Hash × List UInt8):=(z3g s 32).map fun x=>(toH x.1,x.2)
def unV:Option (Hash × List UInt8)->AV
 |none=> .tup [.agg (hc zeroH),.str [],.bool false]
 |some (h,r)=> .tup [.agg (hc h),.str r,.bool true]
theorem za6(h:¬32<=s.length):unS s=none:=by simp [unS,z3g,h]
theorem z6b(h:32<=s.length):unS s=some (toH (s.take 32),s.drop 32):=by simp [unS,z3g,h]
theorem z8h(h:Hash)(r:List UInt8):unV (some (h,r))=.tup [.agg (hc h),.str r,.bool true]:=rfl
theorem zhl:unV none=.tup [.agg z32,.str [],.bool false]:=rfl
theorem zcq{r:List UInt8}{b:Bool}(h:RLs k cs):RL k (.tup [.agg cs,.str r,.bool b]):=by
 simp only [RL,RLs];exact⟨h,trivial,trivial,trivial⟩
theorem zpb:z32.length=32:=rfl
theorem z7m(O:Store)(s:List UInt8)(hs:s.length<1000000000):ACallsTo TC 146 [.str s] O (unV (unS s)) O:=by
 refine ACallsTo.of_body qrok (by simp) fun hw _=> ?_
 have hT:=fun O=>zoq O s 32 hs (by omega)
 by_cases h:32<=s.length
 ·rw [z6b h]
  rw [z8h,zkh (by simp;omega)]
  have ht:z3g s 32=some (s.take 32,s.drop 32):=by simp [z3g,h]
  rw [ht]at hT
  unfold stV at hT
  have hl:(s.take 32).length=32:=by simp;omega
  generalize s.take 32=a at*
  have hf:=zip a
  have hft:(zy a).take 32=zy a:=List.take_of_length_le (by rw [zo];omega)
  have hfc:(z11 a).length=32:=by rw [zw];exact hl
  have hfd:(z11 a).drop 32=[]:=List.drop_of_length_le (by omega)
  have hfk:(z11 a).take 32=z11 a:=List.take_of_length_le (by omega)
  repeat' (first|apply zA rfl|(apply zd_ rfl<;>intro ht<;>try omega)|((first|apply zB rfl|(apply callW.mk_pu;exact(fun _=>hT _))|(apply callW.za;exact(hT _))|(apply zG<;>intro ht))<;>try simp (disch:=first|omega|simp only [lz,z8,zn,lQr,zo,zw];try omega) only [go_sem,hf,hft,hl,hfc,hfd,hfk,List.append_nil]))
  exact DownV.pure hw (zcq (z3d _))
 ·rw [za6 h,zhl]
  have ht:z3g s 32=none:=by simp [z3g,h]
  rw [ht]at hT
  unfold stV at hT
  have hbe:(zy []).flatten=([]:List AV):=rfl
  repeat' (first|apply zA rfl|(apply zd_ rfl<;>intro ht<;>try omega)|((first|apply zB rfl|(apply callW.mk_pu;exact(fun _=>hT _))|(apply callW.za;exact(hT _))|(apply zG<;>intro ht))<;>try simp (disch:=first|omega|simp only [lz,z8,zn,lQr,zo,zw];try omega) only [go_sem,hbe,List.nil_append,List.drop_zero]))
  exact DownV.pure hw (zcq (cs:=z32) (z3d (List.replicate 32 0)))
def z4z(s:List UInt8)(i:Nat):List AV:=z11 (s.take i)++List.replicate (32-i) (.int .u8 0)
theorem z134(h:i<=32)(hs:32<=s.length):(z4z s i).length=32:=by simp [z4z,zw];omega
theorem z135(h:i<32)(hs:32<=s.length):
  (z4z s i).take i++AV.int .u8 (s.getD i 0).toNat::(z4z s i).drop (i+1)=z4z s (i+1):=by
 have h1:(z11 (s.take i)).length=i:=by rw [zw,List.length_take];omega
 have hs2:s.take (i+1)=s.take i++ [s.getD i 0]:=by
  rw [<-List.take_append_getElem (by omega:i<s.length)];simp [show i<s.length by omega]
 unfold z4z
 rw [List.take_append_of_le_length (by omega),List.take_of_length_le (by omega),List.drop_append,List.drop_of_length_le (by omega),h1,show i+1-i=1 by omega,List.nil_append,hs2]
 rw [List.drop_replicate,show 32-i-1=32-(i+1)by omega]
 simp [z11]
theorem z133:z4z s 32=z11 (s.take 32):=by simp [z4z]
theorem z9t(O:Store)(s:List UInt8)(hs:s.length<1000000000):ACallsTo TC 122 [.str s] O (unV (unS s)) O:=by
 refine ACallsTo.of_body qvok (by simp) fun hw _=> ?_
 by_cases h:32<=s.length
 ·rw [z6b h]
  rw [z8h,zkh (by simp;omega)]
  repeat' (first|apply zA rfl|(apply zd_ rfl<;>intro ht<;>try omega)|((first|apply zB rfl|(apply zG<;>intro ht))<;>try simp (disch:=first|omega|simp only [lz,z8,zn,lQr,zo,zw];try omega) only [go_sem]))
  refine zW.loop (fun m J O'=>∃i:Nat,m+i=32/\ J 0=.str s/\ J 2=.ptr O.length 0 0/\ J 5=.ptr (O.length+1) 0 0/\ J 6=.int .i64 i/\ O'=O++ [some [z32],some [z4z s i]]) 32 ?_ ?_
  ·exact⟨0,by omega,by simp only [go_sem],by simp only [go_sem],by simp only [go_sem],by simp only [go_sem];rfl,rfl⟩
  ·rintro m J O' ⟨i,hm,q0,q2,q5,q6,rfl⟩
   have hlen:=z134 (s:=s) (i:=i) (by omega) h
   by_cases hi:i<32
   ·have hst:=z135 hi h
    generalize z4z s i=cc at*
    repeat' (first|apply zA rfl|(apply zd_ rfl<;>intro ht<;>try omega)|((first|apply zB rfl|(apply zG<;>intro ht))<;>try simp (disch:=first|omega|simp only [lz,z8,zn,lQr,zo,zw];try omega) only [go_sem,q0,q2,q5,q6,hlen,hst]))
    exact⟨31-i,by omega,i+1,by omega,by simp,rfl⟩
   ·obtain rfl:i=32:=by omega
    rw [z133]at*
    have hd:List.drop 32 z32=[]:=rfl
    repeat' (first|apply zA rfl|(apply zd_ rfl<;>intro ht<;>try omega)|((first|apply zB rfl|(apply zG<;>intro ht))<;>try simp (disch:=first|omega|simp only [lz,z8,zn,lQr,zo,zw];try omega) only [go_sem,q0,q2,q5,q6,hlen,hd,zpb]))
    exact DownV.pure hw (zcq (z3d _))
 ·rw [za6 h,zhl]
  repeat' (first|apply zA rfl|(apply zd_ rfl<;>intro ht<;>try omega)|((first|apply zB rfl|(apply zG<;>intro ht))<;>try simp (disch:=first|omega|simp only [lz,z8,zn,lQr,zo,zw];try omega) only [go_sem]))
  exact DownV.pure hw (zcq (cs:=z32) (z3d (List.replicate 32 0)))
def hsAt(r:List UInt8)(i:Nat):Hash:=toH ((r.drop (32*i)).take 32)
def hsOf(r:List UInt8)(n:Nat):List Hash:=(List.range n).map (hsAt r)
theorem zei(r:List UInt8)(n:Nat):(hsOf r n).length=n:=by simp [hsOf]
theorem zbh(r:List UInt8)(n:Nat):hsOf r (n+1)=hsOf r n++ [hsAt r n]:=by simp [hsOf,List.range_succ]
def unsS(s:List UInt8):Option (List Hash × List UInt8):=(z1r s).bind fun x=>if x.1<=64/\ 32*x.1<=x.2.length then some (hsOf x.2 x.1,x.2.drop (32*x.1))else none
def unsV:Option (List Hash × List UInt8)->AV
 |none=> .tup [.nilsl,.str [],.bool false]
 |some (l,r)=> .tup [zz 32 (hr l),.str r,.bool true]
theorem z82{r:List UInt8}{b:Bool}:RL k (.tup [.nilsl,.str r,.bool b]):=by simp only [RL,RLs];exact⟨trivial,trivial,trivial,trivial⟩
theorem un_at{r:List UInt8}(h:32*i+32<=r.length):unS (r.drop (32*i))=some (hsAt r i,r.drop (32*(i+1))):=by
 rw [z6b (by rw [List.length_drop];omega),List.drop_drop];rfl
theorem lu:(∀(h:Hash),(hc h).length=32)/\ (∀(l:List Hash),(hr l).length=l.length)/\ (∀{α:Type}{l:List α},l.reverse.length=l.length)/\ (∀(s:List UInt8),(zy s).length=s.length)/\ (∀(l:List UInt8),(z11 l).length=l.length)/\ (∀{α:Type}{i:Nat}{l:List α},(l.drop i).length=l.length-i):=⟨@z8,@zn,by simp,@zo,@zw,by simp⟩
theorem zjd(O:Store)(s:List UInt8)(hs:s.length<1000000000):ACallsTo TC 162 [.str s] O (unsV (unsS s)) O:=by
 refine ACallsTo.of_body qtok (by simp) fun hw _=> ?_
 have hR:=fun O=>z6i O s hs
 unfold unsS
 cases hrd:z1r s with
 |none=>
  rw [hrd]at hR
  unfold rdV at hR
  simp only [Option.bind_none,unsV]
  repeat' (first|apply zA rfl|(apply zd_ rfl<;>intro ht<;>try omega)|((first|apply zB rfl|(apply callW.mk_pu;exact(fun _=>hR _))|(apply callW.za;exact(hR _))|(apply zG<;>intro ht))<;>try simp (disch:=first|omega|simp only [lz,lu];try omega) only [go_sem]))
  exact DownV.same hw z82
 |some x=>
  obtain⟨n,r⟩:=x
  obtain⟨h1,h2⟩:=z4h hrd
  rw [hrd]at hR
  unfold rdV at hR
  simp only [Option.bind_some]
  by_cases hn:n<=64
  ·repeat' (first|apply zA rfl|(apply zd_ rfl<;>intro ht<;>try omega)|((first|apply zB rfl|(apply callW.mk_pu;exact(fun _=>hR _))|(apply callW.za;exact(hR _))|(apply zG<;>intro ht))<;>try simp (disch:=first|omega|simp only [lz,lu];try omega) only [go_sem]))
   refine zW.loop (fun m J O'=>∃(i:Nat) (v:AV),m+i=n/\ 32*i<=r.length/\ OwnR 32 O.length O' v (hr (hsOf r i))/\ Ext O O'/\ J 2=v/\ J 3=.str (r.drop (32*i))/\ J 5=.int .u64 m) n ?_ ?_
   ·exact⟨0,.nilsl,by omega,by omega,OwnR.nil,Ext.refl _,by simp only [go_sem],by simp only [go_sem],by simp only [go_sem]⟩
   ·rintro m J O' ⟨i,v,hm,hir,hO,he,q2,q3,q5⟩
    have hle:=he.le
    by_cases hi:i<n
    ·by_cases hlen:32*i+32<=r.length
     ·have hU:=fun O=>z7m O (r.drop (32*i)) (by rw [List.length_drop];omega)
      rw [un_at hlen,z8h]at hU
      have hss:=zbh r i
      generalize hsAt r i=h at*
      obtain⟨v',O2,ha,hO2,hk2,hE2,hl2⟩:=(hO.more (y:=[some [hc h]])).app (ys:=[hc h]) (by simp;omega) (by simp) (by rw [zn,zei];simp;omega)
      have hcat:hr (hsOf r i)++ [hc h]=hr (hsOf r (i+1)):=by rw [hss,zkk];rfl
      rw [hcat]at hO2
      have hm1:(m:Int)-1=((m-1:Nat):Int):=by omega
      repeat' (first|apply zA rfl|(apply zd_ rfl<;>intro ht<;>try omega)|((first|apply zB rfl|(apply callW.mk_pu;exact(fun _=>hU _))|(apply callW.za;exact(hU _))|(apply zG<;>intro ht))<;>try simp (disch:=first|omega|simp only [lz,lu];try omega) only [go_sem,q2,q3,q5,ha,hm1]))
      exact⟨m-1,by omega,i+1,v',by omega,by omega,hO2,hE2 O (Nat.le_refl _) he.app,by simp⟩
     ·have hU:=fun O=>z7m O (r.drop (32*i)) (by rw [List.length_drop];omega)
      rw [za6 (by rw [List.length_drop];omega),zhl]at hU
      rw [if_neg (by omega)]
      simp only [unsV]
      have hzl:=zpb
      generalize z32=z at*
      repeat' (first|apply zA rfl|(apply zd_ rfl<;>intro ht<;>try omega)|((first|apply zB rfl|(apply callW.mk_pu;exact(fun _=>hU _))|(apply callW.za;exact(hU _))|(apply zG<;>intro ht))<;>try simp (disch:=first|omega|simp only [lz,lu];try omega) only [go_sem,q2,q3,q5,hzl]))
      exact Ext.pure hw he.app z82
    ·obtain rfl:i=n:=by omega
     obtain rfl:m=0:=by omega
     rw [if_pos ⟨hn,hir⟩]
     simp only [unsV]
     repeat' (first|apply zA rfl|(apply zd_ rfl<;>intro ht<;>try omega)|((first|apply zB rfl|(apply zG<;>intro ht))<;>try simp (disch:=first|omega|simp only [lz,lu];try omega) only [go_sem,q2,q3,q5]))
     exact Ext.all hw he fun news e=>drT (drsc (hO.fr e (Nat.le_refl _) (z3e _)) (drsc (FrzD.same z40) (drs1 (FrzD.same z1k))))
  ·rw [if_neg (by omega)]
   simp only [unsV]
   repeat' (first|apply zA rfl|(apply zd_ rfl<;>intro ht<;>try omega)|((first|apply zB rfl|(apply callW.mk_pu;exact(fun _=>hR _))|(apply callW.za;exact(hR _))|(apply zG<;>intro ht))<;>try simp (disch:=first|omega|simp only [lz,lu];try omega) only [go_sem]))
   exact DownV.same hw z82
theorem zna(O:Store)(s:List UInt8)(hs:s.length<1000000000):ACallsTo TC 149 [.str s] O (unsV (unsS s)) O:=by
 refine ACallsTo.of_body qxok (by simp) fun hw _=> ?_
 have hR:=fun O=>z63 O s hs
 unfold unsS
 cases hrd:z1r s with
 |none=>
  rw [hrd]at hR
  unfold rdV at hR
  simp only [Option.bind_none,unsV]
  repeat' (first|apply zA rfl|(apply zd_ rfl<;>intro ht<;>try omega)|((first|apply zB rfl|(apply callW.mk_pu;exact(fun _=>hR _))|(apply callW.za;exact(hR _))|(apply zG<;>intro ht))<;>try simp (disch:=first|omega|simp only [lz,lu];try omega) only [go_sem]))
  exact DownV.same hw z82
 |some x=>
  obtain⟨n,r⟩:=x
  obtain⟨h1,h2⟩:=z4h hrd
  rw [hrd]at hR
  unfold rdV at hR
  simp only [Option.bind_some]
  by_cases hn:n<=64/\ 32*n<=r.length
  ·obtain⟨hn1,hn2⟩:=hn
   rw [if_pos ⟨hn1,hn2⟩]
   simp only [unsV]
   repeat' (first|apply zA rfl|(apply zd_ rfl<;>intro ht<;>try omega)|((first|apply zB rfl|(apply callW.mk_pu;exact(fun _=>hR _))|(apply callW.za;exact(hR _))|(apply zG<;>intro ht))<;>try simp (disch:=first|omega|simp only [lz,lu];try omega) only [go_sem]))
   refine zW.loop (fun m J O'=>∃(i:Nat) (v:AV),m+i=n/\ OwnR 32 O.length O' v (hr (hsOf r i))/\ Ext O O'/\ J 5=.int .u64 n/\ J 6=.str (r.drop (32*i))/\ J 8=v/\ J 9=.int .i64 i) n ?_ ?_
   ·exact⟨0,.nilsl,by omega,OwnR.nil,Ext.refl _,by simp only [go_sem],by simp only [go_sem],by simp only [go_sem],by simp only [go_sem];rfl⟩
   ·rintro m J O' ⟨i,v,hm,hO,he,q5,q6,q8,q9⟩
    have hle:=he.le
    by_cases hi:i<n
    ·have hU:=fun O=>z9t O (r.drop (32*i)) (by rw [List.length_drop];omega)
     rw [un_at (by omega),z8h]at hU
     have hss:=zbh r i
     generalize hsAt r i=h at*
     obtain⟨v',O2,ha,hO2,hk2,hE2,hl2⟩:=(hO.more (y:=[some [hc h]])).app (ys:=[hc h]) (by simp;omega) (by simp) (by rw [zn,zei];simp;omega)
     have hcat:hr (hsOf r i)++ [hc h]=hr (hsOf r (i+1)):=by rw [hss,zkk];rfl
     rw [hcat]at hO2
     repeat' (first|apply zA rfl|(apply zd_ rfl<;>intro ht<;>try omega)|((first|apply zB rfl|(apply callW.mk_pu;exact(fun _=>hU _))|(apply callW.za;exact(hU _))|(apply zG<;>intro ht))<;>try simp (disch:=first|omega|simp only [lz,lu];try omega) only [go_sem,q5,q6,q8,q9,ha]))
     exact⟨m-1,by omega,i+1,v',by omega,hO2,hE2 O (Nat.le_refl _) he.app,by simp⟩
    ·obtain rfl:i=n:=by omega
     repeat' (first|apply zA rfl|(apply zd_ rfl<;>intro ht<;>try omega)|((first|apply zB rfl|(apply zG<;>intro ht))<;>try simp (disch:=first|omega|simp only [lz,lu];try omega) only [go_sem,q5,q6,q8,q9]))
     exact Ext.all hw he fun news e=>drT (drsc (hO.fr e (Nat.le_refl _) (z3e _)) (drsc (FrzD.same z40) (drs1 (FrzD.same z1k))))
  ·rw [if_neg hn]
   simp only [unsV]
   by_cases hn1:n<=64
   ·repeat' (first|apply zA rfl|(apply zd_ rfl<;>intro ht<;>try omega)|((first|apply zB rfl|(apply callW.mk_pu;exact(fun _=>hR _))|(apply callW.za;exact(hR _))|(apply zG<;>intro ht))<;>try simp (disch:=first|omega|simp only [lz,lu];try omega) only [go_sem]))
    exact DownV.same hw z82
   ·repeat' (first|apply zA rfl|(apply zd_ rfl<;>intro ht<;>try omega)|((first|apply zB rfl|(apply callW.mk_pu;exact(fun _=>hR _))|(apply callW.za;exact(hR _))|(apply zG<;>intro ht))<;>try simp (disch:=first|omega|simp only [lz,lu];try omega) only [go_sem]))
    exact DownV.same hw z82
def catS(l:List Hash):List UInt8:=(l.map (·.1)).flatten
def z2v(l:List Hash):List UInt8:=if 64<l.length then []else numS l.length++catS l
theorem z45:∀(l:List Hash),(catS l).length=32*l.length
 | []=>rfl
 |h::l=>by
  have:=z45 l
  simp only [catS,List.map_cons,List.flatten_cons,List.length_append,List.length_cons,h.2]at this ⊢
  omega
theorem zb7{l:List Hash}(h:i<l.length):catS (l.take (i+1))=catS (l.take i)++(hd l i).1:=by
 rw [z5e h];simp [catS]
theorem zzk(O:Store)(l:List Hash)(x:AV)(hx:SlV 32 (hr l) x)(hl:l.length<1000000):ACallsTo TC 150 [x] O (.str (z2v l)) O:=by
 refine ACallsTo.of_body qpok (by simp) fun hw _=> ?_
 have r1:=hx.len
 rw [zn]at r1
 unfold z1f at r1
 unfold z2v
 by_cases h64:64<l.length
 ·rw [if_pos h64]
  repeat' (first|apply zA rfl|(apply zd_ rfl<;>intro ht<;>try omega)|((first|apply zB rfl|(apply zG<;>intro ht))<;>try simp (disch:=first|omega|simp only [lz,lu];try omega) only [go_sem,r1]))
  exact DownV.same hw z40
 ·rw [if_neg h64]
  have hN:=fun O=>z62 O l.length (by omega)
  have hNl:=z1u l.length
  generalize numS l.length=N at*
  repeat' (first|apply zA rfl|(apply zd_ rfl<;>intro ht<;>try omega)|((first|apply zB rfl|(apply callW.mk_pu;exact(fun _=>hN _))|(apply callW.za;exact(hN _))|(apply zG<;>intro ht))<;>try simp (disch:=first|omega|simp only [lz,lu];try omega) only [go_sem,r1]))
  refine zW.loop (fun m J O'=>∃i:Nat,m+i=l.length/\ O'=O/\ J 0=x/\ J 3=.str (N++catS (l.take i))/\ J 4=.int .i64 i) l.length ?_ ?_
  ·exact⟨0,by omega,rfl,by simp only [go_sem],by simp only [go_sem];simp [catS],by simp only [go_sem];rfl⟩
  ·rintro m J O' ⟨i,hm,rfl,q0,q3,q4⟩
   by_cases hi:i<l.length
   ·obtain⟨e1,rfl⟩:=hx.vsl (by rw [zn];omega)
    have hH:=fun O=>z73 O (hd l i).1 (hd l i).2
    have hst:=zb7 hi
    have hcl:=z45 (l.take i)
    rw [List.length_take]at hcl
    have hcl2:=(hd l i).2
    have hmin:min i l.length=i:=by omega
    rw [hmin]at hcl
    unfold hc at*
    generalize hC:catS (l.take i)=C at*
    repeat' (first|apply zA rfl|(apply zd_ rfl<;>intro ht<;>try omega)|((first|apply zB rfl|(apply callW.mk_pu;exact(fun _=>hH _))|(apply callW.za;exact(hH _))|(apply zG<;>intro ht))<;>try simp (disch:=first|omega|simp only [lz,lu];try omega) only [go_sem,q0,q3,q4,hc]))
    exact⟨m-1,by omega,i+1,by omega,by rw [hst],by simp⟩
   ·have e:l.take i=l:=List.take_of_length_le (by omega)
    rw [e]at q3
    repeat' (first|apply zA rfl|(apply zd_ rfl<;>intro ht<;>try omega)|((first|apply zB rfl|(apply zG<;>intro ht))<;>try simp (disch:=first|omega|simp only [lz,lu];try omega) only [go_sem,q0,q3,q4,r1]))
    exact DownV.same hw z40
theorem zzj(O:Store)(l:List Hash)(x:AV)(hx:RdSl O 32 (hr l) x)(hl:l.length<1000000):ACallsTo TC 150 [x] O (.str (z2v l)) O:=by
 obtain⟨x0,h0,hd⟩:=hx.lend (z3e l)
 have:=ACallsTo.lend glok (zzk [] l x0 h0 hl) (drs1 hd)
 rwa [show sh O.length (.str (z2v l))=.str (z2v l)from rfl,z5b,List.append_nil]at this
end
section
set_option maxRecDepth 10000
def q14c18:yX:=.cond (.t 24) (yq [yM 25 6,yM 26 0,yM 27 7,yI 28 (.slice (.sl 32) (.t 26) (some (.t 27)) none none),yC 29 42 28,yI 30 (.lit 32 [(.t 29)]),yI 31 (.app 32 (.t 25) (.t 30)),yM 6 31] (.reg [yM 32 0,yM 33 7,yI 34 (.slice (.sl 32) (.t 32) none (some (.t 33)) none),yM 0 34])) (yq [yM 35 6,yM 36 0,yM 37 7,yI 38 (.slice (.sl 32) (.t 36) none (some (.t 37)) none),yC 39 42 38,yI 40 (.lit 32 [(.t 39)]),yI 41 (.app 32 (.t 35) (.t 40)),yM 6 41] (.reg [yM 42 0,yM 43 7,yI 44 (.slice (.sl 32) (.t 42) (some (.t 43)) none none),yM 45 1,yM 46 7,yB 47 .sub 45 46,yM 0 44,yM 1 47]))
def q14c30:yX:=.seq (yq [yM 8 1,yJ 9 .lss 8 .i64 0,yM 10 9,yV 11 10 false 1,yV 12 10 false 0,yG 13 10 false (.lenSl (.t 12)),yG 14 10 false (.bin .geq .none (.t 11) (.t 13)),yP 15 10 14] (.cond (.t 15) (yq [yI 4 (.mv (.v .nilsl)),yK 5 .i64 2] .ret) .skip)) (yq [yI 6 (.mv (.v .nilsl))] (.seq (.block 0 (.loop (.seq (yq [yM 16 0,yZ 17 16,yJ 18 .gtr 17 .i64 1] (.cond (.t 18) .skip (.exit 0))) (.block 1 (yq [yM 19 0,yZ 20 19,yC 21 90 20,yM 7 21] (yq [yM 22 1,yM 23 7,yB 24 .lss 22 23] q14c18)))))) (yq [yM 48 6,yC 49 130 48] (yq [yM 50 6,yM 4 50,yK 5 .i64 0] .ret))))
def q14c31:yX:=yq [yI 4 (.mv (.v .nilsl)),yK 5 .i64 0] q14c30
theorem q14ok:cFn TC 92=some (51,[.t 4,.t 5],q14c31):=by kernel_rfl
def q15c26:yX:=.cond (.t 47) (yq [yL 48 true 32 14,yL 49 true 32 5,yD 50 91 48 49,yS 32 5 50] (.block 2 (.loop (.seq (yq [yM 51 1,yJ 52 .rem 51 .i64 2,yJ 53 .eql 52 .i64 0,yM 54 53,yV 55 54 true 1,yG 56 54 true (.bin .gtr .none (.t 55) (.v (.int .i64 0))),yQ 57 54 56] (.cond (.t 57) .skip (.exit 2))) (.block 3 (.reg [yM 58 1,yJ 59 .quo 58 .i64 2,yM 60 11,yJ 61 .quo 60 .i64 2,yM 1 59,yM 11 61])))))) (.reg [yL 62 true 32 5,yL 63 true 32 14,yD 64 91 62 63,yS 32 5 64])
def q15c33:yX:=yq [yN 36 32 32 34,yL 37 true 32 36,yI 14 (.alloc zZ0),yS 32 14 37] (.seq (yq [yM 38 11,yJ 39 .eql 38 .i64 0] (.cond (.t 39) (.exit 0) .skip)) (.seq (yq [yM 40 1,yJ 41 .rem 40 .i64 2,yJ 42 .eql 41 .i64 1,yM 43 42,yV 44 43 false 1,yV 45 43 false 11,yG 46 43 false (.bin .eql .none (.t 44) (.t 45)),yP 47 43 46] q15c26) (yq [yM 65 1,yJ 66 .quo 65 .i64 2,yM 67 11,yJ 68 .quo 67 .i64 2,yM 1 66,yM 11 68] (.reg [yM 69 12,yJ 70 .add 69 .i64 1,yM 12 70]))))
def q15c48:yX:=.seq (yq [yM 72 11,yJ 73 .neq 72 .i64 0,yM 74 73,yV 75 74 false 12,yV 76 74 false 3,yG 77 74 false (.lenSl (.t 76)),yG 78 74 false (.bin .neq .none (.t 75) (.t 77)),yP 79 74 78,yM 80 79,yU 81 80 false true 32 5,yU 82 80 false true 32 9,yG 83 80 false (.bin .neq (.agg (List.replicate 32 (.i .u8)++ [])) (.t 81) (.t 82)),yP 84 80 83] (.cond (.t 84) (yq [yK 10 .i64 80] .ret) .skip)) (yq [yK 10 .i64 0] .ret)
def q15c53:yX:=.seq (yq [yM 15 2,yJ 16 .lss 15 .i64 1,yM 17 16,yV 18 17 false 2,yG 19 17 false (.bin .gtr .none (.t 18) (.v (.int .i64 4096))),yP 20 17 19,yM 21 20,yV 22 21 false 1,yG 23 21 false (.bin .lss .none (.t 22) (.v (.int .i64 0))),yP 24 21 23,yM 25 24,yV 26 25 false 1,yV 27 25 false 2,yG 28 25 false (.bin .geq .none (.t 26) (.t 27)),yP 29 25 28] (.cond (.t 29) (yq [yK 10 .i64 2] .ret) .skip)) (yq [yM 30 2,yJ 31 .sub 30 .i64 1,yM 11 31] (yq [yK 12 .i64 0] (.seq .skip (.seq (yq [yM 32 3,yZ 33 32,yK 34 .i64 0] (.block 0 (.loop (yq [yB 35 .lss 34 33] (.seq (.cond (.t 35) .skip (.exit 0)) (.seq (.block 1 q15c33) (.reg [yJ 71 .add 34 .i64 1,yM 34 71]))))))) q15c48))))
def q15c55:yX:=yq [yx 5 0,yx 9 4,yK 10 .i64 0] (.scope q15c53)
theorem q15ok:cFn TC 135=some (85,[.t 10],q15c55):=by kernel_rfl
def q16c15:yX:=yq [yL 29 true 32 5,yM 30 1,yM 31 2,yM 32 3,yI 33 (.call (.v (.fn 158 [])) [(.t 29),(.t 30),(.t 31),(.t 32)]),yM 28 33,yE 34 0 28,yE 35 1 28,yI 11 (.alloc zZ0),yS 32 11 34,yM 12 35] (.seq (yq [yM 36 12,yu 37 36,yM 38 37,yU 39 38 false true 32 11,yU 40 38 false true 32 9,yG 41 38 false (.bin .neq (.agg (List.replicate 32 (.i .u8)++ [])) (.t 39) (.t 40)),yP 42 38 41] (.cond (.t 42) (yq [yK 10 .i64 80] .ret) .skip)) (yq [yK 10 .i64 0] .ret))
def q16c17:yX:=yq [yx 5 0,yx 9 4,yK 10 .i64 0] (.seq (yq [yM 13 2,yJ 14 .lss 13 .i64 1,yM 15 14,yV 16 15 false 2,yG 17 15 false (.bin .gtr .none (.t 16) (.v (.int .i64 4096))),yP 18 15 17,yM 19 18,yV 20 19 false 1,yG 21 19 false (.bin .lss .none (.t 20) (.v (.int .i64 0))),yP 22 19 21,yM 23 22,yV 24 23 false 1,yV 25 23 false 2,yG 26 23 false (.bin .geq .none (.t 24) (.t 25)),yP 27 23 26] (.cond (.t 27) (yq [yK 10 .i64 2] .ret) .skip)) q16c15)
theorem q16ok:cFn TC 140=some (43,[.t 10],q16c17):=by kernel_rfl
def q17c10:yX:=yq [yM 4 0,yZ 5 4,yJ 6 .sub 5 .i64 1,yK 2 .i64 0,yM 3 6] (.block 0 (.loop (.seq (yq [yM 7 2,yM 8 3,yB 9 .lss 7 8] (.cond (.t 9) .skip (.exit 0))) (.seq (.block 1 (.reg [yM 14 0,yM 15 2,yM 16 0,yM 17 3,yM 18 0,yM 19 3,yN 20 32 18 19,yR 21 true 32 20,yM 22 0,yM 23 2,yN 24 32 22 23,yR 25 true 32 24,yN 26 32 14 15,yS 32 26 21,yN 27 32 16 17,yS 32 27 25])) (.reg [yM 10 2,yJ 11 .add 10 .i64 1,yM 12 3,yJ 13 .sub 12 .i64 1,yM 2 11,yM 3 13])))))
theorem q17ok:cFn TC 130=some (28,[],q17c10):=by kernel_rfl
def q18r11:yW:=[
 yM 27 2,
 yf 28 171 27,
 yM 29 3,
 yM 30 3,
 yZ 31 30,
 yJ 32 .sub 31 .i64 1,
 yN 33 32 29 32,
 yR 34 true 32 33,
 ⟨some 11,none,.ef,.alloc zZ0⟩,
 yM 10 28,
 yS 32 11 34]
def q18r12:yW:=[
 yM 27 2,
 ⟨some 11,none,.ef,.alloc zZ0⟩,
 yf 28 171 27,
 yM 29 3,
 yM 30 3,
 yZ 31 30,
 yJ 32 .sub 31 .i64 1,
 yN 33 32 29 32,
 yR 34 true 32 33,
 yM 10 28,
 yS 32 11 34]
def q18c25:yX:=.seq (yq [yM 40 1,yM 41 10,yB 42 .lss 40 41] (.cond (.t 42) (yq [yL 44 true 32 4,yM 45 1,yM 46 10,yM 47 12,yI 48 (.call (.v (.fn 158 [])) [(.t 44),(.t 45),(.t 46),(.t 47)]),yM 43 48,yE 49 0 43,yE 50 1 43,yI 13 (.alloc zZ0),yS 32 13 49,yM 14 50] (yq [yL 51 true 32 13,yL 52 true 32 11,yD 53 172 51 52,yM 54 14,yS 32 8 53,yM 9 54] .ret)) .skip)) (yq [yL 56 true 32 4,yM 57 1,yM 58 10,yB 59 .sub 57 58,yM 60 2,yM 61 10,yB 62 .sub 60 61,yM 63 12,yI 64 (.call (.v (.fn 158 [])) [(.t 56),(.t 59),(.t 62),(.t 63)]),yM 55 64,yE 65 0 55,yE 66 1 55,yI 15 (.alloc zZ0),yS 32 15 65,yM 16 66] (yq [yL 67 true 32 11,yL 68 true 32 15,yD 69 172 67 68,yM 70 16,yS 32 8 69,yM 9 70] .ret))
def q18c29:yX:=.seq (yq [yM 17 2,yJ 18 .eql 17 .i64 1] (.cond (.t 18) (yq [yL 19 true 32 4,yM 20 3,yZ 21 20,yJ 22 .eql 21 .i64 0,yS 32 8 19,yM 9 22] .ret) .skip)) (.seq (yq [yM 23 3,yZ 24 23,yJ 25 .eql 24 .i64 0] (.cond (.t 25) (yq [yL 26 true 32 4,yS 32 8 26,yb 9 false] .ret) .skip)) (.seq (.reg2 q18r11 q18r12) (yq [yM 35 3,yM 36 3,yZ 37 36,yJ 38 .sub 37 .i64 1,yI 39 (.slice (.sl 32) (.t 35) none (some (.t 38)) none),yM 12 39] q18c25)))
def q18c30:yX:=yq [yx 4 0,yI 8 (.alloc zZ0),yb 9 false] q18c29
attribute [go_sem] q18r11 q18r12
theorem q18ok:cFn TC 158=some (71,[.c 8 true 32,.t 9],q18c30):=by kernel_rfl
end
section
set_option maxRecDepth 10000
def q19c23:yX:=yq [yI 10 (.call (.v (.fn 82 [])) [(.t 3),(.v (.int .u8 4))])] (.seq (yq [yM 11 0,yZ 12 11,yK 13 .i64 0] (.block 0 (.loop (yq [yB 14 .lss 13 12] (.seq (.cond (.t 14) .skip (.exit 0)) (.seq (.block 1 (yq [yN 15 32 11 13,yL 16 true 32 15,yI 5 (.alloc zZ0),yS 32 5 16] (.reg [yL 17 true 32 5,yC 18 84 17,yD 19 83 3 18]))) (.reg [yJ 20 .add 13 .i64 1,yM 13 20]))))))) (yq [yC 21 86 3,yC 22 85 21,yS 32 2 22] .ret))
def q19c26:yX:=yq [yI 2 (.alloc zZ0)] (.seq (yq [yM 6 0,yZ 7 6,yJ 8 .neq 7 .i64 512] (.cond (.t 8) (yq [yI 9 (.build zZ0 []),yS 32 2 9] .ret) .skip)) (yq [yI 3 (.allB)] q19c23))
theorem q19ok:cFn TC 40=some (23,[.c 2 true 32],q19c26):=by kernel_rfl
def q1ac18:yX:=yq [yM 14 5,yZ 15 14,yK 16 .i64 0] (.block 0 (.loop (yq [yB 17 .lss 16 15] (.seq (.cond (.t 17) .skip (.exit 0)) (.seq (.block 1 (yq [yM 18 16,yM 6 18] (.reg [yM 19 5,yM 20 6,yM 21 0,yM 22 1,yM 23 6,yJ 24 .quo 23 .i64 2,yM 25 6,yJ 26 .rem 25 .i64 2,yI 27 (.call (.v (.fn 88 [])) [(.t 21),(.t 22),(.t 24),(.t 26)]),yC 28 84 27,yC 29 87 28,yN 30 32 19 20,yS 32 30 29]))) (.reg [yJ 31 .add 16 .i64 1,yM 16 31]))))))
def q1ac24:yX:=yq [yI 4 (.mv (.v .nilsl))] (.seq (yq [yM 7 1,yJ 8 .lss 7 .i64 0,yM 9 8,yV 10 9 false 1,yG 11 9 false (.bin .geq .none (.t 10) (.v (.int .i64 2147483648))),yP 12 9 11] (.cond (.t 12) (yq [yI 4 (.mv (.v .nilsl))] .ret) .skip)) (yq [yI 13 (.make 32 zZ0 (.v (.int .i64 512)) (.v (.int .i64 512))),yM 5 13] (.seq q1ac18 (yq [yM 32 5,yM 4 32] .ret))))
theorem q1aok:cFn TC 41=some (33,[.t 4],q1ac24):=by kernel_rfl
def q1bc21:yX:=yq [yI 9 (.lit 1 [(.v (.int .u8 4))]),yM 3 9] (.seq (yq [yK 4 .i64 0] (.block 0 (.loop (.seq (yq [yM 10 4,yJ 11 .lss 10 .i64 512] (.cond (.t 11) .skip (.exit 0))) (.seq (.block 1 (.reg [yM 14 3,yM 15 0,yM 16 4,yN 17 32 15 16,yI 18 (.slice (.arr 32 1) (.t 17) none none none),yI 19 (.appB (.t 14) (.t 18)),yM 3 19])) (.reg [yM 12 4,yJ 13 .add 12 .i64 1,yM 4 13])))))) (yq [yM 20 3,yI 21 (.conv .str (.t 20)),yC 22 94 21,yS 32 2 22] .ret))
def q1bc23:yX:=yq [yI 2 (.alloc zZ0)] (.seq (yq [yM 5 0,yZ 6 5,yJ 7 .neq 6 .i64 512] (.cond (.t 7) (yq [yI 8 (.build zZ0 []),yS 32 2 8] .ret) .skip)) q1bc21)
theorem q1bok:cFn TC 157=some (23,[.c 2 true 32],q1bc23):=by kernel_rfl
def q1cc19:yX:=.seq (.block 1 (yq [yM 22 20,yM 11 22] (yq [yM 23 8,yM 24 11,yD 25 131 23 24,yM 12 25] (yq [yM 26 0,yM 27 1,yM 28 11,yM 29 12,yI 30 (.call (.v (.fn 88 [])) [(.t 26),(.t 27),(.t 28),(.t 29)]),yC 31 84 30,yD 32 83 9 31] (.reg [yM 33 7,yM 34 11,yI 35 (.bin .mul .none (.v (.int .i64 2)) (.t 34)),yJ 36 .add 35 .i64 1,yM 37 12,yB 38 .sub 36 37,yN 39 32 33 38,yL 40 true 32 39,yC 41 84 40,yD 42 83 10 41]))))) (.reg [yJ 43 .add 20 .i64 1,yM 20 43])
def q1cc31:yX:=yq [yM 13 0,yM 14 1,yD 15 41 13 14,yM 7 15] (.seq (yq [yM 16 7,yI 17 (.bin .eql .slc (.t 16) (.v .nilsl))] (.cond (.t 17) (yq [ye 6] .ret) .skip)) (yq [yL 18 true 32 5,yC 19 84 18,yM 8 19] (yq [yI 9 (.allB),yI 10 (.allB)] (.seq (yq [yK 20 .i64 0] (.block 0 (.loop (yq [yJ 21 .lss 20 .i64 256] (.seq (.cond (.t 21) .skip (.exit 0)) q1cc19))))) (yq [yC 44 86 9,yC 45 86 10,yB 46 .add 44 45,yM 6 46] .ret)))))
def q1cc32:yX:=yq [yx 5 2,ye 6] q1cc31
theorem q1cok:cFn TC 93=some (47,[.t 6],q1cc32):=by kernel_rfl
def q1dc16:yX:=yq [yM 25 0,yM 26 8,yJ 27 .mul 26 .i64 32,yM 28 8,yJ 29 .add 28 .i64 1,yJ 30 .mul 29 .i64 32,yI 31 (.slice .str (.t 25) (some (.t 27)) (some (.t 30)) none),yM 32 0,yM 33 8,yI 34 (.bin .add .none (.v (.int .i64 256)) (.t 33)),yJ 35 .mul 34 .i64 32,yI 36 (.slice .str (.t 32) (some (.t 35)) none none),yM 10 31,yM 11 36] (yq [yM 37 7,yM 38 8,yI 39 (.bin .mul .none (.v (.int .i64 2)) (.t 38)),yM 40 9,yB 41 .add 39 40,yM 42 10,yC 43 87 42,yN 44 32 37 41,yS 32 44 43] (.reg [yM 46 7,yM 47 8,yI 48 (.bin .mul .none (.v (.int .i64 2)) (.t 47)),yJ 49 .add 48 .i64 1,yM 50 9,yB 51 .sub 49 50,yM 52 11,yC 53 146 52,yM 45 53,yE 54 0 45,yE 55 1 45,yE 56 2 45,yN 57 32 46 51,yS 32 57 54]))
def q1dc30:yX:=yq [yL 16 true 32 3,yC 17 84 16,yM 6 17] (yq [yI 18 (.make 32 zZ0 (.v (.int .i64 512)) (.v (.int .i64 512))),yM 7 18] (.seq (yq [yK 19 .i64 0] (.block 0 (.loop (yq [yJ 20 .lss 19 .i64 256] (.seq (.cond (.t 20) .skip (.exit 0)) (.seq (.block 1 (yq [yM 21 19,yM 8 21] (yq [yM 22 6,yM 23 8,yD 24 131 22 23,yM 9 24] q1dc16))) (.reg [yJ 58 .add 19 .i64 1,yM 19 58]))))))) (yq [yM 59 7,yC 60 40 59,yS 32 4 60,yK 5 .i64 0] .ret)))
def q1dc32:yX:=yq [yx 3 1,yI 4 (.alloc zZ0),yK 5 .i64 0] (.seq (yq [yM 12 0,yI 13 (.lenStr (.t 12)),yJ 14 .neq 13 .i64 16384] (.cond (.t 14) (yq [yI 15 (.build zZ0 []),yS 32 4 15,yK 5 .i64 10] .ret) .skip)) q1dc30)
theorem q1dok:cFn TC 134=some (61,[.c 4 true 32,.t 5],q1dc32):=by kernel_rfl
def q1ec15:yX:=yq [yM 41 0,yM 42 7,yI 43 (.bin .mul .none (.v (.int .i64 32)) (.t 42)),yI 44 (.bin .add .none (.v (.int .i64 8192)) (.t 43)),yI 45 (.slice .str (.t 41) (some (.t 44)) none none),yC 46 122 45,yM 40 46,yE 47 0 40,yE 48 1 40,yE 49 2 40,yI 9 (.alloc zZ0),yS 32 9 47,yM 10 48,yM 11 49] (.reg [yM 50 6,yM 51 7,yI 52 (.bin .mul .none (.v (.int .i64 2)) (.t 51)),yJ 53 .add 52 .i64 1,yM 54 8,yB 55 .sub 53 54,yL 56 true 32 9,yN 57 32 50 55,yS 32 57 56])
def q1ec16:yX:=yq [yM 25 6,yM 26 7,yI 27 (.bin .mul .none (.v (.int .i64 2)) (.t 26)),yM 28 8,yB 29 .add 27 28,yM 30 0,yM 31 7,yI 32 (.bin .mul .none (.v (.int .i64 32)) (.t 31)),yM 33 7,yI 34 (.bin .mul .none (.v (.int .i64 32)) (.t 33)),yJ 35 .add 34 .i64 32,yI 36 (.slice .str (.t 30) (some (.t 32)) (some (.t 35)) none),yI 37 (.bin .add .none (.v (.str [3])) (.t 36)),yC 38 94 37,yN 39 32 25 29,yS 32 39 38] q1ec15
def q1ec27:yX:=yq [yI 16 (.make 32 zZ0 (.v (.int .i64 512)) (.v (.int .i64 512))),yM 6 16] (.seq (yq [yK 7 .i64 0] (.block 0 (.loop (.seq (yq [yM 17 7,yJ 18 .lss 17 .i64 256] (.cond (.t 18) .skip (.exit 0))) (.seq (.block 1 (yq [yI 21 (.slice (.arr 32 1) (.t 3) none none none),yI 22 (.conv .str (.t 21)),yM 23 7,yD 24 156 22 23,yM 8 24] q1ec16)) (.reg [yM 19 7,yJ 20 .add 19 .i64 1,yM 7 20])))))) (yq [yM 58 6,yC 59 157 58,yS 32 4 59,yK 5 .i64 0] .ret))
def q1ec29:yX:=yq [yx 3 1,yI 4 (.alloc zZ0),yK 5 .i64 0] (.seq (yq [yM 12 0,yI 13 (.lenStr (.t 12)),yJ 14 .neq 13 .i64 16384] (.cond (.t 14) (yq [yI 15 (.build zZ0 []),yS 32 4 15,yK 5 .i64 10] .ret) .skip)) q1ec27)
theorem q1eok:cFn TC 139=some (60,[.c 4 true 32,.t 5],q1ec29):=by kernel_rfl
def q1fc7:yX:=yq [yK 4 .i64 0,yI 5 (.mv (.v .any))] (yq [yM 6 0,yC 7 125 6] (yq [yM 8 0,yM 9 0,yO 10 9,yF 11 1 10,yL 12 false 1 11,yM 13 1,yI 14 (.appB (.t 12) (.t 13)),yO 15 8,yF 16 1 15,yS 1 16 14] (yq [yM 17 1,yI 18 (.lenStr (.t 17)),yM 4 18,yI 5 (.mv (.v .any))] .ret)))
theorem q1fok:cFn TC 83=some (19,[.t 4,.t 5],q1fc7):=by kernel_rfl
def q1gc7:yX:=yq [yI 4 (.mv (.v .any))] (yq [yM 5 0,yC 6 125 5] (yq [yM 7 0,yM 8 0,yO 9 8,yF 10 1 9,yL 11 false 1 10,yM 12 1,yI 13 (.lit 1 [(.t 12)]),yI 14 (.appB (.t 11) (.t 13)),yO 15 7,yF 16 1 15,yS 1 16 14] (yq [yI 4 (.mv (.v .any))] .ret)))
theorem q1gok:cFn TC 82=some (17,[.t 4],q1gc7):=by kernel_rfl
def q1hc3:yX:=yq [yI 2 (.alloc zZ0)] (yq [yM 3 0,yI 4 (.bin .add .none (.v (.str [3])) (.t 3)),yC 5 85 4,yS 32 2 5] .ret)
theorem q1hok:cFn TC 87=some (6,[.c 2 true 32],q1hc3):=by kernel_rfl
def q1ir1:yW:=[
 yM 9 1,
 yJ 10 .lss 9 .i64 0,
 yM 11 10,
 yV 12 11 false 1,
 yG 13 11 false (.bin .geq .none (.t 12) (.v (.int .i64 2147483648))),
 yP 14 11 13,
 yM 15 14,
 yV 16 15 false 2,
 yG 17 15 false (.bin .lss .none (.t 16) (.v (.int .i64 0))),
 yP 18 15 17,
 yM 19 18,
 yV 20 19 false 2,
 yG 21 19 false (.bin .geq .none (.t 20) (.v (.int .i64 256))),
 yP 22 19 21,
 yM 23 22,
 yV 24 23 false 3,
 yG 25 23 false (.bin .lss .none (.t 24) (.v (.int .i64 0))),
 yP 26 23 25,
 yM 27 26,
 yV 28 27 false 3,
 yG 29 27 false (.bin .gtr .none (.t 28) (.v (.int .i64 1))),
 yP 30 27 29]
def q1ic8:yX:=.seq (yq q1ir1 (.cond (.t 30) (yq [yI 31 (.build zZ0 []),yS 32 8 31] .ret) .skip)) (yq [yM 32 0,yC 33 129 32,yI 34 (.bin .add .none (.v (.str [2])) (.t 33)),yM 35 1,yY 36 .u64 35,yI 37 (.call (.v (.fn 128 [])) [(.t 36),(.v (.int .i64 4))]),yB 38 .add 34 37,yM 39 2,yI 40 (.bin .mul .none (.v (.int .i64 2)) (.t 39)),yM 41 3,yB 42 .add 40 41,yY 43 .u64 42,yI 44 (.call (.v (.fn 128 [])) [(.t 43),(.v (.int .i64 2))]),yB 45 .add 38 44,yC 46 85 45,yS 32 8 46] .ret)
def q1ic9:yX:=yq [yI 8 (.alloc zZ0)] q1ic8
attribute [go_sem] q1ir1
theorem q1iok:cFn TC 88=some (47,[.c 8 true 32],q1ic9):=by kernel_rfl
end
section
set_option maxRecDepth 10000
def q1jr1:yW:=[
 yM 5 0,
 yI 6 (.build [(.bool false),(.str []),(.int .u8 0),(.int .u8 0),(.int .u8 0),(.int .u8 0),(.int .u8 0),(.int .u8 0),(.int .u8 0),(.int .u8 0),(.int .u8 0),(.int .u8 0),(.int .u8 0),(.int .u8 0),(.int .u8 0),(.int .u8 0),(.int .u8 0),(.int .u8 0),(.int .u8 0),(.int .u8 0),(.int .u8 0),(.int .u8 0),(.int .u8 0),(.int .u8 0),(.int .u8 0),(.int .u8 0),(.int .u8 0),(.int .u8 0),(.int .u8 0),(.int .u8 0),(.int .u8 0),(.int .u8 0),(.int .u8 0),(.int .u8 0),(.int .u8 0),(.int .u8 0),(.int .u8 0),(.int .u8 0),(.int .u8 0),(.int .u8 0),(.int .u8 0),(.int .u8 0),(.int .u8 0),(.int .u8 0),(.int .u8 0),(.int .u8 0),(.int .u8 0),(.int .u8 0),(.int .u8 0),(.int .u8 0),(.int .u8 0),(.int .u8 0),(.int .u8 0),(.int .u8 0),(.int .u8 0),(.int .u8 0),(.int .u8 0),(.int .u8 0),(.int .u8 0),(.int .u8 0),(.int .u8 0),(.int .u8 0),(.int .u8 0),(.int .u8 0),(.int .u8 0),(.int .u8 0),(.int .u8 0),(.int .u8 0),(.int .u8 0),(.int .u8 0),(.int .u8 0),(.int .u8 0),(.int .u8 0),(.int .u8 0),(.int .u8 0),(.int .u8 0),(.int .u8 0),(.int .u8 0),(.int .u8 0),(.int .u8 0),(.int .u8 0),(.int .u8 0),(.int .u8 0),(.int .u8 0),(.int .u8 0),(.int .u8 0),(.int .u8 0),(.int .u8 0),(.int .u8 0),(.int .u8 0),(.int .u8 0),(.int .u8 0),(.int .u8 0),(.int .u8 0),(.int .u8 0),(.int .u8 0),(.int .u8 0),(.int .u8 0),(.int .u8 0),(.int .u8 0),(.int .u8 0),(.int .u8 0),(.int .u8 0),(.int .u8 0),(.int .u8 0),(.int .u8 0),(.int .u8 0),(.int .u8 0),(.int .u8 0),(.int .u8 0),(.int .u8 0),(.int .u8 0),(.int .u8 0),(.int .u8 0),(.int .u8 0),(.int .u8 0),(.int .u8 0),(.int .u8 0),(.int .u8 0),(.int .u8 0),(.int .u8 0),(.int .u8 0),(.int .u8 0),(.int .u8 0),(.int .u8 0),(.int .u8 0),(.int .u8 0),(.int .u8 0),(.int .u8 0),(.int .u8 0),(.int .u8 0),(.int .u8 0),(.int .u8 0),(.int .u8 0),(.int .u8 0),(.int .u8 0),(.int .u8 0),(.int .u8 0),(.int .u8 0),(.int .u8 0),(.int .u8 0),(.int .u8 0),(.int .u8 0),(.int .u8 0),(.int .u8 0),(.int .u8 0),(.int .u8 0),(.int .u8 0),(.int .u8 0),(.int .u8 0),(.int .u8 0),(.int .u8 0),(.int .u8 0),(.int .u8 0),(.int .u8 0),(.int .u8 0),(.int .u8 0),(.int .u8 0),(.int .u8 0),(.int .u8 0),(.int .u8 0),(.int .u8 0),(.int .u8 0),(.int .u8 0),(.int .u8 0),(.int .u8 0),(.int .u8 0),(.int .u8 0),(.int .u8 0),(.int .u8 0),(.int .u8 0),(.int .u8 0),(.int .u8 0),(.int .u8 0),(.int .u8 0),(.int .u8 0),(.int .u8 0),(.int .u8 0),(.int .u8 0),(.int .u8 0),(.int .u8 0),(.int .u8 0),(.int .u8 0),(.int .u8 0),(.int .u8 0),(.int .u8 0),(.int .u8 0),(.int .u8 0),(.int .u8 0),(.int .u8 0),(.int .u8 0),(.int .u8 0),(.int .u8 0),(.int .u8 0),(.int .u8 0),(.int .u8 0),(.int .u8 0),(.int .u8 0),(.int .u8 0),(.int .u8 0),(.int .u8 0),(.int .u8 0),(.int .u8 0),(.int .u8 0),(.int .u8 0),(.int .u8 0),(.int .u8 0),(.int .u8 0),(.int .u8 0),(.int .u8 0),(.int .u8 0),(.int .u8 0),(.int .u8 0),(.int .u8 0),(.int .u8 0),(.int .u8 0),(.int .u8 0),(.int .u8 0),(.int .u8 0),(.int .u8 0),(.int .u8 0),(.int .u8 0),(.int .u8 0),(.int .u8 0),(.int .u8 0),(.int .u8 0),(.int .u8 0),(.int .u8 0),(.int .u8 0),(.int .u8 0),(.int .u8 0),(.int .u8 0),(.int .u8 0),(.int .u8 0),(.int .u8 0),(.int .u8 0),(.int .u8 0),(.int .u8 0),(.int .u8 0),(.int .u8 0),(.int .u8 0),(.int .u8 0),(.int .u8 0),(.int .u8 0),(.int .u8 0),(.int .u8 0),(.int .u8 0),(.int .u8 0),(.int .u8 0),(.int .u8 0),(.int .u8 0),(.int .u8 0),(.int .u8 0),(.int .u8 0),(.int .u8 0),(.int .u8 0),(.int .u8 0),(.int .u8 0)] [(0,1,(.v (.bool true))),(1,1,(.t 5))]),
 yx 7 6,
 yM 3 7]
def q1jc18:yX:=yq [yI 2 (.mv (.v .nilp))] (yq q1jr1 (.seq (yq [yK 8 .i64 0] (.block 0 (.loop (yq [yJ 9 .lss 8 .i64 8] (.seq (.cond (.t 9) .skip (.exit 0)) (.seq (.block 1 (yq [yM 10 8,yM 4 10] (.reg [yM 11 3,yM 12 4,yM 13 0,yM 14 4,yD 15 41 13 14,yC 16 40 15,yO 17 11,yF 18 2 17,yI 19 (.iaArr 8 32 (.t 18) (.t 12)),yS 32 19 16]))) (.reg [yJ 20 .add 8 .i64 1,yM 8 20]))))))) (yq [yM 21 3,yM 2 21] .ret)))
attribute [go_sem] q1jr1
theorem q1jok:cFn TC 9=some (22,[.t 2],q1jc18):=by kernel_rfl
def q1kc9:yX:=yq [yI 2 (.alloc zZ0)] (.seq (yq [yM 3 0,yI 4 (.bin .eql .ptr (.t 3) (.v .nilp)),yM 5 4,yV 6 5 false 0,yG 7 5 false (.nilc (.t 6)),yT 8 5 false 0 7,yU 9 5 false false 1 8,yG 10 5 false (.un .not (.t 9)),yP 11 5 10] (.cond (.t 11) (yq [yI 12 (.build zZ0 []),yS 32 2 12] .ret) .skip)) (yq [yM 13 0,yO 14 13,yF 15 2 14,yI 16 (.slice (.arr 8 32) (.t 15) none none none),yC 17 42 16,yS 32 2 17] .ret))
theorem q1kok:cFn TC 11=some (18,[.c 2 true 32],q1kc9):=by kernel_rfl
def q1lc10:yX:=yq [yM 11 0,yI 12 (.bin .eql .ptr (.t 11) (.v .nilp)),yM 13 12,yV 14 13 false 0,yG 15 13 false (.nilc (.t 14)),yT 16 13 false 0 15,yU 17 13 false false 1 16,yG 18 13 false (.un .not (.t 17)),yP 19 13 18,yM 10 19] (.cond (.t 10) (yq [yI 20 (.build [(.int .i64 0),(.str []),.nilsl] []),yS 3 6 20,yK 7 .i64 1] .ret) (yq [yM 22 1,yJ 23 .lss 22 .i64 0,yM 24 23,yV 25 24 false 1,yG 26 24 false (.bin .geq .none (.t 25) (.v (.int .i64 8))),yP 27 24 26,yM 21 27] (.cond (.t 21) (yq [yI 28 (.build [(.int .i64 0),(.str []),.nilsl] []),yS 3 6 28,yK 7 .i64 2] .ret) .skip)))
def q1lc15:yX:=.seq (.block 0 q1lc10) (yq [yM 30 0,yO 31 30,yF 32 2 31,yI 33 (.slice (.arr 8 32) (.t 32) none none none),yM 34 1,yD 35 92 33 34,yM 29 35,yE 36 0 29,yE 37 1 29,yM 8 36,yM 9 37] (yq [yM 38 1,yM 39 0,yO 40 39,yF 41 1 40,yR 42 false 1 41,yM 43 1,yR 44 true 32 5,yc 45 93 42 43 44,yM 46 8,yI 47 (.build [(.int .i64 0),(.str []),.nilsl] [(0,1,(.t 38)),(1,1,(.t 45)),(2,1,(.t 46))]),yS 3 6 47,yK 7 .i64 0] .ret))
def q1lc16:yX:=yq [yx 5 2,yI 6 (.alloc [(.int .i64 0),(.str []),.nilsl]),yK 7 .i64 0] q1lc15
theorem q1lok:cFn TC 43=some (48,[.c 6 true 3,.t 7],q1lc16):=by kernel_rfl
def q1mc14:yX:=.seq (yq [yM 24 8,yJ 25 .neq 24 .i64 0,yM 26 25,yU 27 26 false true 32 7,yT 28 26 false 0 5,yU 29 26 false false 1 28,yT 30 26 false 2 5,yU 31 26 false false 1 30,yU 32 26 false true 32 3,yG 33 26 false (.call (.v (.fn 135 [])) [(.t 27),(.t 29),(.v (.int .i64 8)),(.t 31),(.t 32)]),yG 34 26 false (.bin .neq .none (.t 33) (.v (.int .i64 0))),yP 35 26 34] (.cond (.t 35) (yq [yK 6 .i64 81] .ret) .skip)) (yq [yK 6 .i64 0] .ret)
def q1mc17:yX:=yq [yx 3 0,yx 4 1,yx 5 2,yK 6 .i64 0] (.seq (yq [yF 9 0 5,yL 10 false 1 9,yJ 11 .lss 10 .i64 0,yM 12 11,yT 13 12 false 0 5,yU 14 12 false false 1 13,yG 15 12 false (.bin .geq .none (.t 14) (.v (.int .i64 8))),yP 16 12 15] (.cond (.t 16) (yq [yK 6 .i64 2] .ret) .skip)) (yq [yF 18 1 5,yL 19 false 1 18,yL 20 true 32 4,yD 21 134 19 20,yM 17 21,yE 22 0 17,yE 23 1 17,yI 7 (.alloc zZ0),yS 32 7 22,yM 8 23] q1mc14))
theorem q1mok:cFn TC 98=some (36,[.t 6],q1mc17):=by kernel_rfl
def q1nc14:yX:=.seq (yq [yM 24 8,yJ 25 .eql 24 .i64 0,yM 26 25,yU 27 26 true true 32 7,yT 28 26 true 0 5,yU 29 26 true false 1 28,yT 30 26 true 2 5,yU 31 26 true false 1 30,yU 32 26 true true 32 3,yG 33 26 true (.call (.v (.fn 140 [])) [(.t 27),(.t 29),(.v (.int .i64 8)),(.t 31),(.t 32)]),yG 34 26 true (.bin .eql .none (.t 33) (.v (.int .i64 0))),yQ 35 26 34] (.cond (.t 35) (yq [yK 6 .i64 0] .ret) .skip)) (yq [yK 6 .i64 81] .ret)
def q1nc17:yX:=yq [yx 3 0,yx 4 1,yx 5 2,yK 6 .i64 0] (.seq (yq [yF 9 0 5,yL 10 false 1 9,yJ 11 .lss 10 .i64 0,yM 12 11,yT 13 12 false 0 5,yU 14 12 false false 1 13,yG 15 12 false (.bin .gtr .none (.t 14) (.v (.int .i64 7))),yP 16 12 15] (.cond (.t 16) (yq [yK 6 .i64 2] .ret) .skip)) (yq [yF 18 1 5,yL 19 false 1 18,yL 20 true 32 4,yD 21 139 19 20,yM 17 21,yE 22 0 17,yE 23 1 17,yI 7 (.alloc zZ0),yS 32 7 22,yM 8 23] q1nc14))
theorem q1nok:cFn TC 107=some (36,[.t 6],q1nc17):=by kernel_rfl
end
section
attribute [local irreducible] ACallsTo ACallsP
theorem zi8(O:Store)(r:Nat)(t:List UInt8)(hr:O[r]? =some (some [[.bld r,.bnil]]))(h0:t ≠ [])(hl:t.length<=1073741824):
  ACallsTo TC 83 [.ptr r 0 0,.str t] O (.tup [.int .i64 t.length,.any]) (O.set r (some [[.bld r,.bsl O.length t.length]])++ [some (zy t)]):=by
 have hz:t.length ≠ 0:=by simpa using h0
 have hs:=slen hr
 have hc:=zdv O r _ hr
 refine ACallsTo.of_body_keep q1fok (by simp) ?_
 repeat' (first|apply zA rfl|(apply zd_ rfl<;>intro ht<;>try omega)|((first|apply zB rfl|(apply callW.mk_pu;exact(fun _=>hc))|(apply callW.za;exact(hc))|(apply zG<;>intro ht))<;>try simp (disch:=first|omega|simp only [lz,lu];try omega) only [go_sem,hr,z5u]))
theorem zi9(O:Store)(r rb:Nat)(s t:List UInt8)(hr:O[r]? =some (some [[.bld r,.bsl rb s.length]]))(hb:O[rb]? =some (some (zy s)))(hne:rb ≠ r)(h0:t ≠ [])(hl:s.length+t.length<=1073741824):
  ACallsTo TC 83 [.ptr r 0 0,.str t] O (.tup [.int .i64 t.length,.any]) ((O.set rb none).set r (some [[.bld r,.bsl O.length (s.length+t.length)]])++ [some (zy (s++t))]):=by
 have hz:t.length ≠ 0:=by simpa using h0
 have hs:=slen hr
 have hc:=zdv O r _ hr
 refine ACallsTo.of_body_keep q1fok (by simp) ?_
 repeat' (first|apply zA rfl|(apply zd_ rfl<;>intro ht<;>try omega)|((first|apply zB rfl|(apply callW.mk_pu;exact(fun _=>hc))|(apply callW.za;exact(hc))|(apply zG<;>intro ht))<;>try simp (disch:=first|omega|simp only [lz,lu];try omega) only [go_sem,hr,hb,z5u]))
theorem zq5(O:Store)(r:Nat)(b:UInt8)(hr:O[r]? =some (some [[.bld r,.bnil]])):
  ACallsTo TC 82 [.ptr r 0 0,.int .u8 b.toNat] O .any (O.set r (some [[.bld r,.bsl O.length 1]])++ [some (zy [b])]):=by
 have hs:=slen hr
 have hc:=zdv O r _ hr
 have hb:zy [b]=[[.int .u8 b.toNat]]:=rfl
 rw [hb]
 refine ACallsTo.of_body_keep q1gok (by simp) ?_
 repeat' (first|apply zA rfl|(apply zd_ rfl<;>intro ht<;>try omega)|((first|apply zB rfl|(apply callW.mk_pu;exact(fun _=>hc))|(apply callW.za;exact(hc))|(apply zG<;>intro ht))<;>try simp (disch:=first|omega|simp only [lz,lu];try omega) only [go_sem,hr,z5u]))
def BldN(τ O':Store)(r:Nat)(s:List UInt8):Prop:=
 τ.length<=r/\ (∃news,O'=τ++news)/\ ((s=[]/\ O'[r]? =some (some [[.bld r,.bnil]])) ∨
  (s ≠ []/\ ∃rb,τ.length<=rb/\ rb ≠ r/\ O'[r]? =some (some [[.bld r,.bsl rb s.length]])/\ O'[rb]? =some (some (zy s))))
theorem BldN.new{news:Store}(hr:τ.length<=r)(h:(τ++news)[r]? =some (some [[.bld r,.bnil]])):BldN τ (τ++news) r []:=⟨hr,⟨news,rfl⟩,.inl ⟨rfl,h⟩⟩
theorem BldN.ext(h:BldN τ O' r s):∃news,O'=τ++news:=h.2.1
theorem BldN.more(h:BldN τ O' r s)(y:Store):BldN τ (O'++y) r s:=by
 obtain⟨h1,⟨news,rfl⟩,h2⟩:=h
 refine⟨h1,⟨news++y,by rw [List.append_assoc]⟩,?_⟩
 rcases h2 with⟨e,h2⟩| ⟨e,rb,h3,h4,h5,h6⟩
 ·exact .inl ⟨e,by rw [List.getElem?_append_left (slen h2)];exact h2⟩
 ·exact .inr ⟨e,rb,h3,h4,by rw [List.getElem?_append_left (slen h5)];exact h5,by rw [List.getElem?_append_left (slen h6)];exact h6⟩
theorem z9w{news:Store}(x:Option AObj)(h:τ.length<=r):(τ++news).set r x=τ++news.set (r-τ.length) x:=by rw [List.set_append_right _ _ h]
theorem BldN.write{t:List UInt8}(h:BldN τ O' r s)(h0:t ≠ [])(hl:s.length+t.length<=1073741824):
  ∃O2,ACallsTo TC 83 [.ptr r 0 0,.str t] O' (.tup [.int .i64 t.length,.any]) O2/\ BldN τ O2 r (s++t):=by
 obtain⟨h1,⟨news,rfl⟩,⟨rfl,h2⟩| ⟨e,rb,h3,h4,h5,h6⟩⟩:=h
 ·refine⟨_,zi8 _ r t h2 h0 (by simpa using hl),h1,⟨_,by rw [z9w _ h1,List.append_assoc]⟩,.inr ⟨by simpa using h0,(τ++news).length,by simp,?_,?_,?_⟩⟩
  ·have:=slen h2;omega
  ·rw [List.getElem?_append_left (by rw [List.length_set];exact slen h2),List.getElem?_set_self (slen h2)];rfl
  ·rw [List.getElem?_append_right (by rw [List.length_set];exact Nat.le_refl _),List.length_set,Nat.sub_self];rfl
 ·refine⟨_,zi9 _ r rb s t h5 h6 h4 h0 hl,h1,⟨_,by rw [z9w _ h3,z9w _ h1,List.append_assoc]⟩,.inr ⟨by simp [e],(τ++news).length,by simp,?_,?_,?_⟩⟩
  ·have:=slen h5;omega
  ·rw [List.getElem?_append_left (by rw [List.length_set,List.length_set];exact slen h5),List.getElem?_set_self (by rw [List.length_set];exact slen h5)];simp
  ·rw [List.getElem?_append_right (by rw [List.length_set,List.length_set];exact Nat.le_refl _),List.length_set,List.length_set,Nat.sub_self];rfl
theorem BldN.byte(b:UInt8)(h:BldN τ O' r []):∃O2,ACallsTo TC 82 [.ptr r 0 0,.int .u8 b.toNat] O' .any O2/\ BldN τ O2 r [b]:=by
 obtain⟨h1,⟨news,rfl⟩,⟨_,h2⟩| ⟨e,_⟩⟩:=h
 ·refine⟨_,zq5 _ r b h2,h1,⟨_,by rw [z9w _ h1,List.append_assoc]⟩,.inr ⟨by simp,(τ++news).length,by simp,?_,?_,?_⟩⟩
  ·have:=slen h2;omega
  ·rw [List.getElem?_append_left (by rw [List.length_set];exact slen h2),List.getElem?_set_self (slen h2)];rfl
  ·rw [List.getElem?_append_right (by rw [List.length_set];exact Nat.le_refl _),List.length_set,Nat.sub_self];rfl
 ·exact absurd rfl e
theorem BldN.string(h:BldN τ O' r s)(h0:s ≠ [])(hl:s.length<=1073741824):
  ∃news,ACallsTo TC 86 [.ptr r 0 0] O' (.str s) (τ++news):=by
 obtain⟨h1,⟨news,rfl⟩,⟨rfl,h2⟩| ⟨e,rb,h3,h4,h5,h6⟩⟩:=h
 ·exact absurd rfl h0
 ·have:=zdg _ r rb s h0 hl h5 h6
  rw [z9w _ h3]at this
  exact⟨_,this⟩
theorem z55(O:Store)(h:Hash):ACallsTo TC 84 [.agg (hc h)] O (.str h.1) O:=z7l O h.1 h.2
theorem zlf(n:Nat):numS n ≠ []:=by
 unfold numS
 split<;>simp
theorem zs6(O:Store)(l:List Hash)(x:AV)(hx:SlV 32 (hr l) x)(hl:l.length<1000000):ACallsTo TC 164 [x] O (.str (z2v l)) O:=by
 refine ACallsTo.of_body q10ok (by simp) fun hw _=> ?_
 have r1:=hx.len
 rw [zn]at r1
 unfold z1f at r1
 unfold z2v
 by_cases h64:64<l.length
 ·rw [if_pos h64]
  repeat' (first|apply zA rfl|(apply zd_ rfl<;>intro ht<;>try omega)|((first|apply zB rfl|(apply zG<;>intro ht))<;>try simp (disch:=first|omega|simp only [lz,lu];try omega) only [go_sem,r1]))
  exact DownV.same hw z40
 ·rw [if_neg h64]
  have hN:=fun O=>z6h O l.length (by omega)
  have hNl:=z1u l.length
  have hNn:=zlf l.length
  generalize numS l.length=N at*
  have b0:BldN O (O++ [some [[.bld O.length,.bnil]]]) O.length []:=BldN.new (Nat.le_refl _) (by simp)
  obtain⟨O1,w1,b1⟩:=b0.write hNn (by simp;omega)
  rw [List.nil_append]at b1
  repeat' (first|apply zA rfl|(apply zd_ rfl<;>intro ht<;>try omega)|((first|apply zB rfl|(apply callW.mk_pu;(first|exact(fun _=>hN _)|exact(fun _=>w1)))|(apply callW.za;(first|exact(hN _)|exact(w1)))|(apply zG<;>intro ht))<;>try simp (disch:=first|omega|simp only [lz,lu];try omega) only [go_sem,r1]))
  refine zW.loop (fun m J O'=>∃i:Nat,m+i=l.length/\ BldN O O' O.length (N++catS (l.take i))/\ J 3=.ptr O.length 0 0/\ J 14=x/\ J 15=.int .i64 l.length/\ J 16=.int .i64 i) l.length ?_ ?_
  ·exact⟨0,by omega,by simpa [catS]using b1,by simp only [go_sem],by simp only [go_sem],by simp only [go_sem],by simp only [go_sem];rfl⟩
  ·clear w1 b1 b0
   rintro m J O' ⟨i,hm,hB,q3,q14,q15,q16⟩
   have hcl:=z45 (l.take i)
   rw [List.length_take]at hcl
   by_cases hi:i<l.length
   ·obtain⟨e1,rfl⟩:=hx.vsl (by rw [zn];omega)
    have hH:=fun O=>z55 O (hd l i)
    have hst:=zb7 hi
    have h32:=(hd l i).2
    obtain⟨O2,w2,b2⟩:=(hB.more [some [hc (hd l i)]]).write (t:=(hd l i).1) (by intro e;rw [e]at h32;simp at h32) (by simp;omega)
    repeat' (first|apply zA rfl|(apply zd_ rfl<;>intro ht<;>try omega)|((first|apply zB rfl|(apply callW.mk_pu;(first|exact(fun _=>hH _)|exact(fun _=>w2)))|(apply callW.za;(first|exact(hH _)|exact(w2)))|(apply zG<;>intro ht))<;>try simp (disch:=first|omega|simp only [lz,lu];try omega) only [go_sem,q3,q14,q15,q16]))
    refine⟨m-1,by omega,i+1,by omega,?_,by simp⟩
    rw [hst,<-List.append_assoc];exact b2
   ·have e:l.take i=l:=List.take_of_length_le (by omega)
    rw [e]at hB
    have hcl2:=z45 l
    obtain⟨news,w3⟩:=hB.string (by simp [hNn]) (by simp;omega)
    repeat' (first|apply zA rfl|(apply zd_ rfl<;>intro ht<;>try omega)|((first|apply zB rfl|(apply callW.mk_pu;exact(fun _=>w3))|(apply callW.za;exact(w3))|(apply zG<;>intro ht))<;>try simp (disch:=first|omega|simp only [lz,lu];try omega) only [go_sem,q3,q15,q16]))
    exact DownV.pure hw z40
theorem zs5(O:Store)(l:List Hash)(x:AV)(hx:RdSl O 32 (hr l) x)(hl:l.length<1000000):ACallsTo TC 164 [x] O (.str (z2v l)) O:=by
 obtain⟨x0,h0,hd⟩:=hx.lend (z3e l)
 have:=ACallsTo.lend glok (zs6 [] l x0 h0 hl) (drs1 hd)
 rwa [show sh O.length (.str (z2v l))=.str (z2v l)from rfl,z5b,List.append_nil]at this
def z5c(s:List UInt8):Hash:=shaH (3::s)
def z31(hs:List Hash):Hash:=if hs.length=512 then shaH (4::catS hs)else zeroH
theorem zeb(h:Hash):h.1 ≠ []:=fun e=>by have:=h.2;rw [e]at this;simp at this
theorem z49(h:Hash):RL k (.agg (hc h)):=by simp only [RL];exact z65 h
theorem zbg:hc zeroH=[.int .u8 0,.int .u8 0,.int .u8 0,.int .u8 0,.int .u8 0,.int .u8 0,.int .u8 0,.int .u8 0,.int .u8 0,.int .u8 0,.int .u8 0,.int .u8 0,.int .u8 0,.int .u8 0,.int .u8 0,.int .u8 0,.int .u8 0,.int .u8 0,.int .u8 0,.int .u8 0,.int .u8 0,.int .u8 0,.int .u8 0,.int .u8 0,.int .u8 0,.int .u8 0,.int .u8 0,.int .u8 0,.int .u8 0,.int .u8 0,.int .u8 0,.int .u8 0]:=rfl
theorem zcw(O:Store)(s:List UInt8)(h:s.length<100000000000):ACallsTo TC 85 [.str s] O (.agg (hc (shaH s))) O:=z89 O s h
theorem zga(O:Store)(s:List UInt8)(h:s.length<900000000):ACallsTo TC 94 [.str s] O (.agg (hc (shaH s))) O:=zn8 O s h
theorem zoa(O:Store)(s:List UInt8)(h:s.length<1000000):ACallsTo TC 87 [.str s] O (.agg (hc (z5c s))) O:=by
 have hS:=fun O=>zcw O (3::s) (by simp;omega)
 refine ACallsTo.of_body q1hok (by simp) fun hw _=> ?_
 unfold z5c
 repeat' (first|apply zA rfl|(apply zd_ rfl<;>intro ht<;>try omega)|((first|apply zB rfl|(apply callW.mk_pu;exact(fun _=>hS _))|(apply callW.za;exact(hS _))|(apply zG<;>intro ht))<;>try simp (disch:=first|omega|simp only [lz,lu];try omega) only [go_sem]))
 exact DownV.pure hw (z49 _)
theorem zho(O:Store)(hs:List Hash)(x:AV)(hx:SlV 32 (hr hs) x)(hl:hs.length<1000000):ACallsTo TC 40 [x] O (.agg (hc (z31 hs))) O:=by
 refine ACallsTo.of_body q19ok (by simp) fun hw _=> ?_
 have r1:=hx.len
 rw [zn]at r1
 unfold z1f at r1
 unfold z31
 by_cases h5:hs.length=512
 ·rw [if_pos h5]
  have h5':(hs.length:Int)=512:=by omega
  have hτ:(O++ [some [hc zeroH]]).length=O.length+1:=by simp
  have b0:BldN (O++ [some [hc zeroH]]) (O++ [some [hc zeroH]]++ [some [[.bld (O.length+1),.bnil]]]) (O.length+1) []:=BldN.new (by omega) (by rw [List.getElem?_append_right (by omega)];simp)
  have out:∀{O':Store} {s:List UInt8},BldN (O++ [some [hc zeroH]]) O' (O.length+1) s->O'[O.length]? =some (some [hc zeroH])/\ Ext O O':=fun h=>by
   obtain⟨news,rfl⟩:=h.ext
   exact⟨by simp,⟨some [hc zeroH]::news,by simp⟩⟩
  obtain⟨O1,w1,b1⟩:∃O1,ACallsTo TC 82 [.ptr (O.length+1) 0 0,.int .u8 4] (O++ [some [hc zeroH]]++ [some [[AV.bld (O.length+1),AV.bnil]]]) .any O1/\ BldN (O++ [some [hc zeroH]]) O1 (O.length+1) [4]:=b0.byte 4
  rw [List.append_assoc,zbg]at w1
  repeat' (first|apply zA rfl|(apply zd_ rfl<;>intro ht<;>try omega)|((first|apply zB rfl|(apply callW.mk_pu;exact(fun _=>w1))|(apply callW.za;exact(w1))|(apply zG<;>intro ht))<;>try simp (disch:=first|omega|simp only [lz,lu];try omega) only [go_sem,r1,h5']))
  refine zW.loop (fun m J O'=>∃i:Nat,m+i=hs.length/\ BldN (O++ [some [hc zeroH]]) O' (O.length+1) (4::catS (hs.take i))/\ J 2=.ptr O.length 0 0/\ J 3=.ptr (O.length+1) 0 0/\ J 11=x/\ J 12=.int .i64 512/\ J 13=.int .i64 i) hs.length ?_ ?_
  ·exact⟨0,by omega,by simpa [catS]using b1,by simp only [go_sem],by simp only [go_sem],by simp only [go_sem],by simp only [go_sem],by simp only [go_sem];rfl⟩
  ·clear w1 b1 b0
   rintro m J O' ⟨i,hm,hB,q2,q3,q11,q12,q13⟩
   have hcl:=z45 (hs.take i)
   rw [List.length_take]at hcl
   by_cases hi:i<hs.length
   ·obtain⟨e1,rfl⟩:=hx.vsl (by rw [zn];omega)
    have hH:=fun O=>z55 O (hd hs i)
    have hst:=zb7 hi
    have h32:=(hd hs i).2
    obtain⟨O2,w2,b2⟩:=(hB.more [some [hc (hd hs i)]]).write (t:=(hd hs i).1) (zeb _) (by simp;omega)
    have hi5:(i:Int)<512:=by omega
    repeat' (first|apply zA rfl|(apply zd_ rfl<;>intro ht<;>try omega)|((first|apply zB rfl|(apply callW.mk_pu;(first|exact(fun _=>hH _)|exact(fun _=>w2)))|(apply callW.za;(first|exact(hH _)|exact(w2)))|(apply zG<;>intro ht))<;>try simp (disch:=first|omega|simp only [lz,lu];try omega) only [go_sem,q2,q3,q11,q12,q13,hi5]))
    refine⟨m-1,by omega,i+1,by omega,?_,by simp⟩
    rw [hst,<-List.cons_append];exact b2
   ·have e:hs.take i=hs:=List.take_of_length_le (by omega)
    rw [e]at hB
    have hcl2:=z45 hs
    obtain⟨c0,he⟩:=out hB
    obtain⟨news,w3⟩:=hB.string (by simp) (by simp;omega)
    have hi5:¬(i:Int)<512:=by omega
    have hS:=fun O=>zcw O (4::catS hs) (by simp;omega)
    have ha:O++ [some [hc zeroH]]++news=O++(some [hc zeroH]::news):=by simp
    rw [ha]at w3
    repeat' (first|apply zA rfl|(apply zd_ rfl<;>intro ht<;>try omega)|((first|apply zB rfl|(apply callW.mk_pu;(first|exact(fun _=>w3)|exact(fun _=>hS _)))|(apply callW.za;(first|exact(w3)|exact(hS _)))|(apply zG<;>intro ht))<;>try simp (disch:=first|omega|simp only [lz,lu];try omega) only [go_sem,q2,q3,q12,q13,hi5]))
    exact DownV.pure hw (z49 _)
 ·have h5':¬(hs.length:Int)=512:=by omega
  rw [if_neg h5]
  repeat' (first|apply zA rfl|(apply zd_ rfl<;>intro ht<;>try omega)|((first|apply zB rfl|(apply zG<;>intro ht))<;>try simp (disch:=first|omega|simp only [lz,lu];try omega) only [go_sem,r1,h5']))
  exact DownV.pure hw (z49 zeroH)
theorem Leaf_h(O:Store)(hs:List Hash)(x:AV)(hx:RdSl O 32 (hr hs) x)(hl:hs.length<1000000):ACallsTo TC 40 [x] O (.agg (hc (z31 hs))) O:=by
 obtain⟨x0,h0,hd⟩:=hx.lend (z3e hs)
 have:=ACallsTo.lend glok (zho [] hs x0 h0 hl) (drs1 hd)
 rwa [show sh O.length (.agg (hc (z31 hs)))=.agg (hc (z31 hs))from by simp only [sh,zgv],z5b,List.append_nil]at this
theorem OwnR.appB(h:OwnR 1 k O' v es):z4l O' v ys=aApp O' 1 v ys:=by
 rcases h with⟨rfl,rfl⟩| ⟨r,_,_,rfl,h⟩<;>rfl
theorem zbf(h:Hash):chunk 1 32 (hc h)=zy h.1:=by have:=zds h.1;rwa [h.2]at this
theorem zzl(O:Store)(hs:List Hash)(r:Nat)(lim:Option Nat)(hg:O[r]? =some (some (hr hs)))(h5:hs.length=512):ACallsTo TC 157 [.sl r 0 512 lim 32] O (.agg (hc (z31 hs))) O:=by
 refine ACallsTo.of_body q1bok (by simp) fun hw _=> ?_
 unfold z31
 rw [if_pos h5]
 have dg:=slen hg
 repeat' (first|apply zA rfl|(apply zd_ rfl<;>intro ht<;>try omega)|((first|apply zB rfl|(apply zG<;>intro ht))<;>try simp (disch:=first|omega|simp only [lz,lu];try omega) only [go_sem]))
 refine zW.loop (fun m J O'=>∃(i:Nat) (v:AV),m+i=512/\ Ext O O'/\ O'[O.length]? =some (some [hc zeroH])/\ O.length+1<=O'.length/\ ((i=0/\ v=.vsl 1 (zy [4]) true) \/OwnR 1 (O.length+1) O' v (zy (4::catS (hs.take i))))/\ J 0=.sl r 0 512 lim 32/\ J 2=.ptr O.length 0 0/\ J 3=v/\ J 4=.int .i64 i) 512 ?_ ?_
 ·refine⟨0,.vsl 1 (zy [4]) true,by omega,(Ext.refl O).app,by simp;rfl,by simp,.inl ⟨rfl,rfl⟩,by simp only [go_sem],by simp only [go_sem],by simp only [go_sem];first|done|rfl,by simp only [go_sem];rfl⟩
 ·rintro m J O' ⟨i,v,hm,he,c0,hle,hv,q0,q2,q3,q4⟩
  have hcl:=z45 (hs.take i)
  rw [List.length_take]at hcl
  have hg':O'[r]? =some (some (hr hs)):=by
   obtain⟨y,rfl⟩:=he
   rw [gapp dg];exact hg
  by_cases hi:i<512
  ·have hgi:=z6o (l:=hs) (i:=i) (by omega)
   have hst:=zb7 (l:=hs) (i:=i) (by omega)
   have h32:=(hd hs i).2
   have hrw:=zbf (hd hs i)
   rcases hv with⟨rfl,rfl⟩|hO
   ·have h1:hs.take 1=[]++ [hd hs 0]:=z5e (l:=hs) (i:=0) (by omega)
    have hcat:zy [4]++zy (hd hs 0).1=zy (4::catS (hs.take 1)):=by rw [zax,h1];simp [catS]
    repeat' (first|apply zA rfl|(apply zd_ rfl<;>intro ht<;>try omega)|((first|apply zB rfl|(apply zG<;>intro ht))<;>try simp (disch:=first|omega|simp only [lz,lu];try omega) only [go_sem,q0,q2,q3,q4,hg',hgi,hrw,hcat]))
    refine⟨m-1,by omega,1,_,by omega,he.app,c0,by omega,.inr (.inr ⟨O'.length,by omega,by simp [zy],?_,by simp⟩),rfl,by simp⟩
    rw [zo,List.length_cons,z45,List.length_take]
    congr 1
    omega
   ·obtain⟨v',O2,ha,hO2,hk2,hE2,hl2⟩:=hO.app (ys:=zy (hd hs i).1) hle (by rw [zo];omega) (by rw [zo,zo,List.length_cons];omega)
    rw [<-hO.appB]at ha
    rw [zax,List.cons_append,<-hst]at hO2
    have c0':=hk2 O.length (by omega)
    rw [c0]at c0'
    repeat' (first|apply zA rfl|(apply zd_ rfl<;>intro ht<;>try omega)|((first|apply zB rfl|(apply zG<;>intro ht))<;>try simp (disch:=first|omega|simp only [lz,lu];try omega) only [go_sem,q0,q2,q3,q4,hg',hgi,hrw,ha]))
    exact⟨m-1,by omega,i+1,v',by omega,hE2 O (by omega) he,c0',by omega,.inr hO2,by simp⟩
  ·obtain rfl:i=512:=by omega
   rcases hv with⟨h,_⟩|hO
   ·omega
   ·rw [List.take_of_length_le (by omega)]at hO hcl
    have hcl2:=z45 hs
    have hS:=fun O=>zga O (4::catS hs) (by simp;omega)
    have dd0:=slen c0
    rcases hO with⟨h,_⟩| ⟨rb,hr1,_,rfl,hgb⟩
    ·simp [zy]at h
    ·rw [zo]at*
     repeat' (first|apply zA rfl|(apply zd_ rfl<;>intro ht<;>try omega)|((first|apply zB rfl|(apply callW.mk_pu;exact(fun _=>hS _))|(apply callW.za;exact(hS _))|(apply zG<;>intro ht))<;>try simp (disch:=first|omega|simp only [lz,lu];try omega) only [go_sem,q2,q3,q4,hgb,c0]))
     exact Ext.pure hw (he.set (by omega)) (z49 _)
end
section
def recS(sig d:List UInt8)(i:Nat)(L:List Hash):List Hash:=
 (L.set (2*i+bitS d i) (z5c ((sig.take (32*i+32)).drop (32*i)))).set (2*i+1-bitS d i) (toH ((sig.drop (8192+32*i)).take 32))
def recF(sig d:List UInt8):Nat->List Hash
 | 0=>List.replicate 512 zeroH
 |i+1=>recS sig d i (recF sig d i)
theorem z2q(sig d:List UInt8):∀i,(recF sig d i).length=512
 | 0=>by rw [recF,List.length_replicate]
 |i+1=>by rw [recF,recS,List.length_set,List.length_set,z2q sig d i]
theorem z8y(s:List UInt8)(i:Int):bitS s i<=1:=by
 unfold bitS
 split<;>omega
def recV(sig d:List UInt8):AV:=if sig.length=16384 then .tup [.agg (hc (z31 (recF sig d 256))),.int .i64 0]else .tup [.agg (hc zeroH),.int .i64 10]
theorem zeh:List.replicate 512 (hc zeroH)=hr (List.replicate 512 zeroH):=by rw [hr,List.map_replicate]
theorem zcn{h:Hash}{e:Int}:RL k (.tup [.agg (hc h),.int .i64 e]):=by simp only [RL,RLs];exact⟨z65 h,trivial,trivial⟩
attribute [local irreducible] ACallsTo ACallsP
theorem zpy(O:Store)(sig:List UInt8)(dg:Hash)(hs:sig.length<1000000):ACallsTo TC 134 [.str sig,.agg (hc dg)] O (recV sig dg.1) O:=by
 refine ACallsTo.of_body q1dok (by simp) fun hw _=> ?_
 unfold recV
 by_cases hl:sig.length=16384
 ·have hl':(sig.length:Int)=16384:=by omega
  rw [if_pos hl]
  have hC:=fun O=>z55 O dg
  have hz:=zeh
  rw [zbg]at hz
  repeat' (first|apply zA rfl|(apply zd_ rfl<;>intro ht<;>try omega)|((first|apply zB rfl|(apply callW.mk_pu;exact(fun _=>hC _))|(apply callW.za;exact(hC _))|(apply zG<;>intro ht))<;>try simp (disch:=first|omega|simp only [lz,z8,zn,lQr,zo,zw,lQd,z2q];try omega) only [go_sem,hl',hz]))
  refine zW.loop (fun m J O'=>∃i:Nat,m+i=256/\ Ext O O'/\ O'[O.length+1]? =some (some [hc zeroH])/\ O'[O.length+2]? =some (some (hr (recF sig dg.1 i)))/\ J 0=.str sig/\ J 4=.ptr (O.length+1) 0 0/\ J 6=.str dg.1/\ J 7=.sl (O.length+2) 0 512 (some 512) 32/\ J 19=.int .i64 i) 256 ?_ ?_
  ·exact⟨0,by omega,(Ext.refl O).app,by rw [z18 (by omega),Nat.add_sub_cancel_left];rfl,by rw [z18 (by omega),Nat.add_sub_cancel_left];rfl,by simp only [go_sem],by simp only [go_sem],by simp only [go_sem],by simp only [go_sem],by simp only [go_sem];rfl⟩
  ·rintro m J O' ⟨i,hm,he,c1,c2,q0,q4,q6,q7,q19⟩
   have d1:=slen c1
   have d2:=slen c2
   have hrl:=z2q sig dg.1 i
   by_cases hi:i<256
   ·have hi':(i:Int)<256:=by omega
    have hB:=fun O=>zil O dg.1 i (by omega) (by omega)
    have hb1:=z8y dg.1 i
    have hnx:recF sig dg.1 (i+1)=recS sig dg.1 i (recF sig dg.1 i):=rfl
    unfold recS at hnx
    have hSh:=fun O=>zoa O ((sig.take (32*i+32)).drop (32*i)) (by rw [List.length_drop,List.length_take];omega)
    have hU:=fun O=>z7m O (sig.drop (8192+32*i)) (by rw [List.length_drop];omega)
    rw [z6b (by rw [List.length_drop];omega),z8h]at hU
    generalize recF sig dg.1 i=L at*
    generalize bitS dg.1 i=b at*
    generalize z5c ((sig.take (32*i+32)).drop (32*i))=A at*
    generalize toH ((sig.drop (8192+32*i)).take 32)=B at*
    have n1:((i:Int)*32).toNat=32*i:=by omega
    have n2:(((i:Int)+1)*32).toNat=32*i+32:=by omega
    have n3:((256+(i:Int))*32).toNat=8192+32*i:=by omega
    have n4:(2*(i:Int)+b).toNat=2*i+b:=by omega
    have n5:(2*(i:Int)+1-b).toNat=2*i+1-b:=by omega
    have m1:(L.set (2*i+b) A).length=512:=by rw [List.length_set];exact hrl
    have g1:=z6o (l:=L) (i:=2*i+b) (by omega)
    have g2:=z6o (l:=L.set (2*i+b) A) (i:=2*i+1-b) (by omega)
    repeat' (first|apply zA rfl|(apply zd_ rfl<;>intro ht<;>try omega)|((first|apply zB rfl|(apply callW.mk_pu;(first|exact(fun _=>hB _)|exact(fun _=>hSh _)|exact(fun _=>hU _)))|(apply callW.za;(first|exact(hB _)|exact(hSh _)|exact(hU _)))|(apply zG<;>intro ht))<;>try simp (disch:=first|omega|simp only [lz,z8,zn,lQr,zo,zw,lQd,z2q];try omega) only [go_sem,q0,q4,q6,q7,q19,c1,c2,hi',n1,n2,n3,n4,n5,g1,g2]))
    exact⟨m-1,by omega,i+1,by omega,he.set (by omega),by rw [hnx],by simp⟩
   ·have hi':¬(i:Int)<256:=by omega
    obtain rfl:i=256:=by omega
    have hL:=fun y=>Leaf_h (O'++y) (recF sig dg.1 256) (.sl (O.length+2) 0 512 (some 512) 32) (.inr ⟨O.length+2,0,some 512,hr (recF sig dg.1 256),by rw [zn,hrl],by rw [gapp d2];exact c2,by rw [zn,hrl];decide,by rw [List.drop_zero,List.take_of_length_le (Nat.le_refl _)]⟩) (by omega)
    have hL0:=hL []
    rw [List.append_nil]at hL0
    repeat' (first|apply zA rfl|(apply zd_ rfl<;>intro ht<;>try omega)|((first|apply zB rfl|(apply callW.mk_pu;exact(fun _=>hL0))|(apply callW.za;exact(hL0))|(apply zG<;>intro ht))<;>try simp (disch:=first|omega|simp only [lz,z8,zn,lQr,zo,zw,lQd,z2q];try omega) only [go_sem,q4,q7,q19,c1,hi']))
    exact Ext.pure hw (he.set (by omega)) zcn
 ·have hl':¬(sig.length:Int)=16384:=by omega
  rw [if_neg hl]
  repeat' (first|apply zA rfl|(apply zd_ rfl<;>intro ht<;>try omega)|((first|apply zB rfl|(apply zG<;>intro ht))<;>try simp (disch:=first|omega|simp only [lz,z8,zn,lQr,zo,zw,lQd,z2q];try omega) only [go_sem,hl']))
  exact DownV.pure hw (zcn (h:=zeroH))
theorem zzm(O:Store)(sig:List UInt8)(dg:Hash)(hs:sig.length<1000000):ACallsTo TC 139 [.str sig,.agg (hc dg)] O (recV sig dg.1) O:=by
 refine ACallsTo.of_body q1eok (by simp) fun hw _=> ?_
 unfold recV
 by_cases hl:sig.length=16384
 ·have hl':(sig.length:Int)=16384:=by omega
  rw [if_pos hl]
  have hz:=zeh
  rw [zbg]at hz
  repeat' (first|apply zA rfl|(apply zd_ rfl<;>intro ht<;>try omega)|((first|apply zB rfl|(apply zG<;>intro ht))<;>try simp (disch:=first|omega|simp only [lz,z8,zn,lQr,zo,zw,lQd,z2q];try omega) only [go_sem,hl',hz]))
  refine zW.loop (fun m J O'=>∃i:Nat,m+i=256/\ Ext O O'/\ O'[O.length]? =some (some [hc dg])/\ O'[O.length+1]? =some (some [hc zeroH])/\ O'[O.length+2]? =some (some (hr (recF sig dg.1 i)))/\ J 0=.str sig/\ J 3=.ptr O.length 0 0/\ J 4=.ptr (O.length+1) 0 0/\ J 6=.sl (O.length+2) 0 512 (some 512) 32/\ J 7=.int .i64 i) 256 ?_ ?_
  ·exact⟨0,by omega,(Ext.refl O).app,by rw [z18 (by omega),Nat.sub_self];rfl,by rw [z18 (by omega),Nat.add_sub_cancel_left];rfl,by rw [z18 (by omega),Nat.add_sub_cancel_left];rfl,by simp only [go_sem],by simp only [go_sem],by simp only [go_sem],by simp only [go_sem],by simp only [go_sem];rfl⟩
  ·rintro m J O' ⟨i,hm,he,c0,c1,c2,q0,q3,q4,q6,q7⟩
   have d0:=slen c0
   have d1:=slen c1
   have d2:=slen c2
   have hrl:=z2q sig dg.1 i
   by_cases hi:i<256
   ·have hi':(i:Int)<256:=by omega
    have hB:=fun O=>z122 O dg.1 i (by omega) (by omega)
    have hb1:=z8y dg.1 i
    have hnx:recF sig dg.1 (i+1)=recS sig dg.1 i (recF sig dg.1 i):=rfl
    unfold recS at hnx
    have hSh:∀O,ACallsTo TC 94 [.str (3::(sig.take (32*i+32)).drop (32*i))] O (.agg (hc (z5c ((sig.take (32*i+32)).drop (32*i))))) O:=fun O=>zga O _ (by rw [List.length_cons,List.length_drop,List.length_take];omega)
    have hU:=fun O=>z9t O (sig.drop (8192+32*i)) (by rw [List.length_drop];omega)
    rw [z6b (by rw [List.length_drop];omega),z8h]at hU
    have hch:=zbf dg
    have hsl:((sig.take (32*i+32)).drop (32*i)).length=32:=by rw [List.length_drop,List.length_take];omega
    generalize recF sig dg.1 i=L at*
    generalize bitS dg.1 i=b at*
    generalize z5c ((sig.take (32*i+32)).drop (32*i))=A at*
    generalize toH ((sig.drop (8192+32*i)).take 32)=B at*
    have n1:(32*(i:Int)).toNat=32*i:=by omega
    have n2:(32*(i:Int)+32).toNat=32*i+32:=by omega
    have n3:(8192+32*(i:Int)).toNat=8192+32*i:=by omega
    have n4:(2*(i:Int)+b).toNat=2*i+b:=by omega
    have n5:(2*(i:Int)+1-b).toNat=2*i+1-b:=by omega
    have m1:(L.set (2*i+b) A).length=512:=by rw [List.length_set];exact hrl
    have g1:=z6o (l:=L) (i:=2*i+b) (by omega)
    have g2:=z6o (l:=L.set (2*i+b) A) (i:=2*i+1-b) (by omega)
    repeat' (first|apply zA rfl|(apply zd_ rfl<;>intro ht<;>try omega)|((first|apply zB rfl|(apply callW.mk_pu;(first|exact(fun _=>hB _)|exact(fun _=>hSh _)|exact(fun _=>hU _)))|(apply callW.za;(first|exact(hB _)|exact(hSh _)|exact(hU _)))|(apply zG<;>intro ht))<;>try simp (disch:=first|omega|simp only [lz,z8,zn,lQr,zo,zw,lQd,z2q];try omega) only [go_sem,q0,q3,q4,q6,q7,c0,c1,c2,hi',n1,n2,n3,n4,n5,g1,g2,hch,hsl]))
    exact⟨m-1,by omega,i+1,by omega,(he.set (by omega)).app,by rw [hnx],by simp⟩
   ·have hi':¬(i:Int)<256:=by omega
    obtain rfl:i=256:=by omega
    have hL:=fun y=>zzl (O'++y) (recF sig dg.1 256) (O.length+2) (some 512) (by rw [gapp d2];exact c2) hrl
    have hL0:=hL []
    rw [List.append_nil]at hL0
    repeat' (first|apply zA rfl|(apply zd_ rfl<;>intro ht<;>try omega)|((first|apply zB rfl|(apply callW.mk_pu;exact(fun _=>hL0))|(apply callW.za;exact(hL0))|(apply zG<;>intro ht))<;>try simp (disch:=first|omega|simp only [lz,z8,zn,lQr,zo,zw,lQd,z2q];try omega) only [go_sem,q4,q6,q7,c1,hi']))
    exact Ext.pure hw (he.set (by omega)) zcn
 ·have hl':¬(sig.length:Int)=16384:=by omega
  rw [if_neg hl]
  repeat' (first|apply zA rfl|(apply zd_ rfl<;>intro ht<;>try omega)|((first|apply zB rfl|(apply zG<;>intro ht))<;>try simp (disch:=first|omega|simp only [lz,z8,zn,lQr,zo,zw,lQd,z2q];try omega) only [go_sem,hl']))
  exact DownV.pure hw (zcn (h:=zeroH))
end
section
def z2m:Nat->Nat->Nat->Nat × Nat
 | 0,i,l=>(i,l)
 |f+1,i,l=>if i%2=0/\ 0<i then z2m f (i/2) (l/2)else(i,l)
def z2e:List Hash->Hash->Nat->Nat->Hash × Nat × Nat
 | [],h,_,l=>(h,l,0)
 |p::ps,h,i,l=>if l=0 then(h,0,0)else
  if i%2=1 \/i=l then let r:=z2e ps (z1b p h) ((z2m 13 i l).1/2) ((z2m 13 i l).2/2);(r.1,r.2.1,r.2.2+1)
  else let r:=z2e ps (z1b h p) (i/2) (l/2);(r.1,r.2.1,r.2.2+1)
def z2y(r:Hash × Nat × Nat)(root:Hash)(len:Nat):Int:=if r.2.1 ≠ 0 \/r.2.2 ≠ len \/r.1 ≠ root then 80 else 0
def chkP(leaf:Hash)(i n:Int)(path:List Hash)(root:Hash):Int:=
 if n<1 \/4096<n \/i<0 \/n<=i then 2 else z2y (z2e path leaf i.toNat (n.toNat-1)) root path.length
theorem zom{f l:Nat}(h:¬(i%2=0/\ 0<i)):z2m f i l=(i,l):=by
 cases f with
 |zero=>rfl
 |succ f=>rw [z2m,if_neg h]
attribute [local irreducible] ACallsTo ACallsP
theorem zpe(O:Store)(leaf:Hash)(i n:Int)(path:List Hash)(x:AV)(root:Hash)(hx:SlV 32 (hr path) x)(hl:path.length<1000000)(hi: -9223372036854775808<=i/\ i<=9223372036854775807)(hn: -9223372036854775808<=n/\ n<=9223372036854775807):
  ACallsTo TC 135 [.agg (hc leaf),.int .i64 i,.int .i64 n,x,.agg (hc root)] O (.int .i64 (chkP leaf i n path root)) O:=by
 have r1:=hx.len
 rw [zn]at r1
 unfold z1f at r1
 unfold chkP
 by_cases hb:n<1 \/4096<n \/i<0 \/n<=i
 ·rw [if_pos hb]
  refine ACallsTo.of_body q15ok (by simp) fun hw _=> ?_
  repeat' (first|apply zA rfl|(apply zd_ rfl<;>intro ht<;>try omega)|((first|apply zB rfl|(apply zG<;>intro ht))<;>try simp (disch:=first|omega|simp only [lz,lu];try omega) only [go_sem]))
  all_goals exact DownV.pure hw (z15 _ rfl)
 ·rw [if_neg hb]
  obtain⟨i,rfl⟩:∃k:Nat,i=k:=⟨i.toNat,by omega⟩
  obtain⟨l,rfl⟩:∃l:Nat,n=((l+1:Nat):Int):=⟨n.toNat-1,by omega⟩
  rw [Int.toNat_natCast,Int.toNat_natCast,Nat.add_sub_cancel]
  have hl1:((l+1:Nat):Int)-1=(l:Int):=by omega
  refine ACallsTo.of_body q15ok (by simp) fun hw _=> ?_
  repeat' (first|apply zA rfl|(apply zd_ rfl<;>intro ht<;>try omega)|((first|apply zB rfl|(apply zG<;>intro ht))<;>try simp (disch:=first|omega|simp only [lz,lu];try omega) only [go_sem,r1,hl1]))
  obtain⟨R,hR⟩:∃R,z2e path leaf i l=R:=⟨_,rfl⟩
  rw [hR]
  refine zW.loop (fun m J O'=>∃(k i' l':Nat) (h:Hash),m+k=path.length/\ Ext O O'/\ i'<=l'/\ l'<4096/\ R=((z2e (path.drop k) h i' l').1,(z2e (path.drop k) h i' l').2.1,(z2e (path.drop k) h i' l').2.2+k)/\ O'[O.length]? =some (some [hc h])/\ O'[O.length+1]? =some (some [hc root]) ∧
   J 1=.int .i64 i'/\ J 3=x/\ J 5=.ptr O.length 0 0/\ J 9=.ptr (O.length+1) 0 0/\ J 11=.int .i64 l'/\ J 12=.int .i64 k/\ J 32=x/\ J 33=.int .i64 path.length/\ J 34=.int .i64 k) path.length ?_ ?_
  ·exact⟨0,i,l,leaf,by omega,(Ext.refl O).app,by omega,by omega,by rw [List.drop_zero,hR];rfl,by simp,by simp,by simp only [go_sem],by simp only [go_sem],by simp only [go_sem],by simp only [go_sem],by simp only [go_sem],by simp only [go_sem];rfl,by simp only [go_sem],by simp only [go_sem],by simp only [go_sem];rfl⟩
  ·clear hR
   rintro m J O' ⟨k,i',l',h,hm,he,hil,hl4,hR,c0,c1,q1,q3,q5,q9,q11,q12,q32,q33,q34⟩
   have d0:=slen c0
   have d1:=slen c1
   by_cases hk:k<path.length
   ·have hdr:path.drop k=hd path k::path.drop (k+1):=by
     rw [List.drop_eq_getElem_cons hk,z9d hk]
    rw [hdr]at hR
    obtain⟨ex,rfl⟩:=hx.vsl (by rw [zn];omega)
    by_cases hl0:l'=0
    ·subst hl0
     simp only [z2e,if_true]at hR
     subst hR
     repeat' (first|apply zA rfl|(apply zd_ rfl<;>intro ht<;>try omega)|((first|apply zB rfl|(apply zG<;>intro ht))<;>try simp (disch:=first|omega|simp only [lz,lu];try omega) only [go_sem,q3,q11,q12,q32,q33,q34]))
     have hE:z2y (h,0,0+k) root path.length=80:=by
      unfold z2y
      rw [if_pos (.inr (.inl (by show 0+k ≠ _;omega)))]
     rw [Nat.zero_add]at hE
     rw [hE]
     exact Ext.pure hw he.app (z15 _ rfl)
    ·have hl0':¬(l':Int)=0:=by omega
     have t1:(i':Int)/2=((i'/2:Nat):Int):=by simp
     have t2:(l':Int)/2=((l'/2:Nat):Int):=by simp
     by_cases hcc:i'%2=1 \/i'=l'
     ·simp only [z2e]at hR
      rw [if_neg hl0,if_pos hcc]at hR
      have hN:=fun O=>zow O (hd path k) h
      generalize z1b (hd path k) h=h2 at*
      rcases Nat.mod_two_eq_zero_or_one i' with hp|hp
      ·have hp':(i':Int)%2=0:=by omega
       have hil2:(i':Int)=l':=by omega
       repeat' (first|apply zA rfl|(apply zd_ rfl<;>intro ht<;>try omega)|((first|apply zB rfl|(apply callW.mk_pu;exact(fun _=>hN _))|(apply callW.za;exact(hN _))|(apply zG<;>intro ht))<;>try simp (disch:=first|omega|simp only [lz,lu];try omega) only [go_sem,q1,q5,q11,q32,q33,q34,c0,hl0',hil2]))
       refine zW.loop (fun m2 J2 O2=>∃(i2 l2 f:Nat),m2=i2/\ O2=O'.set O.length (some [hc h2])++ [some [hc (hd path k)]]/\ z2m f i2 l2=z2m 13 i' l'/\ i2<2^f/\ i2<=l2/\ l2<=l'/\ J2 1=.int .i64 i2/\ J2 3=.vsl 32 (hr path) ex/\ J2 5=.ptr O.length 0 0/\ J2 9=.ptr (O.length+1) 0 0/\ J2 11=.int .i64 l2/\ J2 12=.int .i64 k/\ J2 32=.vsl 32 (hr path) ex/\ J2 33=.int .i64 path.length/\ J2 34=.int .i64 k) i' ?_ ?_
       ·exact⟨i',l',13,rfl,rfl,rfl,by omega,hil,Nat.le_refl _,by simp only [go_sem,q1],by simp only [go_sem,q3],by simp only [go_sem,q5],by simp only [go_sem,q9],by simp only [go_sem,q11],by simp only [go_sem,q12],by simp only [go_sem,q32],by simp only [go_sem,q33],by simp only [go_sem,q34]⟩
       ·rintro m2 J2 O2 ⟨i2,l2,f,rfl,rfl,hst,hf,hil2,hll,p1,p3,p5,p9,p11,p12,p32,p33,p34⟩
        have t3:(m2:Int)/2=((m2/2:Nat):Int):=by simp
        have t4:(l2:Int)/2=((l2/2:Nat):Int):=by simp
        clear q1 q3 q5 q9 q11 q12 q32 q33 q34
        by_cases hc2:m2%2=0/\ 0<m2
        ·have u1:(m2:Int)%2=0:=by omega
         have u2:(m2:Int)>0:=by omega
         cases f with
         |zero=>simp at hf;omega
         |succ f=>
          rw [z2m,if_pos hc2]at hst
          rw [Nat.pow_succ]at hf
          repeat' (first|apply zA rfl|(apply zd_ rfl<;>intro ht<;>try omega)|((first|apply zB rfl|(apply zG<;>intro ht))<;>try simp (disch:=first|omega|simp only [lz,lu];try omega) only [go_sem,p1,p3,p5,p9,p11,p12,p32,p33,p34,u1,u2,t3,t4]))
          exact⟨m2/2,by omega,m2/2,l2/2,f,rfl,hst,by omega,by omega,by omega,by simp⟩
        ·rw [zom hc2]at hst
         rw [<-hst]at hR
         rcases Nat.eq_zero_or_pos m2 with hz|hz
         ·subst hz
          repeat' (first|apply zA rfl|(apply zd_ rfl<;>intro ht<;>try omega)|((first|apply zB rfl|(apply zG<;>intro ht))<;>try simp (disch:=first|omega|simp only [lz,lu];try omega) only [go_sem,p1,p3,p5,p9,p11,p12,p32,p33,p34,t3,t4]))
          exact⟨m-1,by omega,k+1,0,l2/2,h2,by omega,(he.set (by omega)).app,by omega,by omega,by rw [hR];simp [Nat.add_assoc,Nat.add_comm 1 k],by simp [c1]⟩
         ·have u1:¬(m2:Int)%2=0:=by omega
          repeat' (first|apply zA rfl|(apply zd_ rfl<;>intro ht<;>try omega)|((first|apply zB rfl|(apply zG<;>intro ht))<;>try simp (disch:=first|omega|simp only [lz,lu];try omega) only [go_sem,p1,p3,p5,p9,p11,p12,p32,p33,p34,u1,t3,t4]))
          exact⟨m-1,by omega,k+1,m2/2,l2/2,h2,by omega,(he.set (by omega)).app,by omega,by omega,by rw [hR];simp [Nat.add_assoc,Nat.add_comm 1 k],by simp [c1]⟩
      ·have hp':(i':Int)%2=1:=by omega
       repeat' (first|apply zA rfl|(apply zd_ rfl<;>intro ht<;>try omega)|((first|apply zB rfl|(apply callW.mk_pu;exact(fun _=>hN _))|(apply callW.za;exact(hN _))|(apply zG<;>intro ht))<;>try simp (disch:=first|omega|simp only [lz,lu];try omega) only [go_sem,q1,q5,q11,q32,q33,q34,c0,hl0',hp']))
       refine zW.loop (fun m2 J2 O2=>∃(i2 l2 f:Nat),m2=i2/\ O2=O'.set O.length (some [hc h2])++ [some [hc (hd path k)]]/\ z2m f i2 l2=z2m 13 i' l'/\ i2<2^f/\ i2<=l2/\ l2<=l'/\ J2 1=.int .i64 i2/\ J2 3=.vsl 32 (hr path) ex/\ J2 5=.ptr O.length 0 0/\ J2 9=.ptr (O.length+1) 0 0/\ J2 11=.int .i64 l2/\ J2 12=.int .i64 k/\ J2 32=.vsl 32 (hr path) ex/\ J2 33=.int .i64 path.length/\ J2 34=.int .i64 k) i' ?_ ?_
       ·exact⟨i',l',13,rfl,rfl,rfl,by omega,hil,Nat.le_refl _,by simp only [go_sem,q1],by simp only [go_sem,q3],by simp only [go_sem,q5],by simp only [go_sem,q9],by simp only [go_sem,q11],by simp only [go_sem,q12],by simp only [go_sem,q32],by simp only [go_sem,q33],by simp only [go_sem,q34]⟩
       ·rintro m2 J2 O2 ⟨i2,l2,f,rfl,rfl,hst,hf,hil2,hll,p1,p3,p5,p9,p11,p12,p32,p33,p34⟩
        have t3:(m2:Int)/2=((m2/2:Nat):Int):=by simp
        have t4:(l2:Int)/2=((l2/2:Nat):Int):=by simp
        clear q1 q3 q5 q9 q11 q12 q32 q33 q34
        by_cases hc2:m2%2=0/\ 0<m2
        ·have u1:(m2:Int)%2=0:=by omega
         have u2:(m2:Int)>0:=by omega
         cases f with
         |zero=>simp at hf;omega
         |succ f=>
          rw [z2m,if_pos hc2]at hst
          rw [Nat.pow_succ]at hf
          repeat' (first|apply zA rfl|(apply zd_ rfl<;>intro ht<;>try omega)|((first|apply zB rfl|(apply zG<;>intro ht))<;>try simp (disch:=first|omega|simp only [lz,lu];try omega) only [go_sem,p1,p3,p5,p9,p11,p12,p32,p33,p34,u1,u2,t3,t4]))
          exact⟨m2/2,by omega,m2/2,l2/2,f,rfl,hst,by omega,by omega,by omega,by simp⟩
        ·rw [zom hc2]at hst
         rw [<-hst]at hR
         rcases Nat.eq_zero_or_pos m2 with hz|hz
         ·subst hz
          repeat' (first|apply zA rfl|(apply zd_ rfl<;>intro ht<;>try omega)|((first|apply zB rfl|(apply zG<;>intro ht))<;>try simp (disch:=first|omega|simp only [lz,lu];try omega) only [go_sem,p1,p3,p5,p9,p11,p12,p32,p33,p34,t3,t4]))
          exact⟨m-1,by omega,k+1,0,l2/2,h2,by omega,(he.set (by omega)).app,by omega,by omega,by rw [hR];simp [Nat.add_assoc,Nat.add_comm 1 k],by simp [c1]⟩
         ·have u1:¬(m2:Int)%2=0:=by omega
          repeat' (first|apply zA rfl|(apply zd_ rfl<;>intro ht<;>try omega)|((first|apply zB rfl|(apply zG<;>intro ht))<;>try simp (disch:=first|omega|simp only [lz,lu];try omega) only [go_sem,p1,p3,p5,p9,p11,p12,p32,p33,p34,u1,t3,t4]))
          exact⟨m-1,by omega,k+1,m2/2,l2/2,h2,by omega,(he.set (by omega)).app,by omega,by omega,by rw [hR];simp [Nat.add_assoc,Nat.add_comm 1 k],by simp [c1]⟩
     ·simp only [z2e]at hR
      rw [if_neg hl0,if_neg hcc]at hR
      have hN:=fun O=>zow O h (hd path k)
      generalize z1b h (hd path k)=h2 at*
      have hp':(i':Int)%2=0:=by omega
      have hne:¬(i':Int)=l':=by omega
      repeat' (first|apply zA rfl|(apply zd_ rfl<;>intro ht<;>try omega)|((first|apply zB rfl|(apply callW.mk_pu;exact(fun _=>hN _))|(apply callW.za;exact(hN _))|(apply zG<;>intro ht))<;>try simp (disch:=first|omega|simp only [lz,lu];try omega) only [go_sem,q1,q3,q5,q9,q11,q12,q32,q33,q34,c0,c1,hl0',hp',hne,t1,t2]))
      exact⟨m-1,by omega,k+1,i'/2,l'/2,h2,by omega,(he.set (by omega)).app,by omega,by omega,by rw [hR];simp [Nat.add_assoc,Nat.add_comm 1 k],by simp [c1]⟩
   ·obtain rfl:k=path.length:=by omega
    rw [List.drop_of_length_le (Nat.le_refl _)]at hR
    simp only [z2e,Nat.zero_add]at hR
    subst hR
    unfold z2y
    by_cases h1:l'=0
    ·subst h1
     by_cases h2:h=root
     ·subst h2
      rw [if_neg (by simp)]
      repeat' (first|apply zA rfl|(apply zd_ rfl<;>intro ht<;>try omega)|((first|apply zB rfl|(apply zG<;>intro ht))<;>try simp (disch:=first|omega|simp only [lz,lu];try omega) only [go_sem,q3,q5,q9,q11,q12,q33,q34,c0,c1,r1]))
      exact Ext.pure hw he (z15 _ rfl)
     ·rw [if_pos (.inr (.inr h2))]
      repeat' (first|apply zA rfl|(apply zd_ rfl<;>intro ht<;>try omega)|((first|apply zB rfl|(apply zG<;>intro ht))<;>try simp (disch:=first|omega|simp only [lz,lu];try omega) only [go_sem,q3,q5,q9,q11,q12,q33,q34,c0,c1,r1,h2]))
      exact Ext.pure hw he (z15 _ rfl)
    ·rw [if_pos (.inl h1)]
     have hl0':¬(l':Int)=0:=by omega
     repeat' (first|apply zA rfl|(apply zd_ rfl<;>intro ht<;>try omega)|((first|apply zB rfl|(apply zG<;>intro ht))<;>try simp (disch:=first|omega|simp only [lz,lu];try omega) only [go_sem,q11,q33,q34,hl0']))
     exact Ext.pure hw he (z15 _ rfl)
end
section
def z2o:List Hash->Hash->Nat->Nat->Hash × Bool
 | [],h,_,n=>(h,decide (n=1))
 |x::rs,h,i,n=>if n=1 then(h,false)else
  if i<z1c n then(z1b (z2o rs h i (z1c n)).1 x,(z2o rs h i (z1c n)).2)
  else(z1b x (z2o rs h (i-z1c n) (n-z1c n)).1,(z2o rs h (i-z1c n) (n-z1c n)).2)
def chkR(leaf:Hash)(i n:Int)(path:List Hash)(root:Hash):Int:=
 if n<1 \/4096<n \/i<0 \/n<=i then 2 else if (z2o path.reverse leaf i.toNat n.toNat).2=false \/(z2o path.reverse leaf i.toNat n.toNat).1 ≠ root then 80 else 0
theorem z74{h:Hash}{b:Bool}:RL k (.tup [.agg (hc h),.bool b]):=by simp only [RL,RLs];exact⟨z65 h,trivial,trivial⟩
theorem zzu{P:List Hash}{m:Nat}(h:P.length=m+1):P.reverse=hd P m::(P.take m).reverse:=by
 have e:P=P.take m++ [hd P m]:=by rw [<-z5e (by omega),List.take_of_length_le (by omega)]
 conv=>lhs;rw [e]
 rw [List.reverse_append,List.reverse_singleton,List.singleton_append]
attribute [local irreducible] ACallsTo ACallsP
theorem come_v:∀(f:Nat) (O:Store) (leaf:Hash) (i n:Nat) (P:List Hash) (x:AV),P.length<=f->SlV 32 (hr P) x->P.length<1000000->1<=n->n<=4096->i<n->
  ACallsTo TC 158 [.agg (hc leaf),.int .i64 i,.int .i64 n,x] O (.tup [.agg (hc (z2o P.reverse leaf i n).1),.bool (z2o P.reverse leaf i n).2]) O:=by
 intro f
 induction f with
 |zero=>
  intro O leaf i n P x hf hx hl h1 h4 hi
  obtain rfl:P=[]:=List.eq_nil_of_length_eq_zero (by omega)
  have r1:=hx.len
  rw [zn]at r1
  unfold z1f at r1
  simp only [List.reverse_nil,z2o]
  refine ACallsTo.of_body q18ok (by simp) fun hw _=> ?_
  by_cases hn:n=1
  ·subst hn
   repeat' (first|apply zA rfl|(apply zd_ rfl<;>intro ht<;>try omega)|((first|apply zB rfl|(apply zG<;>intro ht))<;>try simp (disch:=first|omega|simp only [lz,lu];try omega) only [go_sem,r1]))
   exact DownV.pure hw z74
  ·have hn':¬(n:Int)=1:=by omega
   rw [decide_eq_false hn]
   repeat' (first|apply zA rfl|(apply zd_ rfl<;>intro ht<;>try omega)|((first|apply zB rfl|(apply zG<;>intro ht))<;>try simp (disch:=first|omega|simp only [lz,lu];try omega) only [go_sem,r1,hn']))
   exact DownV.pure hw z74
 |succ f ih=>
  intro O leaf i n P x hf hx hl h1 h4 hi
  have r1:=hx.len
  rw [zn]at r1
  unfold z1f at r1
  rcases Nat.eq_zero_or_pos P.length with h0|hpos
  ·exact ih O leaf i n P x (by omega) hx hl h1 h4 hi
  ·obtain⟨m,hm⟩:∃m,P.length=m+1:=⟨P.length-1,by omega⟩
   obtain⟨ex,rfl⟩:=hx.vsl (by rw [zn];omega)
   rw [zzu hm]
   simp only [z2o]
   refine ACallsTo.of_body q18ok (by simp) fun hw _=> ?_
   have hz:¬(P.length:Int)=0:=by omega
   by_cases hn:n=1
   ·subst hn
    simp only [if_true]
    repeat' (first|apply zA rfl|(apply zd_ rfl<;>intro ht<;>try omega)|((first|apply zB rfl|(apply zG<;>intro ht))<;>try simp (disch:=first|omega|simp only [lz,lu];try omega) only [go_sem,hz]))
    exact DownV.pure hw z74
   ·rw [if_neg hn]
    have hn':¬(n:Int)=1:=by omega
    have hm1:(P.length:Int)-1=(m:Int):=by omega
    have hmm:((m:Nat):Int).toNat=m:=rfl
    have hS:=fun O=>zzp O n (by omega)
    obtain⟨s1,s2⟩:1<=z1c n/\ z1c n<n:=⟨(z9z (by omega)).2.2,(z9z (by omega)).1⟩
    generalize z1c n=s at*
    by_cases his:i<s
    ·rw [if_pos his]
     have his':(i:Int)<s:=by omega
     have hI:=fun O t=>ih O leaf i s (P.take m) (.vsl 32 (hr (P.take m)) t) (by rw [List.length_take];omega) (.inr ⟨t,rfl⟩) (by rw [List.length_take];omega) s1 (by omega) his
     have hN:=fun O=>zn7 O (z2o (P.take m).reverse leaf i s).1 (hd P m)
     generalize z2o (P.take m).reverse leaf i s=r at*
     repeat' (first|apply zA rfl|(apply zd_ rfl<;>intro ht<;>try omega)|((first|apply zB rfl|(apply zG<;>intro ht))<;>try simp (disch:=first|omega|simp only [lz,lu];try omega) only [go_sem,hz,hn']))
     refine zW.reg2 ?_ ?_
     ·simp (disch:=first|omega|simp only [lz,lu];try omega) only [go_sem]
      repeat' (first|apply zA rfl|(apply zd_ rfl<;>intro ht<;>try omega)|((first|apply zB rfl|(apply callW.mk_pu;(first|exact(fun _=>hS _)|exact(fun _=>hI _ _)|exact(fun _=>hN _)))|(apply callW.za;(first|exact(hS _)|exact(hI _ _)|exact(hN _)))|(apply zG<;>intro ht))<;>try simp (disch:=first|omega|simp only [lz,lu];try omega) only [go_sem,hm1,hmm,his']))
      exact DownV.pure hw z74
     ·simp (disch:=first|omega|simp only [lz,lu];try omega) only [go_sem]
      repeat' (first|apply zA rfl|(apply zd_ rfl<;>intro ht<;>try omega)|((first|apply zB rfl|(apply callW.mk_pu;(first|exact(fun _=>hS _)|exact(fun _=>hI _ _)|exact(fun _=>hN _)))|(apply callW.za;(first|exact(hS _)|exact(hI _ _)|exact(hN _)))|(apply zG<;>intro ht))<;>try simp (disch:=first|omega|simp only [lz,lu];try omega) only [go_sem,hm1,hmm,his']))
      exact DownV.pure hw z74
    ·rw [if_neg his]
     have his':¬(i:Int)<s:=by omega
     have hI:=fun O t=>ih O leaf (i-s) (n-s) (P.take m) (.vsl 32 (hr (P.take m)) t) (by rw [List.length_take];omega) (.inr ⟨t,rfl⟩) (by rw [List.length_take];omega) (by omega) (by omega) (by omega)
     have hN:=fun O=>zn7 O (hd P m) (z2o (P.take m).reverse leaf (i-s) (n-s)).1
     have e1:(i:Int)-s=((i-s:Nat):Int):=by omega
     have e2:(n:Int)-s=((n-s:Nat):Int):=by omega
     generalize z2o (P.take m).reverse leaf (i-s) (n-s)=r at*
     repeat' (first|apply zA rfl|(apply zd_ rfl<;>intro ht<;>try omega)|((first|apply zB rfl|(apply zG<;>intro ht))<;>try simp (disch:=first|omega|simp only [lz,lu];try omega) only [go_sem,hz,hn']))
     refine zW.reg2 ?_ ?_
     ·simp (disch:=first|omega|simp only [lz,lu];try omega) only [go_sem]
      repeat' (first|apply zA rfl|(apply zd_ rfl<;>intro ht<;>try omega)|((first|apply zB rfl|(apply callW.mk_pu;(first|exact(fun _=>hS _)|exact(fun _=>hI _ _)|exact(fun _=>hN _)))|(apply callW.za;(first|exact(hS _)|exact(hI _ _)|exact(hN _)))|(apply zG<;>intro ht))<;>try simp (disch:=first|omega|simp only [lz,lu];try omega) only [go_sem,hm1,hmm,his',e1,e2]))
      exact DownV.pure hw z74
     ·simp (disch:=first|omega|simp only [lz,lu];try omega) only [go_sem]
      repeat' (first|apply zA rfl|(apply zd_ rfl<;>intro ht<;>try omega)|((first|apply zB rfl|(apply callW.mk_pu;(first|exact(fun _=>hS _)|exact(fun _=>hI _ _)|exact(fun _=>hN _)))|(apply callW.za;(first|exact(hS _)|exact(hI _ _)|exact(hN _)))|(apply zG<;>intro ht))<;>try simp (disch:=first|omega|simp only [lz,lu];try omega) only [go_sem,hm1,hmm,his',e1,e2]))
      exact DownV.pure hw z74
end
section
theorem spl8:z1c 8=4:=zcy 2
theorem spl4:z1c 4=2:=zcy 1
theorem spl2:z1c 2=1:=zcy 0
theorem zs2(hi:i<8)(leaf root:Hash):∀(path:List Hash),path.length ≠ 3->z2y (z2e path leaf i 7) root path.length=80:=by
 have:i=0 \/i=1 \/i=2 \/i=3 \/i=4 \/i=5 \/i=6 \/i=7:=by omega
 intro path h
 match path,h with
 | [],_=>rcases this with rfl|rfl|rfl|rfl|rfl|rfl|rfl|rfl<;>simp [z2e,z2y]
 | [a],_=>rcases this with rfl|rfl|rfl|rfl|rfl|rfl|rfl|rfl<;>simp [z2e,z2y,z2m]
 | [a,b],_=>rcases this with rfl|rfl|rfl|rfl|rfl|rfl|rfl|rfl<;>simp [z2e,z2y,z2m]
 |a::b::c::d::r,_=>rcases this with rfl|rfl|rfl|rfl|rfl|rfl|rfl|rfl<;>simp [z2e,z2y,z2m]
theorem zs7(hi:i<8)(leaf:Hash):∀(rp:List Hash),rp.length ≠ 3->(z2o rp leaf i 8).2=false:=by
 have:i=0 \/i=1 \/i=2 \/i=3 \/i=4 \/i=5 \/i=6 \/i=7:=by omega
 intro path h
 match path,h with
 | [],_=>simp [z2o]
 | [a],_=>rcases this with rfl|rfl|rfl|rfl|rfl|rfl|rfl|rfl<;>simp [z2o,spl8]
 | [a,b],_=>rcases this with rfl|rfl|rfl|rfl|rfl|rfl|rfl|rfl<;>simp [z2o,spl8,spl4]
 |a::b::c::d::r,_=>rcases this with rfl|rfl|rfl|rfl|rfl|rfl|rfl|rfl<;>simp [z2o,spl8,spl4,spl2]
theorem chk8(leaf:Hash)(i:Int)(path:List Hash)(root:Hash):chkP leaf i 8 path root=chkR leaf i 8 path root:=by
 unfold chkP chkR
 by_cases h:(8:Int)<1 \/(4096:Int)<8 \/i<0 \/8<=i
 ·rw [if_pos h,if_pos h]
 ·rw [if_neg h,if_neg h]
  obtain⟨i,rfl⟩:∃k:Nat,i=k:=⟨i.toNat,by omega⟩
  have hi:i<8:=by omega
  rw [Int.toNat_natCast,show (8:Int).toNat-1=7 from rfl,show (8:Int).toNat=8 from rfl]
  by_cases h3:path.length=3
  ·match path,h3 with
   | [a,b,c],_=>
    have:i=0 \/i=1 \/i=2 \/i=3 \/i=4 \/i=5 \/i=6 \/i=7:=by omega
    rcases this with rfl|rfl|rfl|rfl|rfl|rfl|rfl|rfl<;>simp [z2e,z2y,z2m,z2o,spl8,spl4,spl2]
  ·rw [zs2 hi leaf root path h3,zs7 hi leaf path.reverse (by rw [List.length_reverse];exact h3),if_pos (.inl rfl)]
attribute [local irreducible] ACallsTo ACallsP
theorem zzh(O:Store)(leaf:Hash)(i n:Int)(path:List Hash)(x:AV)(root:Hash)(hx:SlV 32 (hr path) x)(hl:path.length<1000000)(hi: -9223372036854775808<=i/\ i<=9223372036854775807)(hn: -9223372036854775808<=n/\ n<=9223372036854775807):
  ACallsTo TC 140 [.agg (hc leaf),.int .i64 i,.int .i64 n,x,.agg (hc root)] O (.int .i64 (chkR leaf i n path root)) O:=by
 have r1:=hx.len
 rw [zn]at r1
 unfold z1f at r1
 unfold chkR
 by_cases hb:n<1 \/4096<n \/i<0 \/n<=i
 ·rw [if_pos hb]
  refine ACallsTo.of_body q16ok (by simp) fun hw _=> ?_
  repeat' (first|apply zA rfl|(apply zd_ rfl<;>intro ht<;>try omega)|((first|apply zB rfl|(apply zG<;>intro ht))<;>try simp (disch:=first|omega|simp only [lz,lu];try omega) only [go_sem]))
  all_goals exact DownV.pure hw (z15 _ rfl)
 ·rw [if_neg hb]
  obtain⟨i,rfl⟩:∃k:Nat,i=k:=⟨i.toNat,by omega⟩
  obtain⟨n,rfl⟩:∃l:Nat,n=(l:Int):=⟨n.toNat,by omega⟩
  rw [Int.toNat_natCast,Int.toNat_natCast]
  have hC:=fun O=>come_v path.length O leaf i n path x (Nat.le_refl _) hx hl (by omega) (by omega) (by omega)
  generalize z2o path.reverse leaf i n=r at*
  obtain⟨h,b⟩:=r
  refine ACallsTo.of_body q16ok (by simp) fun hw _=> ?_
  cases b with
  |false=>
   rw [if_pos (.inl rfl)]
   repeat' (first|apply zA rfl|(apply zd_ rfl<;>intro ht<;>try omega)|((first|apply zB rfl|(apply callW.mk_pu;exact(fun _=>hC _))|(apply callW.za;exact(hC _))|(apply zG<;>intro ht))<;>try simp (disch:=first|omega|simp only [lz,lu];try omega) only [go_sem]))
   exact DownV.pure hw (z15 _ rfl)
  |true=>
   by_cases hr:h=root
   ·subst hr
    rw [if_neg (by simp)]
    repeat' (first|apply zA rfl|(apply zd_ rfl<;>intro ht<;>try omega)|((first|apply zB rfl|(apply callW.mk_pu;exact(fun _=>hC _))|(apply callW.za;exact(hC _))|(apply zG<;>intro ht))<;>try simp (disch:=first|omega|simp only [lz,lu];try omega) only [go_sem]))
    exact DownV.pure hw (z15 _ rfl)
   ·rw [if_pos (.inr hr)]
    repeat' (first|apply zA rfl|(apply zd_ rfl<;>intro ht<;>try omega)|((first|apply zB rfl|(apply callW.mk_pu;exact(fun _=>hC _))|(apply callW.za;exact(hC _))|(apply zG<;>intro ht))<;>try simp (disch:=first|omega|simp only [lz,lu];try omega) only [go_sem,hr]))
    exact DownV.pure hw (z15 _ rfl)
end
section
def verI(root dg:Hash)(i:Int)(sig:List UInt8)(path:List Hash):Int:=
 if i<0 \/8<=i then 2 else if sig.length=16384 then(if chkP (z31 (recF sig dg.1 256)) i 8 path root=0 then 0 else 81)else 81
theorem RdSl.cells(h:RdSl O sz es x):cellsOf x=some [x]:=by
 rcases h with h| ⟨r,off,lim,o,rfl,_⟩
 ·exact z10z h
 ·rfl
attribute [local irreducible] ACallsTo ACallsP
theorem zpd(O:Store)(leaf:Hash)(i n:Int)(path:List Hash)(x:AV)(root:Hash)(hx:RdSl O 32 (hr path) x)(hl:path.length<1000000)(hi: -9223372036854775808<=i/\ i<=9223372036854775807)(hn: -9223372036854775808<=n/\ n<=9223372036854775807):
  ACallsTo TC 135 [.agg (hc leaf),.int .i64 i,.int .i64 n,x,.agg (hc root)] O (.int .i64 (chkP leaf i n path root)) O:=by
 obtain⟨x0,h0,hd⟩:=hx.lend (z3e path)
 have hi':∀i:Int,RL 0 (.int .i64 i):=fun i=>by simp [RL]
 have:=ACallsTo.lend glok (zpe [] leaf i n path x0 root h0 hl hi hn) (drsc (rl0 (z49 leaf) O) (drsc (rl0 (hi' i) O) (drsc (rl0 (hi' n) O) (drsc hd (drs1 (rl0 (z49 root) O))))))
 rwa [show sh O.length (.int .i64 (chkP leaf i n path root))=.int .i64 (chkP leaf i n path root)from rfl,z5b,List.append_nil]at this
theorem zzg(O:Store)(leaf:Hash)(i n:Int)(path:List Hash)(x:AV)(root:Hash)(hx:RdSl O 32 (hr path) x)(hl:path.length<1000000)(hi: -9223372036854775808<=i/\ i<=9223372036854775807)(hn: -9223372036854775808<=n/\ n<=9223372036854775807):
  ACallsTo TC 140 [.agg (hc leaf),.int .i64 i,.int .i64 n,x,.agg (hc root)] O (.int .i64 (chkR leaf i n path root)) O:=by
 obtain⟨x0,h0,hd⟩:=hx.lend (z3e path)
 have hi':∀i:Int,RL 0 (.int .i64 i):=fun i=>by simp [RL]
 have:=ACallsTo.lend glok (zzh [] leaf i n path x0 root h0 hl hi hn) (drsc (rl0 (z49 leaf) O) (drsc (rl0 (hi' i) O) (drsc (rl0 (hi' n) O) (drsc hd (drs1 (rl0 (z49 root) O))))))
 rwa [show sh O.length (.int .i64 (chkR leaf i n path root))=.int .i64 (chkR leaf i n path root)from rfl,z5b,List.append_nil]at this
theorem zq4(O:Store)(root dg:Hash)(i:Int)(sig:List UInt8)(path:List Hash)(x:AV)(hx:RdSl O 32 (hr path) x)(hl:path.length<1000000)(hs:sig.length<1000000)(hi: -9223372036854775808<=i/\ i<=9223372036854775807):
  ACallsTo TC 98 [.agg (hc root),.agg (hc dg),.agg [.int .i64 i,.str sig,x]] O (.int .i64 (verI root dg i sig path)) O:=by
 have xc:=hx.cells
 unfold cellsOf at xc
 have hR:=fun O=>zpy O sig dg hs
 have hC:=fun y=>zpd (O++y) (z31 (recF sig dg.1 256)) i 8 path x root hx.app hl hi (by omega)
 unfold verI
 unfold recV at hR
 refine ACallsTo.of_body q1mok (by simp) fun hw _=> ?_
 by_cases hb:i<0 \/8<=i
 ·rw [if_pos hb]
  repeat' (first|apply zA rfl|(apply zd_ rfl<;>intro ht<;>try omega)|((first|apply zB rfl|(apply zG<;>intro ht))<;>try simp (disch:=first|omega|simp only [lz,lw];try omega) only [go_sem]))
  all_goals exact DownV.pure hw (z15 _ rfl)
 ·rw [if_neg hb]
  by_cases h16:sig.length=16384
  ·rw [if_pos h16]
   rw [if_pos h16]at hR
   generalize z31 (recF sig dg.1 256)=L at*
   generalize chkP L i 8 path root=c at*
   by_cases h0:c=0
   ·subst h0
    rw [if_pos rfl]
    repeat' (first|apply zA rfl|(apply zd_ rfl<;>intro ht<;>try omega)|((first|apply zB rfl|(apply callW.mk_pu;(first|exact(fun _=>hR _)|exact(fun _=>hC _)))|(apply callW.za;(first|exact(hR _)|exact(hC _)))|(apply zG<;>intro ht))<;>try simp (disch:=first|omega|simp only [lz,lw];try omega) only [go_sem]))
    all_goals exact DownV.pure hw (z15 _ rfl)
   ·rw [if_neg h0]
    repeat' (first|apply zA rfl|(apply zd_ rfl<;>intro ht<;>try omega)|((first|apply zB rfl|(apply callW.mk_pu;(first|exact(fun _=>hR _)|exact(fun _=>hC _)))|(apply callW.za;(first|exact(hR _)|exact(hC _)))|(apply zG<;>intro ht))<;>try simp (disch:=first|omega|simp only [lz,lw];try omega) only [go_sem,h0]))
    all_goals exact DownV.pure hw (z15 _ rfl)
  ·rw [if_neg h16]
   rw [if_neg h16]at hR
   repeat' (first|apply zA rfl|(apply zd_ rfl<;>intro ht<;>try omega)|((first|apply zB rfl|(apply callW.mk_pu;exact(fun _=>hR _))|(apply callW.za;exact(hR _))|(apply zG<;>intro ht))<;>try simp (disch:=first|omega|simp only [lz,lw];try omega) only [go_sem]))
   all_goals exact DownV.pure hw (z15 _ rfl)
theorem zzn(O:Store)(root dg:Hash)(i:Int)(sig:List UInt8)(path:List Hash)(x:AV)(hx:RdSl O 32 (hr path) x)(hl:path.length<1000000)(hs:sig.length<1000000)(hi: -9223372036854775808<=i/\ i<=9223372036854775807):
  ACallsTo TC 107 [.agg (hc root),.agg (hc dg),.agg [.int .i64 i,.str sig,x]] O (.int .i64 (verI root dg i sig path)) O:=by
 have xc:=hx.cells
 unfold cellsOf at xc
 have hR:=fun O=>zzm O sig dg hs
 have hC:=fun y=>zzg (O++y) (z31 (recF sig dg.1 256)) i 8 path x root hx.app hl hi (by omega)
 unfold verI
 unfold recV at hR
 rw [<-chk8]at hC
 refine ACallsTo.of_body q1nok (by simp) fun hw _=> ?_
 by_cases hb:i<0 \/8<=i
 ·rw [if_pos hb]
  repeat' (first|apply zA rfl|(apply zd_ rfl<;>intro ht<;>try omega)|((first|apply zB rfl|(apply zG<;>intro ht))<;>try simp (disch:=first|omega|simp only [lz,lw];try omega) only [go_sem]))
  all_goals exact DownV.pure hw (z15 _ rfl)
 ·rw [if_neg hb]
  by_cases h16:sig.length=16384
  ·rw [if_pos h16]
   rw [if_pos h16]at hR
   generalize z31 (recF sig dg.1 256)=L at*
   generalize chkP L i 8 path root=c at*
   by_cases h0:c=0
   ·subst h0
    rw [if_pos rfl]
    repeat' (first|apply zA rfl|(apply zd_ rfl<;>intro ht<;>try omega)|((first|apply zB rfl|(apply callW.mk_pu;(first|exact(fun _=>hR _)|exact(fun _=>hC _)))|(apply callW.za;(first|exact(hR _)|exact(hC _)))|(apply zG<;>intro ht))<;>try simp (disch:=first|omega|simp only [lz,lw];try omega) only [go_sem]))
    all_goals exact DownV.pure hw (z15 _ rfl)
   ·rw [if_neg h0]
    repeat' (first|apply zA rfl|(apply zd_ rfl<;>intro ht<;>try omega)|((first|apply zB rfl|(apply callW.mk_pu;(first|exact(fun _=>hR _)|exact(fun _=>hC _)))|(apply callW.za;(first|exact(hR _)|exact(hC _)))|(apply zG<;>intro ht))<;>try simp (disch:=first|omega|simp only [lz,lw];try omega) only [go_sem,h0]))
    all_goals exact DownV.pure hw (z15 _ rfl)
  ·rw [if_neg h16]
   rw [if_neg h16]at hR
   repeat' (first|apply zA rfl|(apply zd_ rfl<;>intro ht<;>try omega)|((first|apply zB rfl|(apply callW.mk_pu;exact(fun _=>hR _))|(apply callW.za;exact(hR _))|(apply zG<;>intro ht))<;>try simp (disch:=first|omega|simp only [lz,lw];try omega) only [go_sem]))
   all_goals exact DownV.pure hw (z15 _ rfl)
end
section
def secM(seed:List UInt8)(idx k:Int):List UInt8:=2::(z23 seed++(putS idx 4++putS k 2))
def secH(seed:List UInt8)(idx k:Int):Hash:=shaH (secM seed idx k)
def shwH(seed:List UInt8)(idx k:Int):Hash:=z5c (secH seed idx k).1
def pubH(seed:List UInt8)(idx:Int):List Hash:=(List.range 512).map fun k:Nat=>shwH seed idx k
theorem zc2(x n:Int):(putS x n).length<=8:=by
 unfold putS
 split
 ·rw [z44];omega
 ·simp
theorem zh9(s:List UInt8):(z23 s).length<=s.length+11:=by
 unfold z23
 have:=z1u s.length
 rw [List.length_append];omega
theorem z106(seed:List UInt8)(idx k:Int):(secM seed idx k).length<=seed.length+40:=by
 unfold secM
 have:=zh9 seed
 have:=zc2 idx 4
 have:=zc2 k 2
 simp only [List.length_cons,List.length_append];omega
attribute [local irreducible] ACallsTo ACallsP
theorem zhu(O:Store)(seed:List UInt8)(idx i b:Int)(hs:seed.length<1000000)(hx:0<=idx/\ idx<2147483648)(hi:0<=i/\ i<256)(hb:0<=b/\ b<=1):ACallsTo TC 88 [.str seed,.int .i64 idx,.int .i64 i,.int .i64 b] O (.agg (hc (secH seed idx (2*i+b)))) O:=by
 have hT:=fun O=>zdu O seed (by omega)
 have hP1:=fun O=>z6g O idx 4 (by omega) (by omega)
 have hP2:=fun O=>z6g O (2*i+b) 2 (by omega) (by omega)
 have hS:=fun O=>zcw O (secM seed idx (2*i+b)) (by have:=z106 seed idx (2*i+b);omega)
 have l1:=zh9 seed
 have l2:=zc2 idx 4
 have l3:=zc2 (2*i+b) 2
 unfold secH
 unfold secM at*
 generalize z23 seed=T at*
 generalize putS idx 4=A at*
 generalize putS (2*i+b) 2=B at*
 refine ACallsTo.of_body q1iok (by simp) fun hw _=> ?_
 repeat' (first|apply zA rfl|(apply zd_ rfl<;>intro ht<;>try omega)|((first|apply zB rfl|(apply callW.mk_pu;(first|exact(fun _=>hT _)|exact(fun _=>hP1 _)|exact(fun _=>hP2 _)|exact(fun _=>hS _)))|(apply callW.za;(first|exact(hT _)|exact(hP1 _)|exact(hP2 _)|exact(hS _)))|(apply zG<;>intro ht))<;>try simp (disch:=first|omega|simp only [lz,z8,zn,lQr,lQm];try omega) only [go_sem]))
 exact DownV.pure hw (z49 _)
end
section
theorem z4f(seed:List UInt8)(idx:Int):(pubH seed idx).length=512:=by simp [pubH]
theorem zm2(seed:List UInt8)(idx:Int)(k:Nat)(h:k<512):hd (pubH seed idx) k=shwH seed idx k:=by
 rw [z9d (by rw [z4f];exact h)]
 simp [pubH]
theorem zy7(seed:List UInt8)(idx:Int)(k:Nat)(h:k<512):(pubH seed idx).take (k+1)=(pubH seed idx).take k++ [shwH seed idx k]:=by
 rw [z5e (by rw [z4f];exact h),zm2 _ _ _ h]
def pubZ(seed:List UInt8)(idx:Int)(k:Nat):List Hash:=(pubH seed idx).take k++List.replicate (512-k) zeroH
theorem zy9(seed:List UInt8)(idx:Int)(k:Nat)(h:k<=512):(pubZ seed idx k).length=512:=by
 unfold pubZ
 rw [List.length_append,List.length_take,z4f,List.length_replicate];omega
theorem zya(seed:List UInt8)(idx:Int)(k:Nat)(h:k<512):(pubZ seed idx k).set k (shwH seed idx k)=pubZ seed idx (k+1):=by
 unfold pubZ
 have e:512-k=(512-(k+1))+1:=by omega
 have l:((pubH seed idx).take k).length=k:=by rw [List.length_take,z4f];omega
 rw [e,List.replicate_succ,List.set_append_right _ _ (by omega),l,Nat.sub_self,List.set_cons_zero,zy7 _ _ _ h,List.append_assoc]
 rfl
theorem zyb(seed:List UInt8)(idx:Int):pubZ seed idx 0=List.replicate 512 zeroH:=by unfold pubZ;rw [List.take_zero,Nat.sub_zero];exact List.nil_append _
theorem zy8(seed:List UInt8)(idx:Int):pubZ seed idx 512=pubH seed idx:=by
 unfold pubZ
 rw [List.take_of_length_le (by rw [z4f];omega)];simp
attribute [local irreducible] ACallsTo ACallsP pubH
theorem zhs(O:Store)(seed:List UInt8)(idx:Int)(hs:seed.length<1000000)(hx:0<=idx/\ idx<2147483648):ACallsTo TC 41 [.str seed,.int .i64 idx] O (zz 32 (hr (pubH seed idx))) O:=by
 refine ACallsTo.of_body q1aok (by simp) fun hw _=> ?_
 have hz:=zeh
 rw [zbg]at hz
 repeat' (first|apply zA rfl|(apply zd_ rfl<;>intro ht<;>try omega)|((first|apply zB rfl|(apply zG<;>intro ht))<;>try simp (disch:=first|omega|simp only [lz,z8,zn,lQr,lQm];try omega) only [go_sem,hz]))
 refine zW.loop (fun m J O'=>∃k:Nat,m+k=512/\ Ext O O'/\ O'[O.length]? =some (some (hr (pubZ seed idx k)))/\ J 0=.str seed/\ J 1=.int .i64 idx/\ J 5=.sl O.length 0 512 (some 512) 32/\ J 15=.int .i64 512/\ J 16=.int .i64 k) 512 ?_ ?_
 ·exact⟨0,by omega,(Ext.refl O).app,by rw [z18 (by omega),Nat.sub_self,zyb];rfl,by simp only [go_sem],by simp only [go_sem],by simp only [go_sem],by simp only [go_sem];rfl,by simp only [go_sem];rfl⟩
 ·rintro m J O' ⟨k,hm,he,c2,q0,q1,q5,q15,q16⟩
  have d2:=slen c2
  by_cases hk:k<512
  ·have hrl:=zy9 seed idx k (by omega)
   have hSe:=fun O=>zhu O seed idx ((k/2:Nat):Int) ((k%2:Nat):Int) hs hx (by omega) (by omega)
   have hkk:2*((k/2:Nat):Int)+((k%2:Nat):Int)=k:=by omega
   rw [hkk]at hSe
   have hH:=fun O=>z55 O (secH seed idx k)
   have hSh:=fun O=>zoa O (secH seed idx k).1 (by have:=(secH seed idx k).2;omega)
   have hst:=zya seed idx k hk
   rw [show z5c (secH seed idx k).1=shwH seed idx k from rfl]at hSh
   generalize pubZ seed idx k=L at*
   generalize shwH seed idx k=A at*
   generalize secH seed idx k=B at*
   have e1:(k:Int)/2=((k/2:Nat):Int):=by omega
   have e2:(k:Int)%2=((k%2:Nat):Int):=by omega
   have g1:=z6o (l:=L) (i:=k) (by omega)
   repeat' (first|apply zA rfl|(apply zd_ rfl<;>intro ht<;>try omega)|((first|apply zB rfl|(apply callW.mk_pu;(first|exact(fun _=>hSe _)|exact(fun _=>hH _)|exact(fun _=>hSh _)))|(apply callW.za;(first|exact(hSe _)|exact(hH _)|exact(hSh _)))|(apply zG<;>intro ht))<;>try simp (disch:=first|omega|simp only [lz,z8,zn,lQr,lQm];try omega) only [go_sem,q0,q1,q5,q15,q16,c2,e1,e2,g1]))
   exact⟨m-1,by omega,k+1,by omega,he.set (by omega),by rw [<-hst],by simp⟩
  ·obtain rfl:k=512:=by omega
   rw [zy8]at c2
   obtain⟨news,rfl⟩:=he
   repeat' (first|apply zA rfl|(apply zd_ rfl<;>intro ht<;>try omega)|((first|apply zB rfl|(apply zG<;>intro ht))<;>try simp (disch:=first|omega|simp only [lz,z8,zn,lQr,lQm];try omega) only [go_sem,q5,q15,q16]))
   refine DownV.all hw ?_
   have hne:hr (pubH seed idx) ≠ []:=fun e=>by have:=congrArg List.length e;rw [zn,z4f]at this;simp at this
   unfold zz
   rw [if_neg hne]
   have hf:=FrzD.sl (τ:=O) (news:=news) (r:=O.length) (off:=0) (lim:=some 512) (esz:=32) (o:=hr (pubH seed idx)) (es:=hr (pubH seed idx)) (by omega) c2 (by omega) (by simp) (z3e _)
   rw [show (hr (pubH seed idx)).length=512 by rw [zn,z4f]]at hf
   exact hf
end
end Am
end Go.Proofs.YtcdcmgjnbjoajaaGreatDoor
